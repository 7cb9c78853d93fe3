/- SyAttrAt turned to this seat. (Printed by gport.py.) -/
import Derived.Test.YtdnjkffmgmbfmaaHyOuOps
import Derived.Test.YtdnjkffmgmbfmaaBwWeighPlain
import Derived.Test.YtdnjkffmgmbfmaaHyWiLate
import Derived.WalkKit
import Derived.WalkLawsBesides
import Derived.Deep.Cut
import Derived.Deep.CutBlock
import Derived.BigQuiet
import Derived.Deep.QuietTactic
import Derived.IntWalk
import Derived.Test.YtdnjkffmgmbfmaaProg
namespace Go.Proofs.Ytdnjkffmgmbfmaa.Sy
open Go.RowKit Go.Proofs.Ytdnjkffmgmbfmaa.Bw Go.Proofs.Ytdnjkffmgmbfmaa.Bs
def geS (a b : ByteArray) : Bool := !Op.bytesLess a.toList b.toList
/-- Attributes with one set. -/
def atS (k v : ByteArray) : List Atr → Bool → List Atr
 | [], d => if d then [] else [(k, v)]
 | a :: r, d => (if !d && geS a.1 k then [(k, v)] else []) ++ ((if a.1.toList == k.toList then [] else [a]) ++ atS k v r (d || geS a.1 k))
def attrT (t : Nd) (o : OpD) : Nd := .mk t.id t.leaf t.label (atS o.key o.value t.attrs o.gone) t.text t.kids
def atrVals : List Atr → List Value
 | [] => []
 | a :: r => .string a.1 :: .string a.2 :: atrVals r
theorem atrVals_app : ∀ (l : List Atr) (a : Atr), atrVals (l ++ [a]) = atrVals l ++ [.string a.1, .string a.2]
 | [], a => rfl
 | x :: r, a => by rw [List.cons_append, atrVals, atrVals_app r a]; rfl
theorem atrVals_one : ∀ (l : List Atr), ∀ u ∈ atrVals l, u.oneCell' = true
 | [], u, h => absurd h List.not_mem_nil
 | a :: r, u, h => by
  rw [atrVals] at h
  rcases List.mem_cons.1 h with rfl | h
  ·rfl
  ·rcases List.mem_cons.1 h with rfl | h
   ·rfl
   ·exact atrVals_one r u h
theorem atrVals_cells (W : World) : ∀ (l : List Atr), (∀ a ∈ l, okStr a.1 ∧ okStr a.2) → rowCells RdAtr 2 W l (atrVals l)
 | [], _ => rfl
 | a :: r, h => ⟨[.string a.1, .string a.2], atrVals r, rfl, ⟨rfl, (h a (List.mem_cons_self ..)).1, (h a (List.mem_cons_self ..)).2⟩, rfl, atrVals_cells W r (fun b hb => h b (List.mem_cons_of_mem _ hb))⟩
theorem atS_ok {k v : ByteArray} (hk : okStr k) (hv : okStr v) : ∀ (l : List Atr) (d : Bool), (∀ a ∈ l, okStr a.1 ∧ okStr a.2) → ∀ a ∈ atS k v l d, okStr a.1 ∧ okStr a.2
 | [], d, _, a, h => by
  cases d
  ·simp only [atS, Bool.false_eq_true, if_false, List.mem_singleton] at h; subst h; exact ⟨hk, hv⟩
  ·simp only [atS, if_true] at h; exact absurd h List.not_mem_nil
 | x :: r, d, hl, a, h => by
  simp only [atS, List.mem_append] at h
  rcases h with h | h | h
  ·split at h
   ·rw [List.mem_singleton] at h; subst h; exact ⟨hk, hv⟩
   ·exact absurd h List.not_mem_nil
  ·split at h
   ·exact absurd h List.not_mem_nil
   ·rw [List.mem_singleton] at h; subst h; exact hl _ (List.mem_cons_self ..)
  ·exact atS_ok hk hv r _ (fun b hb => hl b (List.mem_cons_of_mem _ hb)) a h
theorem rdAttrs_ok {w : World} {b : Nat} : ∀ {l : List Atr} {off : Nat}, rdAttrs w b off l → ∀ a ∈ l, okStr a.1 ∧ okStr a.2
 | [], _, _, a, h => absurd h List.not_mem_nil
 | (k, v) :: r, off, ⟨_, _, h3, h4, h5⟩, a, h => by
  rcases List.mem_cons.1 h with rfl | h
  ·exact ⟨h3, h4⟩
  ·exact rdAttrs_ok h5 a h
theorem RdA.ok {w : World} {l : List Atr} {v : Value} (h : RdA w l v) : ∀ a ∈ l, okStr a.1 ∧ okStr a.2 := by
 intro a ha
 obtain ⟨A, c, rfl, -, -, h3⟩ := h
 obtain ⟨b, off, -, h4⟩ := h3 (List.ne_nil_of_mem ha)
 exact rdAttrs_ok h4 a ha
theorem rdA_cells {w : World} {l : List Atr} {A : Option Addr} {n c i : Nat} {k v : ByteArray} (h : RdA w l (.slice A n c)) (hi : l[i]? = some (k, v)) : ∃ b off, A = some ⟨b, off, none⟩ ∧ w.cell? ⟨b, off + i * 2, none⟩ = some (.string k) ∧ w.cell? ⟨b, off + i * 2 + 1, none⟩ = some (.string v) := by
 obtain ⟨A', c', he, -, -, h3⟩ := h
 simp only [Value.slice.injEq] at he
 obtain ⟨rfl, -, -⟩ := he
 obtain ⟨b, off, hA, h4⟩ := h3 (by intro h; rw [h] at hi; cases hi)
 obtain ⟨h5, h6, -, -⟩ := rdAttrs_at h4 hi
 exact ⟨b, off, hA, h5, h6⟩
theorem attr_fin {w w1 w6 w7 w9 wo : World} {B lc : Nat} {lA : Option Addr} {kv : Value} (hB : w.heap.size = B) (hZ : w1.heap.size = B + 1 + 1 + 1) (F7 : Fr w6 w7 (fun k => k = B)) (F9 : Fr w7 w9 (fun k => k = B + 1 + 1)) {t : Nd} {o : OpD} {M FIN : List Atr}
  (hO : w6.ownsRow w1.heap.size 73 2 (.slice lA M.length lc) M.length (atrVals M)) (hM : M = FIN) (hF : atS o.key o.value t.attrs o.gone = FIN) (hok : OkO o) (hao : ∀ a ∈ t.attrs, okStr a.1 ∧ okStr a.2)
  (hT : 0 ≤ t.id ∧ t.id ≤ 18446744073709551615 ∧ t.label.size ≤ maxLen ∧ t.text.size ≤ maxLen ∧ RdK wo t.kids kv) : LateN wo w w9 (attrT t o) (.agg #[.int .u64 t.id, .bool t.leaf, .string t.label, .slice lA M.length lc, .string t.text, kv]) := by
 intro W hS hN
 have h7 : News w1 w6 w7 := news_fr (News.now _ _) F7 (Nat.le_refl _) (fun i hi => .inl (by rw [show i = B from hi]; omega))
 have h9 : News w1 w6 w9 := news_fr h7 F9 F7.size (fun i hi => .inl (by rw [show i = B + 1 + 1 from hi]; omega))
 have h10 := news_sub hN h9 (by omega) (Nat.le_trans F7.size F9.size)
 have hW := owns_news hO h10 (Nat.le_refl _)
 have hall : ∀ a ∈ M, okStr a.1 ∧ okStr a.2 := by rw [hM, ← hF]; exact atS_ok hok.key hok.value _ _ hao
 have hr : RdA W M (.slice lA M.length lc) := RdA.of_row hW (atrVals_cells W M hall)
 have e : (attrT t o).attrs = M := by rw [hM, ← hF]; rfl
 exact Nd.rd_shut (t := attrT t o) hT.1 hT.2.1 hT.2.2.1 hT.2.2.2.1 (by rw [e]; exact hr) (RdK.sub hS hT.2.2.2.2)
theorem T39 : SliceT Try.prog 39 73 (.agg #[.string ⟨#[]⟩, .string ⟨#[]⟩]) 2 32 := SliceT.mk' Try.underlying39 (by kernel_rfl) rfl (by decide)
theorem NBox.row2 {W : World} {g : Nat} {a b : Value} (h : NBox W g 73 #[a, b]) : RdS W 2 1 [a, b] (.slice (some ⟨g, 0, none⟩) 1 1) :=
 RdS.of_owns (base := 0) (e := 73) ⟨rfl, .inr ⟨g, 1, _, rfl, Nat.zero_le _, h, Nat.le_refl _, by simp [maxLen], rfl, rfl⟩⟩
set_option maxRecDepth 100000 in
set_option maxHeartbeats 8000000 in
theorem attr_late (t : Nd) (o : OpD) (v ov : Value) (wo w : World) (hWo : Wo wo w) (ht : t.rd wo v) (ho : o.rd w ov) (hkl : t.attrs.length ≤ 1000000) :
  Calls Try.prog 46 #[v, ov] w (Ret w fun r w' => LateN wo w w' (attrT t o) r) := by
 obtain ⟨av, kv, hv, i0, i1, hl, htx, hA, hK⟩ := Nd.rd_open ht
 obtain ⟨tA, tc, tK, td, rfl⟩ := rd_open6 ht
 simp only [Value.agg.injEq, Array.mk.injEq, List.cons.injEq, and_true, true_and] at hv
 obtain ⟨rfl, rfl⟩ := hv
 have hok := OpD.rd_ok ho
 obtain ⟨pA, pc, oA, oc, cA, cc, rfl, -⟩ := rdO_cells ho
 obtain ⟨w1, hw1⟩ : ∃ W, ((w.alloc (.cells #[.int .u64 t.id, .bool t.leaf, .string t.label, .slice tA t.attrs.length tc, .string t.text, .slice tK t.kids.length td] 42)).alloc (.cells #[.int .u8 o.kind, .slice pA o.path.length pc, .int .i64 o.at_, .slice oA o.to.length oc, .int .u64 o.id, .bool o.leaf, .string o.label, .string o.key, .string o.value, .bool o.gone, .slice cA o.pcs.length cc] 26)).alloc (.cells #[.int .u64 0, .bool false, .string ⟨#[]⟩, .slice none 0 0, .string ⟨#[]⟩, .slice none 0 0] 42) = W := ⟨_, rfl⟩
 obtain ⟨B, hB⟩ : ∃ B, w.heap.size = B := ⟨_, rfl⟩
 have s1 : (w.alloc (.cells #[.int .u64 t.id, .bool t.leaf, .string t.label, .slice tA t.attrs.length tc, .string t.text, .slice tK t.kids.length td] 42)).heap.size = B + 1 := by rw [World.size_alloc, hB]
 have s2 : ((w.alloc (.cells #[.int .u64 t.id, .bool t.leaf, .string t.label, .slice tA t.attrs.length tc, .string t.text, .slice tK t.kids.length td] 42)).alloc (.cells #[.int .u8 o.kind, .slice pA o.path.length pc, .int .i64 o.at_, .slice oA o.to.length oc, .int .u64 o.id, .bool o.leaf, .string o.label, .string o.key, .string o.value, .bool o.gone, .slice cA o.pcs.length cc] 26)).heap.size = B + 1 + 1 := by rw [World.size_alloc, s1]
 have E1 : Ext w w1 := by rw [← hw1]; exact (((Ext.refl w).alloc _).alloc _).alloc _
 have z1 : w1.heap.size = B + 1 + 1 + 1 := by rw [← hw1, World.size_alloc, s2]
 have b0 : NBox w1 B 42 #[.int .u64 t.id, .bool t.leaf, .string t.label, .slice tA t.attrs.length tc, .string t.text, .slice tK t.kids.length td] := by rw [← hw1, ← hB]; exact (NBox.new w 42 _).ext (((Ext.refl _).alloc _).alloc _)
 have b1 : NBox w1 (B + 1) 26 #[.int .u8 o.kind, .slice pA o.path.length pc, .int .i64 o.at_, .slice oA o.to.length oc, .int .u64 o.id, .bool o.leaf, .string o.label, .string o.key, .string o.value, .bool o.gone, .slice cA o.pcs.length cc] := by rw [← hw1, ← s1]; exact (NBox.new _ 26 _).ext ((Ext.refl _).alloc _)
 have b2 : NBox w1 (B + 1 + 1) 42 #[.int .u64 0, .bool false, .string ⟨#[]⟩, .slice none 0 0, .string ⟨#[]⟩, .slice none 0 0] := by rw [← hw1, ← s2]; exact NBox.new _ 42 _
 obtain ⟨FIN, hF⟩ : ∃ F, atS o.key o.value t.attrs o.gone = F := ⟨_, rfl⟩
 have HW1 := Lib.hid hw1
 have HBB := Lib.hid hB
 have HB0 := Lib.hid b0
 have HB1 := Lib.hid b1
 have HB2 := Lib.hid b2
 have HE := Lib.hid E1
 have HWO := Lib.hid hWo
 have HZ1 := Lib.hid z1
 have HOK := Lib.hid hok
 have HA := Lib.hid hA
 have HFF := Lib.hid hF
 have HT := Lib.hid (show _ ∧ _ ∧ _ ∧ _ ∧ _ from ⟨i0, i1, hl, htx, hK⟩)
 have HAO := Lib.hid (RdA.ok hA)
 have k9 := b1.cell 9
 clear hw1 hB s1 s2 E1 b0 b1 b2 z1 hWo ht ho hK hA i0 i1 hl htx hF hok
 go_enter Try.func46, Try.ntmps46
 go_upto_region 2 with fail
 rw [HW1.out, HBB.out]
 clear HW1
 go_wp2_with fail
 clear k9
 go_loopw [5, 6, 7] (fun s5 s6 s7 wr => ∃ (i : Nat) (d : Bool) (L : List Atr) (lA : Option Addr) (lc : Nat), s7 = .int .i64 (i : Int) ∧ s6 = .bool d ∧ s5 = .slice lA L.length lc ∧ i ≤ t.attrs.length ∧ L.length ≤ 2 * i ∧ Hid (Ext w1 wr) ∧ Hid (wr.ownsRow w1.heap.size 73 2 (.slice lA L.length lc) L.length (atrVals L)) ∧ Hid (L ++ atS o.key o.value (t.attrs.drop i) d = FIN)) (fun _ _ s7 _ => t.attrs.length - (intOf s7).toNat)
 case atStart => exact ⟨0, o.gone, [], none, 0, rfl, rfl, rfl, Nat.zero_le _, Nat.le_refl _, Lib.hid (Ext.refl _), Lib.hid ⟨rfl, .inl ⟨rfl, rfl⟩⟩, HFF⟩
 case round =>
  obtain ⟨i, d, L, lA, lc, rfl, rfl, rfl, hi, hLi, HX, HO, HN⟩ := hrel
  have hb0 := HB0.out.ext HX.out
  have hb1 := HB1.out.ext HX.out
  have t3 := hb0.cell 3
  have k7 := hb1.cell 7
  have k8 := hb1.cell 8
  rcases Nat.lt_or_ge i t.attrs.length with hlt | hge
  ·obtain ⟨⟨ak, av⟩, ha⟩ : ∃ a, t.attrs[i]? = some a := ⟨_, List.getElem?_eq_getElem hlt⟩
   obtain ⟨ab, ao, hAe, hc1, hc2⟩ := rdA_cells HA.out ha
   subst hAe
   have c1 := (((HWO.out.ext HE.out).ext HX.out).sub).cell hc1
   have c2 := (((HWO.out.ext HE.out).ext HX.out).sub).cell hc2
   have q1 : (0 : Int) ≤ (i : Int) := by omega
   have q2 : (i : Int) < (t.attrs.length : Int) := by omega
   have HDR := Lib.hid (drop_at ha)
   have HAK := Lib.hid (HAO.out _ (List.mem_of_getElem? ha))
   have HC1 := Lib.hid hc1
   have HC2 := Lib.hid hc2
   clear hc1 hc2 ha hb0 hb1
   rcases d with _ | _
   ·skip
    rcases hg : Op.bytesLess ak.toList o.key.toList with _ | _
    ·have HN1 : Hid ((L ++ [(o.key, o.value)]) ++ ((if ak.toList == o.key.toList then [] else [(ak, av)]) ++ atS o.key o.value (t.attrs.drop (i + 1)) true) = FIN) := Lib.hid (by have h := HN.out; rw [HDR.out, atS] at h; simpa [geS, hg] using h)
     go_wp2_with fail
     go_quiet (fail)
     go_upto_region 7 with fail
     obtain ⟨wq, hwq⟩ : ∃ W, wr.drewN nq = W := ⟨_, rfl⟩
     rw [hwq]
     have HXq := Lib.hid (show Ext w1 wq from by rw [← hwq]; exact HX.out.drewN nq)
     have HOq := Lib.hid (owns_ext (show Ext wr wq from by rw [← hwq]; exact (Ext.refl _).drewN nq) HO.out)
     clear hwq t3 k7 k8 c1 c2 HX HO
     have hb0 := HB0.out.ext HXq.out
     have hb1 := HB1.out.ext HXq.out
     have t3 := hb0.cell 3
     have k7 := hb1.cell 7
     have k8 := hb1.cell 8
     have c1 := (((HWO.out.ext HE.out).ext HXq.out).sub).cell HC1.out
     have c2 := (((HWO.out.ext HE.out).ext HXq.out).sub).cell HC2.out
     clear hb0 hb1
     obtain ⟨ywv, hywv⟩ : ∃ W, wq.alloc (.cells #[.string o.key, .string o.value] 73) = W := ⟨_, rfl⟩
     obtain ⟨Nwv, hNwv⟩ : ∃ g, wq.heap.size = g := ⟨_, rfl⟩
     have X4 : Ext wq ywv := by rw [← hywv]; exact (Ext.refl _).alloc _
     have bN : NBox ywv Nwv 73 #[.string o.key, .string o.value] := by rw [← hywv, ← hNwv]; exact NBox.new _ _ _
     have ho4 := owns_ext X4 HOq.out
     have hr4 := NBox.row2 bN
     have hn4 : ∀ u ∈ [Value.string o.key, .string o.value], u.oneCell' = true := atrVals_one [(o.key, o.value)]
     have hs4 := (HXq.out.trans X4).size
     have HX4 := Lib.hid (HXq.out.trans X4)
     have HY4 := Lib.hid hywv
     have HN4 := Lib.hid hNwv
     clear hywv hNwv X4 bN
     go_wp2_with (first | (at_builtin; rw [HY4.out, HN4.out]; refine wpList_append_rd rfl rfl T39 (v := _) (by rfl) ho4 (by rfl) hr4 hn4 (by omega) (by simp only [maxLen]; omega) hs4 ?_))
     intro v6 wv h6 hg6 hat6
     have HXv := Lib.hid (Fr.ext HX4.out (Fr.grown hg6) (fun k hk => owns_base ho4 k hk))
     obtain ⟨M, hM⟩ : ∃ q, L ++ [(o.key, o.value)] = q := ⟨_, rfl⟩
     have lM : M.length = L.length + 1 := by rw [← hM, List.length_append]; rfl
     have h6 := own_as (m := M.length) (ys := atrVals M) h6 lM.symm (by rw [← hM, atrVals_app])
     obtain ⟨mA, mc, rfl, -⟩ := RdS.of_owns h6
     have HOv := Lib.hid h6
     have HM := Lib.hid hM
     have bM : M.length ≤ L.length + 1 := Nat.le_of_eq lM
     clear lM
     clear h6 hg6 hat6 ho4 hr4 hn4 hs4 HX4 HY4 HN4 t3 k7 k8 c1 c2 hM HXq HOq
     have hb0 := HB0.out.ext HXv.out
     have hb1 := HB1.out.ext HXv.out
     have t3 := hb0.cell 3
     have k7 := hb1.cell 7
     have k8 := hb1.cell 8
     have c1 := (((HWO.out.ext HE.out).ext HXv.out).sub).cell HC1.out
     have c2 := (((HWO.out.ext HE.out).ext HXv.out).sub).cell HC2.out
     clear hb0 hb1
     rw [HM.out] at HN1
     rcases he : (ak.toList == o.key.toList) with _ | _
     ·have HN2 : Hid ((M ++ [(ak, av)]) ++ atS o.key o.value (t.attrs.drop (i + 1)) true = FIN) := Lib.hid (by have h := HN1.out; rw [he] at h; simpa using h)
      try go_upto_region 9 with fail
      go_quiet (fail)
      go_upto_region 10 with fail
      obtain ⟨wz, hwz⟩ : ∃ W, wv.drewN nq = W := ⟨_, rfl⟩
      rw [hwz]
      have HXz := Lib.hid (show Ext w1 wz from by rw [← hwz]; exact HXv.out.drewN nq)
      have HOz := Lib.hid (owns_ext (show Ext wv wz from by rw [← hwz]; exact (Ext.refl _).drewN nq) HOv.out)
      clear hwz t3 k7 k8 c1 c2 HXv HOv
      have hb0 := HB0.out.ext HXz.out
      have hb1 := HB1.out.ext HXz.out
      have t3 := hb0.cell 3
      have k7 := hb1.cell 7
      have k8 := hb1.cell 8
      have c1 := (((HWO.out.ext HE.out).ext HXz.out).sub).cell HC1.out
      have c2 := (((HWO.out.ext HE.out).ext HXz.out).sub).cell HC2.out
      clear hb0 hb1
      obtain ⟨ywy, hywy⟩ : ∃ W, wz.alloc (.cells #[.string ak, .string av] 73) = W := ⟨_, rfl⟩
      obtain ⟨Nwy, hNwy⟩ : ∃ g, wz.heap.size = g := ⟨_, rfl⟩
      have X4 : Ext wz ywy := by rw [← hywy]; exact (Ext.refl _).alloc _
      have bN : NBox ywy Nwy 73 #[.string ak, .string av] := by rw [← hywy, ← hNwy]; exact NBox.new _ _ _
      have ho4 := owns_ext X4 HOz.out
      have hr4 := NBox.row2 bN
      have hn4 : ∀ u ∈ [Value.string ak, .string av], u.oneCell' = true := atrVals_one [(ak, av)]
      have hs4 := (HXz.out.trans X4).size
      have HX4 := Lib.hid (HXz.out.trans X4)
      have HY4 := Lib.hid hywy
      have HN4 := Lib.hid hNwy
      clear hywy hNwy X4 bN
      go_wp2_with (first | (at_builtin; rw [HY4.out, HN4.out]; refine wpList_append_rd rfl rfl T39 (v := _) (by rfl) ho4 (by rfl) hr4 hn4 (by omega) (by simp only [maxLen]; omega) hs4 ?_))
      intro v6 wy h6 hg6 hat6
      have HXy := Lib.hid (Fr.ext HX4.out (Fr.grown hg6) (fun k hk => owns_base ho4 k hk))
      obtain ⟨My, hMy⟩ : ∃ q, M ++ [(ak, av)] = q := ⟨_, rfl⟩
      have lMy : My.length = M.length + 1 := by rw [← hMy, List.length_append]; rfl
      have h6 := own_as (m := My.length) (ys := atrVals My) h6 lMy.symm (by rw [← hMy, atrVals_app])
      obtain ⟨yA, yc, rfl, -⟩ := RdS.of_owns h6
      have HOy := Lib.hid h6
      have HMy := Lib.hid hMy
      have bMy : My.length ≤ M.length + 1 := Nat.le_of_eq lMy
      clear lMy
      clear h6 hg6 hat6 ho4 hr4 hn4 hs4 HX4 HY4 HN4 t3 k7 k8 c1 c2 hMy HXz HOz
      have hb0 := HB0.out.ext HXy.out
      have hb1 := HB1.out.ext HXy.out
      have t3 := hb0.cell 3
      have k7 := hb1.cell 7
      have k8 := hb1.cell 8
      have c1 := (((HWO.out.ext HE.out).ext HXy.out).sub).cell HC1.out
      have c2 := (((HWO.out.ext HE.out).ext HXy.out).sub).cell HC2.out
      clear hb0 hb1
      rw [HMy.out] at HN2
      clear t3 k7 k8 c1 c2
      go_wp2_with fail
      go_roundw
      case rel => exact ⟨i + 1, true, My, yA, yc, by go_num, rfl, rfl, by omega, by omega, HXy, HOy, HN2⟩
      case measure => simp [intOf]; omega
     ·have HN2 : Hid (M ++ atS o.key o.value (t.attrs.drop (i + 1)) true = FIN) := Lib.hid (by have h := HN1.out; rw [he] at h; simpa using h)
      try go_upto_region 9 with fail
      go_quiet (fail)
      obtain ⟨wz, hwz⟩ : ∃ W, wv.drewN nq = W := ⟨_, rfl⟩
      rw [hwz]
      have HXz := Lib.hid (show Ext w1 wz from by rw [← hwz]; exact HXv.out.drewN nq)
      have HOz := Lib.hid (owns_ext (show Ext wv wz from by rw [← hwz]; exact (Ext.refl _).drewN nq) HOv.out)
      clear hwz t3 k7 k8 c1 c2 HXv HOv
      have hb0 := HB0.out.ext HXz.out
      have hb1 := HB1.out.ext HXz.out
      have t3 := hb0.cell 3
      have k7 := hb1.cell 7
      have k8 := hb1.cell 8
      have c1 := (((HWO.out.ext HE.out).ext HXz.out).sub).cell HC1.out
      have c2 := (((HWO.out.ext HE.out).ext HXz.out).sub).cell HC2.out
      clear hb0 hb1
      clear t3 k7 k8 c1 c2
      go_wp2_with fail
      go_roundw
      case rel => exact ⟨i + 1, true, M, mA, mc, by go_num, rfl, rfl, by omega, by omega, HXz, HOz, HN2⟩
      case measure => simp [intOf]; omega
    ·have HN1 : Hid (L ++ ((if ak.toList == o.key.toList then [] else [(ak, av)]) ++ atS o.key o.value (t.attrs.drop (i + 1)) false) = FIN) := Lib.hid (by have h := HN.out; rw [HDR.out, atS] at h; simpa [geS, hg] using h)
     go_wp2_with fail
     go_quiet (fail)
     go_upto_region 9 with fail
     obtain ⟨wq, hwq⟩ : ∃ W, wr.drewN nq = W := ⟨_, rfl⟩
     rw [hwq]
     have HXq := Lib.hid (show Ext w1 wq from by rw [← hwq]; exact HX.out.drewN nq)
     have HOq := Lib.hid (owns_ext (show Ext wr wq from by rw [← hwq]; exact (Ext.refl _).drewN nq) HO.out)
     clear hwq t3 k7 k8 c1 c2 HX HO
     have hb0 := HB0.out.ext HXq.out
     have hb1 := HB1.out.ext HXq.out
     have t3 := hb0.cell 3
     have k7 := hb1.cell 7
     have k8 := hb1.cell 8
     have c1 := (((HWO.out.ext HE.out).ext HXq.out).sub).cell HC1.out
     have c2 := (((HWO.out.ext HE.out).ext HXq.out).sub).cell HC2.out
     clear hb0 hb1
     rcases he : (ak.toList == o.key.toList) with _ | _
     ·have HN2 : Hid ((L ++ [(ak, av)]) ++ atS o.key o.value (t.attrs.drop (i + 1)) false = FIN) := Lib.hid (by have h := HN1.out; rw [he] at h; simpa using h)
      try go_upto_region 9 with fail
      go_quiet (fail)
      go_upto_region 10 with fail
      obtain ⟨wz, hwz⟩ : ∃ W, wq.drewN nq = W := ⟨_, rfl⟩
      rw [hwz]
      have HXz := Lib.hid (show Ext w1 wz from by rw [← hwz]; exact HXq.out.drewN nq)
      have HOz := Lib.hid (owns_ext (show Ext wq wz from by rw [← hwz]; exact (Ext.refl _).drewN nq) HOq.out)
      clear hwz t3 k7 k8 c1 c2 HXq HOq
      have hb0 := HB0.out.ext HXz.out
      have hb1 := HB1.out.ext HXz.out
      have t3 := hb0.cell 3
      have k7 := hb1.cell 7
      have k8 := hb1.cell 8
      have c1 := (((HWO.out.ext HE.out).ext HXz.out).sub).cell HC1.out
      have c2 := (((HWO.out.ext HE.out).ext HXz.out).sub).cell HC2.out
      clear hb0 hb1
      obtain ⟨ywy, hywy⟩ : ∃ W, wz.alloc (.cells #[.string ak, .string av] 73) = W := ⟨_, rfl⟩
      obtain ⟨Nwy, hNwy⟩ : ∃ g, wz.heap.size = g := ⟨_, rfl⟩
      have X4 : Ext wz ywy := by rw [← hywy]; exact (Ext.refl _).alloc _
      have bN : NBox ywy Nwy 73 #[.string ak, .string av] := by rw [← hywy, ← hNwy]; exact NBox.new _ _ _
      have ho4 := owns_ext X4 HOz.out
      have hr4 := NBox.row2 bN
      have hn4 : ∀ u ∈ [Value.string ak, .string av], u.oneCell' = true := atrVals_one [(ak, av)]
      have hs4 := (HXz.out.trans X4).size
      have HX4 := Lib.hid (HXz.out.trans X4)
      have HY4 := Lib.hid hywy
      have HN4 := Lib.hid hNwy
      clear hywy hNwy X4 bN
      go_wp2_with (first | (at_builtin; rw [HY4.out, HN4.out]; refine wpList_append_rd rfl rfl T39 (v := _) (by rfl) ho4 (by rfl) hr4 hn4 (by omega) (by simp only [maxLen]; omega) hs4 ?_))
      intro v6 wy h6 hg6 hat6
      have HXy := Lib.hid (Fr.ext HX4.out (Fr.grown hg6) (fun k hk => owns_base ho4 k hk))
      obtain ⟨My, hMy⟩ : ∃ q, L ++ [(ak, av)] = q := ⟨_, rfl⟩
      have lMy : My.length = L.length + 1 := by rw [← hMy, List.length_append]; rfl
      have h6 := own_as (m := My.length) (ys := atrVals My) h6 lMy.symm (by rw [← hMy, atrVals_app])
      obtain ⟨yA, yc, rfl, -⟩ := RdS.of_owns h6
      have HOy := Lib.hid h6
      have HMy := Lib.hid hMy
      have bMy : My.length ≤ L.length + 1 := Nat.le_of_eq lMy
      clear lMy
      clear h6 hg6 hat6 ho4 hr4 hn4 hs4 HX4 HY4 HN4 t3 k7 k8 c1 c2 hMy HXz HOz
      have hb0 := HB0.out.ext HXy.out
      have hb1 := HB1.out.ext HXy.out
      have t3 := hb0.cell 3
      have k7 := hb1.cell 7
      have k8 := hb1.cell 8
      have c1 := (((HWO.out.ext HE.out).ext HXy.out).sub).cell HC1.out
      have c2 := (((HWO.out.ext HE.out).ext HXy.out).sub).cell HC2.out
      clear hb0 hb1
      rw [HMy.out] at HN2
      clear t3 k7 k8 c1 c2
      go_wp2_with fail
      go_roundw
      case rel => exact ⟨i + 1, false, My, yA, yc, by go_num, rfl, rfl, by omega, by omega, HXy, HOy, HN2⟩
      case measure => simp [intOf]; omega
     ·have HN2 : Hid (L ++ atS o.key o.value (t.attrs.drop (i + 1)) false = FIN) := Lib.hid (by have h := HN1.out; rw [he] at h; simpa using h)
      try go_upto_region 9 with fail
      go_quiet (fail)
      obtain ⟨wz, hwz⟩ : ∃ W, wq.drewN nq = W := ⟨_, rfl⟩
      rw [hwz]
      have HXz := Lib.hid (show Ext w1 wz from by rw [← hwz]; exact HXq.out.drewN nq)
      have HOz := Lib.hid (owns_ext (show Ext wq wz from by rw [← hwz]; exact (Ext.refl _).drewN nq) HOq.out)
      clear hwz t3 k7 k8 c1 c2 HXq HOq
      have hb0 := HB0.out.ext HXz.out
      have hb1 := HB1.out.ext HXz.out
      have t3 := hb0.cell 3
      have k7 := hb1.cell 7
      have k8 := hb1.cell 8
      have c1 := (((HWO.out.ext HE.out).ext HXz.out).sub).cell HC1.out
      have c2 := (((HWO.out.ext HE.out).ext HXz.out).sub).cell HC2.out
      clear hb0 hb1
      clear t3 k7 k8 c1 c2
      go_wp2_with fail
      go_roundw
      case rel => exact ⟨i + 1, false, L, lA, lc, by go_num, rfl, rfl, by omega, by omega, HXz, HOz, HN2⟩
      case measure => simp [intOf]; omega
   ·have HN1 : Hid (L ++ ((if ak.toList == o.key.toList then [] else [(ak, av)]) ++ atS o.key o.value (t.attrs.drop (i + 1)) true) = FIN) := Lib.hid (by have h := HN.out; rw [HDR.out, atS] at h; simpa using h)
    go_wp2_with fail
    go_quiet (fail)
    go_upto_region 9 with fail
    obtain ⟨wq, hwq⟩ : ∃ W, wr.drewN nq = W := ⟨_, rfl⟩
    rw [hwq]
    have HXq := Lib.hid (show Ext w1 wq from by rw [← hwq]; exact HX.out.drewN nq)
    have HOq := Lib.hid (owns_ext (show Ext wr wq from by rw [← hwq]; exact (Ext.refl _).drewN nq) HO.out)
    clear hwq t3 k7 k8 c1 c2 HX HO
    have hb0 := HB0.out.ext HXq.out
    have hb1 := HB1.out.ext HXq.out
    have t3 := hb0.cell 3
    have k7 := hb1.cell 7
    have k8 := hb1.cell 8
    have c1 := (((HWO.out.ext HE.out).ext HXq.out).sub).cell HC1.out
    have c2 := (((HWO.out.ext HE.out).ext HXq.out).sub).cell HC2.out
    clear hb0 hb1
    rcases he : (ak.toList == o.key.toList) with _ | _
    ·have HN2 : Hid ((L ++ [(ak, av)]) ++ atS o.key o.value (t.attrs.drop (i + 1)) true = FIN) := Lib.hid (by have h := HN1.out; rw [he] at h; simpa using h)
     try go_upto_region 9 with fail
     go_quiet (fail)
     go_upto_region 10 with fail
     obtain ⟨wz, hwz⟩ : ∃ W, wq.drewN nq = W := ⟨_, rfl⟩
     rw [hwz]
     have HXz := Lib.hid (show Ext w1 wz from by rw [← hwz]; exact HXq.out.drewN nq)
     have HOz := Lib.hid (owns_ext (show Ext wq wz from by rw [← hwz]; exact (Ext.refl _).drewN nq) HOq.out)
     clear hwz t3 k7 k8 c1 c2 HXq HOq
     have hb0 := HB0.out.ext HXz.out
     have hb1 := HB1.out.ext HXz.out
     have t3 := hb0.cell 3
     have k7 := hb1.cell 7
     have k8 := hb1.cell 8
     have c1 := (((HWO.out.ext HE.out).ext HXz.out).sub).cell HC1.out
     have c2 := (((HWO.out.ext HE.out).ext HXz.out).sub).cell HC2.out
     clear hb0 hb1
     obtain ⟨ywy, hywy⟩ : ∃ W, wz.alloc (.cells #[.string ak, .string av] 73) = W := ⟨_, rfl⟩
     obtain ⟨Nwy, hNwy⟩ : ∃ g, wz.heap.size = g := ⟨_, rfl⟩
     have X4 : Ext wz ywy := by rw [← hywy]; exact (Ext.refl _).alloc _
     have bN : NBox ywy Nwy 73 #[.string ak, .string av] := by rw [← hywy, ← hNwy]; exact NBox.new _ _ _
     have ho4 := owns_ext X4 HOz.out
     have hr4 := NBox.row2 bN
     have hn4 : ∀ u ∈ [Value.string ak, .string av], u.oneCell' = true := atrVals_one [(ak, av)]
     have hs4 := (HXz.out.trans X4).size
     have HX4 := Lib.hid (HXz.out.trans X4)
     have HY4 := Lib.hid hywy
     have HN4 := Lib.hid hNwy
     clear hywy hNwy X4 bN
     go_wp2_with (first | (at_builtin; rw [HY4.out, HN4.out]; refine wpList_append_rd rfl rfl T39 (v := _) (by rfl) ho4 (by rfl) hr4 hn4 (by omega) (by simp only [maxLen]; omega) hs4 ?_))
     intro v6 wy h6 hg6 hat6
     have HXy := Lib.hid (Fr.ext HX4.out (Fr.grown hg6) (fun k hk => owns_base ho4 k hk))
     obtain ⟨My, hMy⟩ : ∃ q, L ++ [(ak, av)] = q := ⟨_, rfl⟩
     have lMy : My.length = L.length + 1 := by rw [← hMy, List.length_append]; rfl
     have h6 := own_as (m := My.length) (ys := atrVals My) h6 lMy.symm (by rw [← hMy, atrVals_app])
     obtain ⟨yA, yc, rfl, -⟩ := RdS.of_owns h6
     have HOy := Lib.hid h6
     have HMy := Lib.hid hMy
     have bMy : My.length ≤ L.length + 1 := Nat.le_of_eq lMy
     clear lMy
     clear h6 hg6 hat6 ho4 hr4 hn4 hs4 HX4 HY4 HN4 t3 k7 k8 c1 c2 hMy HXz HOz
     have hb0 := HB0.out.ext HXy.out
     have hb1 := HB1.out.ext HXy.out
     have t3 := hb0.cell 3
     have k7 := hb1.cell 7
     have k8 := hb1.cell 8
     have c1 := (((HWO.out.ext HE.out).ext HXy.out).sub).cell HC1.out
     have c2 := (((HWO.out.ext HE.out).ext HXy.out).sub).cell HC2.out
     clear hb0 hb1
     rw [HMy.out] at HN2
     clear t3 k7 k8 c1 c2
     go_wp2_with fail
     go_roundw
     case rel => exact ⟨i + 1, true, My, yA, yc, by go_num, rfl, rfl, by omega, by omega, HXy, HOy, HN2⟩
     case measure => simp [intOf]; omega
    ·have HN2 : Hid (L ++ atS o.key o.value (t.attrs.drop (i + 1)) true = FIN) := Lib.hid (by have h := HN1.out; rw [he] at h; simpa using h)
     try go_upto_region 9 with fail
     go_quiet (fail)
     obtain ⟨wz, hwz⟩ : ∃ W, wq.drewN nq = W := ⟨_, rfl⟩
     rw [hwz]
     have HXz := Lib.hid (show Ext w1 wz from by rw [← hwz]; exact HXq.out.drewN nq)
     have HOz := Lib.hid (owns_ext (show Ext wq wz from by rw [← hwz]; exact (Ext.refl _).drewN nq) HOq.out)
     clear hwz t3 k7 k8 c1 c2 HXq HOq
     have hb0 := HB0.out.ext HXz.out
     have hb1 := HB1.out.ext HXz.out
     have t3 := hb0.cell 3
     have k7 := hb1.cell 7
     have k8 := hb1.cell 8
     have c1 := (((HWO.out.ext HE.out).ext HXz.out).sub).cell HC1.out
     have c2 := (((HWO.out.ext HE.out).ext HXz.out).sub).cell HC2.out
     clear hb0 hb1
     clear t3 k7 k8 c1 c2
     go_wp2_with fail
     go_roundw
     case rel => exact ⟨i + 1, true, L, lA, lc, by go_num, rfl, rfl, by omega, by omega, HXz, HOz, HN2⟩
     case measure => simp [intOf]; omega
  ·obtain rfl : i = t.attrs.length := by omega
   have d1 : ¬ ((t.attrs.length : Int) < (t.attrs.length : Int)) := Int.lt_irrefl _
   clear hb0 hb1
   rcases d with _ | _
   ·have HN1 : Hid (L ++ [(o.key, o.value)] = FIN) := Lib.hid (by have h := HN.out; rw [List.drop_eq_nil_of_le (Nat.le_refl _)] at h; simpa [atS] using h)
    go_upto_region 12 with fail
    obtain ⟨ywv, hywv⟩ : ∃ W, wr.alloc (.cells #[.string o.key, .string o.value] 73) = W := ⟨_, rfl⟩
    obtain ⟨Nwv, hNwv⟩ : ∃ g, wr.heap.size = g := ⟨_, rfl⟩
    have X4 : Ext wr ywv := by rw [← hywv]; exact (Ext.refl _).alloc _
    have bN : NBox ywv Nwv 73 #[.string o.key, .string o.value] := by rw [← hywv, ← hNwv]; exact NBox.new _ _ _
    have ho4 := owns_ext X4 HO.out
    have hr4 := NBox.row2 bN
    have hn4 : ∀ u ∈ [Value.string o.key, .string o.value], u.oneCell' = true := atrVals_one [(o.key, o.value)]
    have hs4 := (HX.out.trans X4).size
    have HX4 := Lib.hid (HX.out.trans X4)
    have HY4 := Lib.hid hywv
    have HN4 := Lib.hid hNwv
    clear hywv hNwv X4 bN
    go_wp2_with (first | (at_builtin; rw [HY4.out, HN4.out]; refine wpList_append_rd rfl rfl T39 (v := _) (by rfl) ho4 (by rfl) hr4 hn4 (by omega) (by simp only [maxLen]; omega) hs4 ?_))
    intro v6 wv h6 hg6 hat6
    have HXv := Lib.hid (Fr.ext HX4.out (Fr.grown hg6) (fun k hk => owns_base ho4 k hk))
    obtain ⟨M, hM⟩ : ∃ q, L ++ [(o.key, o.value)] = q := ⟨_, rfl⟩
    have lM : M.length = L.length + 1 := by rw [← hM, List.length_append]; rfl
    have h6 := own_as (m := M.length) (ys := atrVals M) h6 lM.symm (by rw [← hM, atrVals_app])
    obtain ⟨mA, mc, rfl, -⟩ := RdS.of_owns h6
    have HOv := Lib.hid h6
    have HM := Lib.hid hM
    have bM : M.length ≤ L.length + 1 := Nat.le_of_eq lM
    clear lM
    clear h6 hg6 hat6 ho4 hr4 hn4 hs4 HX4 HY4 HN4 t3 k7 k8 hM HX HO
    rw [HM.out] at HN1
    have hbx := HB0.out.ext HXv.out
    obtain ⟨t0, t1, t2, t3, t4, t5⟩ := hbx.c6
    obtain ⟨f0, f1, f2, f3, f4, f5⟩ := hbx.f6
    obtain ⟨w7, hw7⟩ : ∃ W, wv.setCell ⟨B, 3, none⟩ (.slice mA M.length mc) = W := ⟨_, rfl⟩
    have F7 : Fr wv w7 (fun k => k = B) := by rw [← hw7]; exact Fr.setCell _ _ _ _
    have b7 : NBox w7 B 42 #[.int .u64 t.id, .bool t.leaf, .string t.label, .slice mA M.length mc, .string t.text, .slice tK t.kids.length td] := by rw [← hw7]; exact hbx.set 3 _
    have HF7 := Lib.hid F7
    have HB7 := Lib.hid b7
    have HBR := Lib.hid ((HB2.out.ext HXv.out).fr F7 (show ¬ B + 1 + 1 = B by omega))
    have HW7 := Lib.hid hw7
    clear hbx hw7 F7 b7
    go_upto_region 14 with (rw [HW7.out]; clear HW7)
    clear t0 t1 t2 t3 t4 t5 f0 f1 f2 f3 f4 f5
    obtain ⟨t0, t1, t2, t3, t4, t5⟩ := HB7.out.c6
    obtain ⟨r0, r1, r2, r3, r4, r5⟩ := HBR.out.c6
    obtain ⟨f0, f1, f2, f3, f4, f5⟩ := HBR.out.f6
    have HF9 := Lib.hid (Fr.six w7 (B + 1 + 1) (.int .u64 t.id) (.bool t.leaf) (.string t.label) (.slice mA M.length mc) (.string t.text) (.slice tK t.kids.length td))
    have HB9 := Lib.hid (HBR.out.six (.int .u64 t.id) (.bool t.leaf) (.string t.label) (.slice mA M.length mc) (.string t.text) (.slice tK t.kids.length td))
    go_wp2_with fail
    refine bodyPost_ret (results_st rfl _ rfl HB9.out Try.underlying42 rfl info42) rfl ?_
    exact ⟨_, rfl, attr_fin HBB.out HZ1.out HF7.out HF9.out HOv.out HN1.out HFF.out HOK.out HAO.out HT.out, ins_ext HBB.out HE.out HXv.out HF7.out HF9.out⟩
   ·have HN1 : Hid (L = FIN) := Lib.hid (by have h := HN.out; rw [List.drop_eq_nil_of_le (Nat.le_refl _)] at h; simpa [atS] using h)
    go_upto_region 13 with fail
    clear t3 k7 k8
    have hbx := HB0.out.ext HX.out
    obtain ⟨t0, t1, t2, t3, t4, t5⟩ := hbx.c6
    obtain ⟨f0, f1, f2, f3, f4, f5⟩ := hbx.f6
    obtain ⟨w7, hw7⟩ : ∃ W, wr.setCell ⟨B, 3, none⟩ (.slice lA L.length lc) = W := ⟨_, rfl⟩
    have F7 : Fr wr w7 (fun k => k = B) := by rw [← hw7]; exact Fr.setCell _ _ _ _
    have b7 : NBox w7 B 42 #[.int .u64 t.id, .bool t.leaf, .string t.label, .slice lA L.length lc, .string t.text, .slice tK t.kids.length td] := by rw [← hw7]; exact hbx.set 3 _
    have HF7 := Lib.hid F7
    have HB7 := Lib.hid b7
    have HBR := Lib.hid ((HB2.out.ext HX.out).fr F7 (show ¬ B + 1 + 1 = B by omega))
    have HW7 := Lib.hid hw7
    clear hbx hw7 F7 b7
    go_upto_region 14 with (rw [HW7.out]; clear HW7)
    clear t0 t1 t2 t3 t4 t5 f0 f1 f2 f3 f4 f5
    obtain ⟨t0, t1, t2, t3, t4, t5⟩ := HB7.out.c6
    obtain ⟨r0, r1, r2, r3, r4, r5⟩ := HBR.out.c6
    obtain ⟨f0, f1, f2, f3, f4, f5⟩ := HBR.out.f6
    have HF9 := Lib.hid (Fr.six w7 (B + 1 + 1) (.int .u64 t.id) (.bool t.leaf) (.string t.label) (.slice lA L.length lc) (.string t.text) (.slice tK t.kids.length td))
    have HB9 := Lib.hid (HBR.out.six (.int .u64 t.id) (.bool t.leaf) (.string t.label) (.slice lA L.length lc) (.string t.text) (.slice tK t.kids.length td))
    go_wp2_with fail
    refine bodyPost_ret (results_st rfl _ rfl HB9.out Try.underlying42 rfl info42) rfl ?_
    exact ⟨_, rfl, attr_fin HBB.out HZ1.out HF7.out HF9.out HO.out HN1.out HFF.out HOK.out HAO.out HT.out, ins_ext HBB.out HE.out HX.out HF7.out HF9.out⟩
end Go.Proofs.Ytdnjkffmgmbfmaa.Sy
