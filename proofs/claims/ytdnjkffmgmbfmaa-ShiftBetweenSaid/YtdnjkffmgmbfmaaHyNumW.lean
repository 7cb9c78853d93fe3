/- Chapter 11: a tree numbered anew: numbered (19). (Printed by gsh.py.) -/
import Derived.Test.YtdnjkffmgmbfmaaHyApply
import Derived.Test.YtdnjkffmgmbfmaaHyShiftU
namespace Go.Proofs.Ytdnjkffmgmbfmaa.Sy
open Go.RowKit Go.Proofs.Ytdnjkffmgmbfmaa.Bw Go.Proofs.Ytdnjkffmgmbfmaa.Bs

theorem numK_len : ∀ (ks : List Nd) (a : Int), (numK ks a).length = ks.length
  | [], _ => by rw [numK]
  | x :: xs, a => by rw [numK, List.length_cons, List.length_cons, numK_len xs]
set_option maxRecDepth 100000 in
set_option maxHeartbeats 8000000 in
theorem num_late (N : Nat) : ∀ (t : Nd) (v : Value) (id : Int) (wo w : World), t.cnt ≤ N → Wo wo w → t.rd wo v → 0 ≤ id → id + t.cnt ≤ 1000000 →
    Calls Try.prog 19 #[v, .int .u64 id] w (Ret w fun r w' => ∃ q, r = .tuple #[q, .int .u64 (id + t.cnt)] ∧ LateN wo w w' (numN t id) q) := by
  induction N with
  | zero => intro t v id wo w h; rw [Nd.cnt_eq] at h; omega
  | succ N ih =>
    intro t v id wo w hN hWo ht hi0 hi1
    obtain ⟨uA, uc, uK, ud, rfl⟩ := rd_open6 ht
    obtain ⟨av, kv, he, i0, i1, hl, htx, hA, hK⟩ := Nd.rd_open ht
    simp only [Value.agg.injEq, Array.mk.injEq, List.cons.injEq, and_true, true_and] at he
    obtain ⟨rfl, rfl⟩ := he
    have hcn := Nd.cnt_eq t
    have HKL := Lib.hid hK
    have hud : t.kids.length ≤ ud ∧ ud ≤ maxLen := by
      obtain ⟨_, _, e, h1, h2, _⟩ := hK
      cases e
      exact ⟨h1, h2⟩
    unfold maxLen at hud
    have hkl : t.kids.length ≤ t.cnt := by
      have : ∀ ks : List Nd, ks.length ≤ cntK ks := by
        intro ks
        induction ks with
        | nil => exact Nat.zero_le _
        | cons x xs ih => rw [cntK, List.length_cons]; have := Nd.cnt_eq x; omega
      have := this t.kids
      omega
    obtain ⟨w1, hw1⟩ : ∃ W, (w.alloc (.cells #[.int .u64 t.id, .bool t.leaf, .string t.label, .slice uA t.attrs.length uc, .string t.text, .slice uK t.kids.length ud] 42)).alloc (.cells #[.int .u64 0, .bool false, .string ⟨#[]⟩, .slice none 0 0, .string ⟨#[]⟩, .slice none 0 0] 42) = W := ⟨_, rfl⟩
    obtain ⟨B, hB⟩ : ∃ B, w.heap.size = B := ⟨_, rfl⟩
    have s1 : (w.alloc (.cells #[.int .u64 t.id, .bool t.leaf, .string t.label, .slice uA t.attrs.length uc, .string t.text, .slice uK t.kids.length ud] 42)).heap.size = B + 1 := by rw [World.size_alloc, hB]
    have E1 : Ext w w1 := by rw [← hw1]; exact ((Ext.refl w).alloc _).alloc _
    have b0 : NBox w1 B 42 #[.int .u64 t.id, .bool t.leaf, .string t.label, .slice uA t.attrs.length uc, .string t.text, .slice uK t.kids.length ud] := by rw [← hw1, ← hB]; exact (NBox.new w 42 _).ext ((Ext.refl _).alloc _)
    have b1 : NBox w1 (B + 1) 42 #[.int .u64 0, .bool false, .string ⟨#[]⟩, .slice none 0 0, .string ⟨#[]⟩, .slice none 0 0] := by rw [← hw1, ← s1]; exact NBox.new _ 42 _
    have hBo : wo.heap.size ≤ B := by rw [← hB]; exact hWo.size
    have F0 := Fr.setCell w1 B 0 (.int .u64 id)
    have HG1 := (GW.refl hWo).ext E1
    obtain ⟨w2, hw2⟩ : ∃ W, w1.setCell ⟨B, 0, none⟩ (.int .u64 id) = W := ⟨_, rfl⟩
    have B0 : NBox w2 B 42 #[.int .u64 id, .bool t.leaf, .string t.label, .slice uA t.attrs.length uc, .string t.text, .slice uK t.kids.length ud] := by rw [← hw2]; exact b0.set 0 _
    rw [hw2] at F0
    have HB0 := Lib.hid B0
    have HB1 := Lib.hid (b1.fr F0 (by omega))
    have HG := Lib.hid (HG1.fr F0 (fun q hq => by rw [show q = B from hq]; exact ⟨trivial, hBo⟩))
    have HE := Lib.hid (Fr.ext E1 F0 (fun q hq => by rw [show q = B from hq, hB]; exact Nat.le_refl _))
    have HT := Lib.hid ht
    have HW1 := Lib.hid hw1
    have HW2 := Lib.hid hw2
    have HBB := Lib.hid hB
    have HBo := Lib.hid hBo
    have HWo := Lib.hid hWo
    have hwr : IntKind.u64.wrap (id + 1) = id + 1 := by rw [IntKind.wrap]; simp [IntKind.bits, IntKind.signed]; omega
    have HAV := Lib.hid (show RdA wo t.attrs (.slice uA t.attrs.length uc) ∧ 0 ≤ t.id ∧ t.label.size ≤ maxLen ∧ t.text.size ≤ maxLen from ⟨hA, i0, hl, htx⟩)
    have k0 := b0.cell 0
    have f0 := b0.frozen 0
    clear hw1 hw2 hB s1 E1 b0 b1 hWo ht F0 B0 hBo hA hK i0 i1 hl htx
    go_enter Try.func19, Try.ntmps19
    go_upto_region 2 with (first | rw [HW1.out, HBB.out] | rw [HBB.out])
    rw [HW2.out]
    clear HW1 HW2 k0 f0 HG1
    go_wp2_with fail
    go_loopw [1, 6, 7] (fun s1 s6 s7 wr => ∃ (j : Nat) (a : Int) (xs : List Value) (wg : World) (S : Nat → Prop), s7 = .int .i64 (j : Int) ∧ j ≤ t.kids.length ∧ s1 = .int .u64 a ∧ Hid (a = id + 1 + cntK (t.kids.take j)) ∧ wr.ownsRow (B + 1 + 1) 42 6 s6 j xs ∧ Hid (∀ g, s6.ownBlock = some g → S g) ∧ Hid (rowK wg (numK (t.kids.take j) (id + 1)) xs) ∧ Hid (NBox wr B 42 #[.int .u64 id, .bool t.leaf, .string t.label, .slice uA t.attrs.length uc, .string t.text, .slice uK t.kids.length ud]) ∧ Hid (NBox wr (B + 1) 42 #[.int .u64 0, .bool false, .string ⟨#[]⟩, .slice none 0 0, .string ⟨#[]⟩, .slice none 0 0]) ∧ Hid (GW wo w wg wr S) ∧ Hid (S B ∧ S (B + 1)) ∧ Hid (Ext w wr) ∧ Hid (t.rd wg (.agg #[.int .u64 t.id, .bool t.leaf, .string t.label, .slice uA t.attrs.length uc, .string t.text, .slice uK t.kids.length ud]))) (fun _ _ s7 _ => t.kids.length - (intOf s7).toNat)
    case atStart => exact ⟨0, id + 1, [], wo, _, rfl, Nat.zero_le _, rfl, Lib.hid (by rw [List.take_zero, cntK]; simp), ⟨rfl, .inl ⟨rfl, rfl⟩⟩, Lib.hid (fun g h => by cases h), Lib.hid (by rw [List.take_zero, numK]; rfl), HB0, HB1, HG, Lib.hid ⟨trivial, trivial⟩, HE, HT⟩
    case round =>
      clear HB0 HB1 HG HE HT HKL hwr
      obtain ⟨j, a, xs, wg, S, rfl, hj, rfl, HA, hown, HS6, HROW, HB0, HB1, HG, HSB, HE, HT⟩ := hrel
      have k5 := HB0.out.cell 5
      have hBs : B + 1 < wr.heap.size := HB1.out.lt
      rcases Nat.lt_or_ge j t.kids.length with hlt | hlt
      · obtain ⟨x, hx⟩ : ∃ x, t.kids[j]? = some x := ⟨_, List.getElem?_eq_getElem hlt⟩
        obtain ⟨av, kv, he, -, -, -, -, -, ⟨_, _, e, -, -, k3⟩⟩ := Nd.rd_open HT.out
        simp only [Value.agg.injEq, Array.mk.injEq, List.cons.injEq, and_true, true_and] at he
        obtain ⟨-, rfl⟩ := he
        cases e
        obtain ⟨b, off, rfl, hrd⟩ := k3 (by intro h; rw [h] at hx; simp at hx)
        obtain ⟨xA, xc, xK, xd, e0, e1, e2, e3, e4, e5, hxr⟩ := rdKids_get hrd hx
        have c0 := HG.out.now.sub.cell e0
        have c1 := HG.out.now.sub.cell e1
        have c2 := HG.out.now.sub.cell e2
        have c3 := HG.out.now.sub.cell e3
        have c4 := HG.out.now.sub.cell e4
        have c5 := HG.out.now.sub.cell e5
        have htk : cntK (t.kids.take (j + 1)) = cntK (t.kids.take j) + x.cnt := by
          have h1 := cntK_take hx (Nat.lt_succ_self j)
          have h2 : t.kids.take (j + 1) = t.kids.take j ++ [x] := by
            rw [List.take_succ_eq_append_getElem (by omega)]
            congr 1
            obtain ⟨_, h⟩ := List.getElem?_eq_some_iff.1 hx
            rw [h]
          have h3 : ∀ (l : List Nd), cntK (l ++ [x]) = cntK l + x.cnt := by
            intro l
            induction l with
            | nil => rw [List.nil_append, cntK, cntK, cntK]; omega
            | cons z zs ihz => rw [List.cons_append, cntK, cntK, ihz]; omega
          rw [h2, h3]
        have hnk : numK (t.kids.take (j + 1)) (id + 1) = numK (t.kids.take j) (id + 1) ++ [numN x a] := by
          have h2 : t.kids.take (j + 1) = t.kids.take j ++ [x] := by
            rw [List.take_succ_eq_append_getElem (by omega)]
            congr 1
            obtain ⟨_, h⟩ := List.getElem?_eq_some_iff.1 hx
            rw [h]
          have h3 : ∀ (l : List Nd) (q : Int), numK (l ++ [x]) q = numK l q ++ [numN x (q + cntK l)] := by
            intro l
            induction l with
            | nil => intro q; rw [List.nil_append, numK, numK, numK, cntK]; simp
            | cons z zs ihz =>
              intro q
              rw [List.cons_append, numK, numK, ihz, cntK]
              simp only [List.cons_append]
              congr 4
              omega
          rw [h2, h3, HA.out]
        have hle : cntK (t.kids.take j) + x.cnt ≤ cntK t.kids := by
          have := cntK_take hx hlt
          rwa [List.take_length] at this
        have hHA := HA.out
        have hxc : x.cnt ≤ N := by have := Nd.cnt_kid hx; omega
        have q1 : (0 : Int) ≤ (j : Int) := by omega
        have q2 : (j : Int) < (t.kids.length : Int) := by omega
        have hax : a + (x.cnt : Int) ≤ 1000000 := by omega
        have ha0 : 0 ≤ a := by omega
        have hc := ih x _ a wg wr hxc HG.out.now hxr ha0 hax
        have HA2 := Lib.hid (show a + (x.cnt : Int) = id + 1 + cntK (t.kids.take (j + 1)) from by rw [htk, hHA]; omega)
        obtain ⟨y, hy⟩ : ∃ y, numN x a = y := ⟨_, rfl⟩
        obtain ⟨a2, ha2⟩ : ∃ q : Int, a + (x.cnt : Int) = q := ⟨_, rfl⟩
        rw [hy, ha2] at hc
        rw [hy] at hnk
        rw [ha2] at HA2
        have HNK := Lib.hid hnk
        clear hnk hy ha2 htk hle hHA hxc HA e0 e1 e2 e3 e4 e5 hrd k3 hx
        go_wp2_with fail
        refine hc.mono ?_
        clear hc c0 c1 c2 c3 c4 c5 k5 hxr
        rintro e w3 ⟨r, rfl, ⟨q, rfl, hLL⟩, hE⟩
        have HXN := Lib.hid (HG.out.got hE hLL)
        obtain ⟨nA, nc, nK, nd, rfl⟩ := rd_open6 HXN.out
        replace HSB := Lib.hid (show _ ∧ _ from ⟨HG.out.keep hE HSB.out.1 HB0.out.lt, HG.out.keep hE HSB.out.2 HB1.out.lt⟩)
        replace HS6 := Lib.hid (fun g h => HG.out.keep hE (HS6.out g h) (hown.lt g h).2)
        replace HROW := Lib.hid (rowK_sub (glue_mine HG.out.size hE.size) HROW.out)
        replace HT := Lib.hid (HG.out.rd_glue hE HT.out)
        replace HG := Lib.hid (HG.out.glue hE)
        replace HB0 := Lib.hid (HB0.out.ext hE)
        replace HB1 := Lib.hid (HB1.out.ext hE)
        replace HE := Lib.hid (HE.out.trans hE)
        replace hown := owns_ext hE hown
        clear hE hLL
        obtain ⟨wa, hwa⟩ : ∃ q, w3.alloc (.cells #[.int .u64 0, .bool false, .string ⟨#[]⟩, .slice none 0 0, .string ⟨#[]⟩, .slice none 0 0] 42) = q := ⟨_, rfl⟩
        obtain ⟨P, hP⟩ : ∃ q, w3.heap.size = q := ⟨_, rfl⟩
        have XA : Ext w3 wa := by rw [← hwa]; exact (Ext.refl _).alloc _
        have bM : NBox wa P 42 #[.int .u64 0, .bool false, .string ⟨#[]⟩, .slice none 0 0, .string ⟨#[]⟩, .slice none 0 0] := by rw [← hwa, ← hP]; exact NBox.new _ _ _
        have F8 := Fr.six wa P (.int .u64 y.id) (.bool y.leaf) (.string y.label) (.slice nA y.attrs.length nc) (.string y.text) (.slice nK y.kids.length nd)
        have b6 := NBox.six bM (.int .u64 y.id) (.bool y.leaf) (.string y.label) (.slice nA y.attrs.length nc) (.string y.text) (.slice nK y.kids.length nd)
        obtain ⟨w4, hwn⟩ : ∃ q, World.setCell (World.setCell (World.setCell (World.setCell (World.setCell (World.setCell (wa) ⟨P, 0, none⟩ (.int .u64 y.id)) ⟨P, 1, none⟩ (.bool y.leaf)) ⟨P, 2, none⟩ (.string y.label)) ⟨P, 3, none⟩ (.slice nA y.attrs.length nc)) ⟨P, 4, none⟩ (.string y.text)) ⟨P, 5, none⟩ (.slice nK y.kids.length nd) = q := ⟨_, rfl⟩
        rw [hwn] at F8 b6
        have X8 : Ext w3 w4 := Fr.ext XA F8 (fun q hq => by rw [show q = P from hq, hP]; exact Nat.le_refl _)
        obtain ⟨y0, y1, y2, y3, y4, y5⟩ := bM.c6
        obtain ⟨z0, z1, z2, z3, z4, z5⟩ := bM.f6
        have HWA := Lib.hid hwa
        have HPP := Lib.hid hP
        have HWN := Lib.hid hwn
        replace HG := Lib.hid (HG.out.ext X8)
        replace HB0 := Lib.hid (HB0.out.ext X8)
        replace HB1 := Lib.hid (HB1.out.ext X8)
        replace HE := Lib.hid (HE.out.trans X8)
        replace hown := owns_ext X8 hown
        have HBP := Lib.hid b6
        clear hwa hP hwn XA bM F8 X8 b6
        go_upto_region 8 with (rw [HWA.out, HPP.out]; clear HWA)
        rw [HWN.out]
        clear HWN HPP y0 y1 y2 y3 y4 y5 z0 z1 z2 z3 z4 z5
        obtain ⟨w5, hw5⟩ : ∃ W, w4.alloc (.cells #[.int .u64 y.id, .bool y.leaf, .string y.label, .slice nA y.attrs.length nc, .string y.text, .slice nK y.kids.length nd] 42) = W := ⟨_, rfl⟩
        have E5 : Ext w4 w5 := by rw [← hw5]; exact (Ext.refl _).alloc _
        have hs5 : RdS w5 6 1 [.int .u64 y.id, .bool y.leaf, .string y.label, .slice nA y.attrs.length nc, .string y.text, .slice nK y.kids.length nd] (.slice (some ⟨w4.heap.size, 0, none⟩) 1 1) := by
          rw [← hw5]
          exact RdS.of_owns (base := 0) (e := 42) ⟨rfl, .inr ⟨_, 1, _, rfl, Nat.zero_le _, NBox.new w4 42 _, Nat.le_refl _, by simp [maxLen], rfl, rfl⟩⟩
        have hone : ∀ u ∈ ([.int .u64 y.id, .bool y.leaf, .string y.label, .slice nA y.attrs.length nc, .string y.text, .slice nK y.kids.length nd] : List Value), u.oneCell' = true := by
          intro u hu
          simp only [List.mem_cons, List.not_mem_nil, or_false] at hu
          rcases hu with rfl | rfl | rfl | rfl | rfl | rfl <;> rfl
        have hbase : B + 1 + 1 ≤ w5.heap.size := Nat.le_trans HB1.out.lt E5.size
        have hown5 := owns_ext E5 hown
        obtain ⟨p0, p1, p2, p3, p4, p5⟩ := HBP.out.c6
        have H5 := Lib.hid hw5
        clear hw5
        go_upto_region 9 with (first
          | rw [H5.out]
          | (at_builtin
             refine wpList_append_rd rfl rfl Go.Proofs.Ytdnjkffmgmbfmaa.Bw.T24 (v := _) (by rfl) hown5 (by rfl) hs5 hone (by omega) (by simp only [maxLen]; omega) hbase ?_
             intro v6 w6 hown6 hg6 hat6))
        have F6 := Fr.grown hg6
        have hlt6 := hown5.lt
        have HG6 := (HG.out.ext E5).fr F6 (fun i hi => ⟨HS6.out i hi, Nat.le_trans HBo.out (by have := (hown5.lt i hi).1; omega)⟩)
        have HB0' := Lib.hid (NBox.fr F6 (HB0.out.ext E5) (fun h => by have := (hlt6 B h).1; omega))
        have HB1' := Lib.hid (NBox.fr F6 (HB1.out.ext E5) (fun h => by have := (hlt6 (B + 1) h).1; omega))
        have HE' := Lib.hid (Fr.ext (HE.out.trans E5) F6 (fun i hi => by have := (hown5.lt i hi).1; have := HBB.out; omega))
        have HROW' := Lib.hid (show rowK _ (numK (t.kids.take (j + 1)) (id + 1)) (xs ++ [.int .u64 y.id, .bool y.leaf, .string y.label, .slice nA y.attrs.length nc, .string y.text, .slice nK y.kids.length nd]) from by rw [HNK.out]; exact rowK_app HROW.out (rowK_single HXN.out))
        have HS6' : Hid (∀ g, v6.ownBlock = some g → S g ∧ (g < wr.heap.size ∨ w3.heap.size ≤ g)) := Lib.hid (fun g h => by
          rcases hat6 with h2 | h2
          · exact HS6.out g (h2 ▸ h)
          · rw [h2] at h
            cases h
            exact (HG.out.ext E5).fresh _ (Nat.le_refl _))
        have HG6' := Lib.hid HG6
        have HOW := Lib.hid hown6
        clear hown hown5 hown6 hg6 hat6 F6 hlt6 HG6 hs5 hone hbase E5 p0 p1 p2 p3 p4 p5
        go_wp2_with fail
        go_roundw
        case rel => exact ⟨j + 1, a2, _, _, _, by go_num, by omega, rfl, HA2, HOW.out, HS6', HROW', HB0', HB1', HG6', HSB, HE', HT⟩
        case measure => simp [intOf]; omega
      · obtain rfl : j = t.kids.length := by omega
        obtain rfl : a = id + t.cnt := by have := HA.out; rw [List.take_length] at this; omega
        obtain ⟨A6, c6, rfl, hx1, hx2, hx3, -⟩ := RdS.of_owns hown
        have HROW9 := Lib.hid (show rowK wg (numK t.kids (id + 1)) xs from by have := HROW.out; rwa [List.take_length] at this)
        have f5 := HB0.out.frozen 5
        have F7 := Fr.setCell wr B 5 (.slice A6 t.kids.length c6)
        have b0 : NBox _ B 42 #[.int .u64 id, .bool t.leaf, .string t.label, .slice uA t.attrs.length uc, .string t.text, .slice A6 t.kids.length c6] := HB0.out.set 5 (.slice A6 t.kids.length c6)
        obtain ⟨w3, hw3⟩ : ∃ q, wr.setCell ⟨B, 5, none⟩ (.slice A6 t.kids.length c6) = q := ⟨_, rfl⟩
        rw [hw3] at F7 b0
        have b1 := HB1.out.fr F7 (show ¬ B + 1 = B by omega)
        have HG7 := HG.out.fr F7 (fun q hq => by rw [show q = B from hq]; exact ⟨HSB.out.1, HBo.out⟩)
        have HE7 := Fr.ext HE.out F7 (fun q hq => by rw [show q = B from hq]; exact Nat.le_of_eq HBB.out)
        have hown7 := owns_fr F7 hown (fun g hg hk => by have := (hown.lt g hg).1; have hk2 : g = B := hk; omega)
        have F9 := Fr.six w3 (B + 1) (.int .u64 id) (.bool t.leaf) (.string t.label) (.slice uA t.attrs.length uc) (.string t.text) (.slice A6 t.kids.length c6)
        have b9 := NBox.six b1 (.int .u64 id) (.bool t.leaf) (.string t.label) (.slice uA t.attrs.length uc) (.string t.text) (.slice A6 t.kids.length c6)
        have HG9 := Lib.hid (HG7.fr F9 (fun q hq => by rw [show q = B + 1 from hq]; exact ⟨HSB.out.2, by have := HBo.out; omega⟩))
        have HE9 := Lib.hid (Fr.ext HE7 F9 (fun q hq => by rw [show q = B + 1 from hq]; have := HBB.out; omega))
        have HO9 := Lib.hid (owns_fr F9 hown7 (fun g hg hk => by have := (hown7.lt g hg).1; have hk2 : g = B + 1 := hk; omega))
        have HB9 := Lib.hid b9
        have HW3 := Lib.hid hw3
        have HX := Lib.hid (show t.kids.length ≤ c6 ∧ c6 ≤ maxLen from ⟨hx2, hx3⟩)
        obtain ⟨y0, y1, y2, y3, y4, y5⟩ := b0.c6
        obtain ⟨z0, z1, z2, z3, z4, z5⟩ := b1.c6
        obtain ⟨g0, g1, g2, g3, g4, g5⟩ := b1.f6
        clear hw3 F7 F9 b0 b9 hown hown7 HG7 HE7 hx1 hx2 hx3 b1 HS6 HROW HA
        go_upto_region 11 with (rw [HW3.out])
        clear k5 f5 HW3
        go_wp2_with fail
        refine bodyPost_ret (results_nd rfl rfl rfl HB9.out Try.underlying42 rfl info42) rfl ?_
        refine ⟨_, rfl, ⟨_, rfl, fun W hS hN => ?_⟩, HE9.out⟩
        have hn : numN t id = .mk id t.leaf t.label t.attrs t.text (numK t.kids (id + 1)) := by cases t; rw [numN]; rfl
        have hnl : (numK t.kids (id + 1)).length = t.kids.length := numK_len _ _
        have how := owns_news HO9.out (lo := B) (fun k a b => hN k (by rw [HBB.out]; exact a) b) (by omega)
        obtain ⟨_, _, he, -, -, -, h4⟩ := RdS.of_owns how
        cases he
        obtain ⟨hA, i0, hl, htx⟩ := HAV.out
        rw [hn]
        refine Nd.rd_shut (t := .mk id t.leaf t.label t.attrs t.text (numK t.kids (id + 1))) hi0 (show id ≤ 18446744073709551615 by omega) hl htx (hA.sub hS) ?_
        refine ⟨A6, c6, show Value.slice A6 t.kids.length c6 = Value.slice A6 (numK t.kids (id + 1)).length c6 from by rw [hnl], show (numK t.kids (id + 1)).length ≤ c6 from by rw [hnl]; exact HX.out.1, HX.out.2, fun hne => ?_⟩
        obtain ⟨b, off, rfl, h5⟩ := h4 (by rw [← hnl]; exact List.length_pos_iff.2 (show numK t.kids (id + 1) ≠ [] from hne))
        exact ⟨b, off, rfl, rd_of_rowK (rowK_sub (HG9.out.grd W hS (fun i p q r => hN i p q)) HROW9.out) h5⟩
end Go.Proofs.Ytdnjkffmgmbfmaa.Sy
