/- SyAll turned to this seat. (Printed by gport.py.) -/
import Derived.Test.YtofcbclokkjfjaaOyApply
import Derived.Test.YtofcbclokkjfjaaOyOuAt
import Derived.Test.YtofcbclokkjfjaaProg
namespace Go.Proofs.Ytofcbclokkjfjaa.Sy
open Go.RowKit Go.Proofs.Ytofcbclokkjfjaa.Bw Go.Proofs.Ytofcbclokkjfjaa.Bs
theorem results_three {P : Program} {fn : Func} {p u u2 : Tmp} {ty : TypeId} (h : fn.results = #[.cell p ty, .tmp u, .tmp u2]) {tmps : Array Value} {w : World} {g : Nat} {cs : Array Value} {d : TypeDesc} {b b2 : Value}
  (hp : tmps.getD p undef = .pointer (some ⟨g, 0, none⟩)) (hu' : tmps.getD u undef = b) (hu2 : tmps.getD u2 undef = b2) (hg : NBox w g ty cs)
  (hu : P.underlying ty = some d) (hd : (match d with | .struct _ | .array _ _ => true | _ => false) = true) (hi : (P.info? ty).map (·.size) = some cs.size) :
  (results fn tmps).run P w = .ok (.tuple #[.agg cs, b, b2]) w := by
 have e : (results fn tmps).run P w = ((asAddr (tmps.getD p undef)).run P w).andThen fun a w₁ => ((loadVar ty a).run P w₁).andThen fun v w₂ => .ok (.tuple #[v, tmps.getD u undef, tmps.getD u2 undef]) w₂ := by
  simp only [results, h]
  simp [Sem.run_bind, Result.andThen]
 rw [e, hp, hu', hu2]
 simp [asAddr, run_loadVar_row w g ty ty cs (0, 0) d hg hu hd hi, Result.andThen]
theorem cell_fr {A B : World} {S : Nat → Prop} (F : Fr A B S) {b i : Nat} {u : Value} (h : A.cell? ⟨b, i, none⟩ = some u) (hn : ¬ S b) : B.cell? ⟨b, i, none⟩ = some u :=
 (cell_same (p := ⟨b, i, none⟩) (F.block b (cell_block h) hn)).trans h
def totW : List OpD → Nat
 | [] => 0
 | o :: r => opW o + totW r
theorem allGo_cons (m : Nd) (i : Nat) (o : OpD) (r : List OpD) : allGo m i (o :: r) = if validD m o = 0 then allGo (doD m o) (i + 1) r else (Nd.zero, i, validD m o) := rfl
set_option maxRecDepth 100000 in
set_option maxHeartbeats 16000000 in
/-- A tree behind a list of operations, how many were done, and why no more. -/
theorem all_late (t : Nd) (l : List OpD) (v lv : Value) (wo w : World) (hWo : Wo wo w) (ht : t.rd wo v) (hl : RdL w l lv) (hok : ∀ o ∈ l, o.path.length ≤ 1000 ∧ o.to.length ≤ 1000) (hwt : t.wt + totW l ≤ 400000) :
  Calls Try.prog 53 #[v, lv] w (Ret w fun r w' => ∃ q, r = .tuple #[q, .int .i64 ((allD t l).2.1 : Nat), .int .i64 (allD t l).2.2] ∧ LateN wo w w' (allD t l).1 q) := by
 obtain ⟨uA, uc, uK, ud, rfl⟩ := rd_open6 ht
 obtain ⟨LA, Lc, rfl, l1, l2, -⟩ := id hl
 unfold maxLen at l2
 obtain ⟨w1, hw1⟩ : ∃ W, (w.alloc (.cells #[.int .u64 t.id, .bool t.leaf, .string t.label, .slice uA t.attrs.length uc, .string t.text, .slice uK t.kids.length ud] 26)).alloc (.cells #[.int .u64 0, .bool false, .string ⟨#[]⟩, .slice none 0 0, .string ⟨#[]⟩, .slice none 0 0] 26) = W := ⟨_, rfl⟩
 obtain ⟨B, hB⟩ : ∃ B, w.heap.size = B := ⟨_, rfl⟩
 have s1 : (w.alloc (.cells #[.int .u64 t.id, .bool t.leaf, .string t.label, .slice uA t.attrs.length uc, .string t.text, .slice uK t.kids.length ud] 26)).heap.size = B + 1 := by rw [World.size_alloc, hB]
 have E1 : Ext w w1 := by rw [← hw1]; exact ((Ext.refl w).alloc _).alloc _
 have HB0 := Lib.hid (show NBox w1 B 26 #[.int .u64 t.id, .bool t.leaf, .string t.label, .slice uA t.attrs.length uc, .string t.text, .slice uK t.kids.length ud] from by rw [← hw1, ← hB]; exact (NBox.new w 26 _).ext ((Ext.refl _).alloc _))
 have HB1 := Lib.hid (show NBox w1 (B + 1) 26 #[.int .u64 0, .bool false, .string ⟨#[]⟩, .slice none 0 0, .string ⟨#[]⟩, .slice none 0 0] from by rw [← hw1, ← s1]; exact NBox.new _ 26 _)
 have HG := Lib.hid ((GW.refl hWo).ext E1)
 have HE := Lib.hid E1
 have HW1 := Lib.hid hw1
 have HBB := Lib.hid hB
 have HT := Lib.hid ht
 have HL := Lib.hid hl
 have HOK := Lib.hid hok
 have HWT := Lib.hid hwt
 have hBo : wo.heap.size ≤ B := by rw [← hB]; exact hWo.size
 have hc := rrightTop_any t _ w1 (HG.out.rd ht)
 obtain ⟨fin, hfin⟩ : ∃ f, allD t l = f := ⟨_, rfl⟩
 rw [hfin]
 have HF := Lib.hid hfin
 obtain ⟨t0, t1, t2, t3, t4, t5⟩ := HB0.out.c6
 clear hw1 hB s1 E1 hWo ht hl hok hwt hfin
 go_enter Try.func53, Try.ntmps53
 go_upto_region 1 with fail
 rw [HW1.out, HBB.out]
 clear HW1
 go_wp2_with fail
 refine hc.mono ?_
 clear hc t0 t1 t2 t3 t4 t5
 rintro e w2 ⟨r, rfl, rfl, E2⟩
 replace HE := Lib.hid (HE.out.trans E2)
 replace HG := Lib.hid (HG.out.ext E2)
 replace HB0 := Lib.hid (HB0.out.ext E2)
 replace HB1 := Lib.hid (HB1.out.ext E2)
 clear E2
 rcases hri : t.right with _ | _
 ·have HR := Lib.hid (show fin = (Nd.zero, 0, 2) from by rw [← HF.out, allD, if_pos hri])
  clear hri
  obtain ⟨y0, y1, y2, y3, y4, y5⟩ := HB1.out.c6
  obtain ⟨z0, z1, z2, z3, z4, z5⟩ := HB1.out.f6
  have F9 := Fr.six w2 (B + 1) (.int .u64 0) (.bool false) (.string ⟨#[]⟩) (.slice none 0 0) (.string ⟨#[]⟩) (.slice none 0 0)
  have HB9 := Lib.hid (HB1.out.six (.int .u64 0) (.bool false) (.string ⟨#[]⟩) (.slice none 0 0) (.string ⟨#[]⟩) (.slice none 0 0))
  have hBB := HBB.out
  have HE9 := Lib.hid (Fr.ext HE.out F9 (fun q hq => by rw [show q = B + 1 from hq, hBB]; omega))
  clear F9 hBB
  go_wp2_with fail
  refine bodyPost_ret (results_three rfl rfl rfl rfl HB9.out Try.underlying26 rfl info42) rfl ?_
  exact ⟨_, rfl, ⟨_, (by rw [HR.out]; rfl), fun W _ _ => by rw [HR.out]; exact zero_rd W⟩, HE9.out⟩
 have HAG := Lib.hid (show allGo t 0 l = fin from by rw [← HF.out, allD, if_neg (by rw [hri]; decide)])
 clear hri HF
 go_wp2_with fail
 go_loopw [7, 8, 9] (fun s7 s8 s9 wr => ∃ (i : Nat) (m : Nd) (wg : World) (S : Nat → Prop) (mA : Option Addr) (mc : Nat) (mK : Option Addr) (md : Nat), s7 = .int .i64 (i : Int) ∧ i ≤ l.length ∧ Hid (Ext w wr) ∧ Hid (NBox wr B 26 #[.int .u64 m.id, .bool m.leaf, .string m.label, .slice mA m.attrs.length mc, .string m.text, .slice mK m.kids.length md]) ∧ Hid (NBox wr (B + 1) 26 #[.int .u64 0, .bool false, .string ⟨#[]⟩, .slice none 0 0, .string ⟨#[]⟩, .slice none 0 0]) ∧ Hid (GW wo w wg wr S) ∧ Hid (S B ∧ S (B + 1)) ∧ Hid (m.rd wg (.agg #[.int .u64 m.id, .bool m.leaf, .string m.label, .slice mA m.attrs.length mc, .string m.text, .slice mK m.kids.length md])) ∧ Hid (m.wt + totW (l.drop i) ≤ 400000) ∧ Hid (allGo m i (l.drop i) = fin)) (fun s7 _ _ _ => l.length - (intOf s7).toNat)
 case atStart => exact ⟨0, t, wo, _, uA, uc, uK, ud, rfl, Nat.zero_le _, HE, HB0, HB1, HG, Lib.hid ⟨trivial, trivial⟩, HT, HWT, HAG⟩
 case round =>
  obtain ⟨i, m, wg, S, mA, mc, mK, md, rfl, hi, HE, HB0, HB1, HG, HS, HMR, HWT, HAG⟩ := hrel
  rcases Nat.lt_or_ge i l.length with hlt | hlt
  ·have q1 : (0 : Int) ≤ (i : Int) := by omega
   have q2 : (i : Int) < (l.length : Int) := by omega
   obtain ⟨o, ho⟩ : ∃ o, l[i]? = some o := ⟨_, List.getElem?_eq_getElem hlt⟩
   have HOO := Lib.hid (HOK.out o (List.mem_of_getElem? ho))
   have HWT2 : Hid (m.wt + (opW o + totW (l.drop (i + 1))) ≤ 400000) := Lib.hid (by have := HWT.out; rw [drop_at ho] at this; exact this)
   have HAG2 : Hid ((if validD m o = 0 then allGo (doD m o) (i + 1) (l.drop (i + 1)) else (Nd.zero, i, validD m o)) = fin) := Lib.hid (by rw [← HAG.out, drop_at ho, allGo_cons])
   obtain ⟨ba, oa, pv, tv, cv, rfl, hrd, c0, c1, c2, c3, c4, c5, c6, c7, c8, c9, c10⟩ := lsame_at (HL.out.ext HE.out) ho
   have HRO := Lib.hid hrd
   obtain ⟨pA, pc, tA, tc, cA, cc, he, -, -, -⟩ := rdO_cells hrd
   simp only [Value.agg.injEq, Array.mk.injEq, List.cons.injEq, true_and, and_true] at he
   obtain ⟨rfl, rfl, rfl⟩ := he
   clear hrd ho HWT HAG
   have CC := Lib.hid (show _ ∧ _ ∧ _ ∧ _ ∧ _ ∧ _ ∧ _ ∧ _ ∧ _ ∧ _ ∧ _ from ⟨c0, c1, c2, c3, c4, c5, c6, c7, c8, c9, c10⟩)
   go_upto_region 6 with fail
   clear c0 c1 c2 c3 c4 c5 c6 c7 c8 c9 c10
   obtain ⟨NT, hNT⟩ : ∃ n, (applyD m o).1 = n := ⟨_, rfl⟩
   obtain ⟨E, hEE⟩ : ∃ n, (applyD m o).2 = n := ⟨_, rfl⟩
   have HNT := Lib.hid hNT
   have HEE := Lib.hid hEE
   clear hNT hEE
   go_cut [8, 9] from 14 to 34 (fun s8 s9 wx => ∃ (P : Nat) (wg : World) (S : Nat → Prop) (nA : Option Addr) (nc : Nat) (nK : Option Addr) (nd : Nat), s8 = .pointer (some ⟨P, 0, none⟩) ∧ s9 = .int .i64 E ∧ Hid (Ext w wx) ∧ Hid (∃ cs, NBox wx B 26 cs ∧ cs = #[.int .u64 m.id, .bool m.leaf, .string m.label, .slice mA m.attrs.length mc, .string m.text, .slice mK m.kids.length md]) ∧ Hid (NBox wx (B + 1) 26 #[.int .u64 0, .bool false, .string ⟨#[]⟩, .slice none 0 0, .string ⟨#[]⟩, .slice none 0 0]) ∧ Hid (NBox wx P 26 #[.int .u64 NT.id, .bool NT.leaf, .string NT.label, .slice nA NT.attrs.length nc, .string NT.text, .slice nK NT.kids.length nd]) ∧ Hid (GW wo w wg wx S) ∧ Hid (S B ∧ S (B + 1)) ∧ Hid (B + 1 < P) ∧ Hid (NT.rd wg (.agg #[.int .u64 NT.id, .bool NT.leaf, .string NT.label, .slice nA NT.attrs.length nc, .string NT.text, .slice nK NT.kids.length nd])))
   case first =>
    obtain ⟨wd, hwd⟩ : ∃ d, wr.drew = d := ⟨_, rfl⟩
    have XD : Ext wr wd := by rw [← hwd]; exact (Ext.refl wr).drew
    replace HE := Lib.hid (HE.out.trans XD)
    replace HG := Lib.hid (HG.out.ext XD)
    replace HB0 := Lib.hid (HB0.out.ext XD)
    replace HB1 := Lib.hid (HB1.out.ext XD)
    have HRO' := Lib.hid (OpD.rd_ext XD HRO.out)
    have CC' : Hid (wd.cell? ⟨ba, oa + i * 11, none⟩ = some (.int .u8 o.kind) ∧ wd.cell? ⟨ba, oa + i * 11 + 1, none⟩ = some (.slice pA o.path.length pc) ∧ wd.cell? ⟨ba, oa + i * 11 + 2, none⟩ = some (.int .i64 o.at_) ∧ wd.cell? ⟨ba, oa + i * 11 + 3, none⟩ = some (.slice tA o.to.length tc) ∧ wd.cell? ⟨ba, oa + i * 11 + 4, none⟩ = some (.int .u64 o.id) ∧ wd.cell? ⟨ba, oa + i * 11 + 5, none⟩ = some (.bool o.leaf) ∧ wd.cell? ⟨ba, oa + i * 11 + 6, none⟩ = some (.string o.label) ∧ wd.cell? ⟨ba, oa + i * 11 + 7, none⟩ = some (.string o.key) ∧ wd.cell? ⟨ba, oa + i * 11 + 8, none⟩ = some (.string o.value) ∧ wd.cell? ⟨ba, oa + i * 11 + 9, none⟩ = some (.bool o.gone) ∧ wd.cell? ⟨ba, oa + i * 11 + 10, none⟩ = some (.slice cA o.pcs.length cc)) := Lib.hid (by
     obtain ⟨c0, c1, c2, c3, c4, c5, c6, c7, c8, c9, c10⟩ := CC.out
     exact ⟨XD.cell c0, XD.cell c1, XD.cell c2, XD.cell c3, XD.cell c4, XD.cell c5, XD.cell c6, XD.cell c7, XD.cell c8, XD.cell c9, XD.cell c10⟩)
    clear CC HRO
    refine wp_region_held_drew (S := fun W => NBox W B 26 #[.int .u64 m.id, .bool m.leaf, .string m.label, .slice mA m.attrs.length mc, .string m.text, .slice mK m.kids.length md] ∧ W.cell? ⟨ba, oa + i * 11, none⟩ = some (.int .u8 o.kind) ∧ W.cell? ⟨ba, oa + i * 11 + 1, none⟩ = some (.slice pA o.path.length pc) ∧ W.cell? ⟨ba, oa + i * 11 + 2, none⟩ = some (.int .i64 o.at_) ∧ W.cell? ⟨ba, oa + i * 11 + 3, none⟩ = some (.slice tA o.to.length tc) ∧ W.cell? ⟨ba, oa + i * 11 + 4, none⟩ = some (.int .u64 o.id) ∧ W.cell? ⟨ba, oa + i * 11 + 5, none⟩ = some (.bool o.leaf) ∧ W.cell? ⟨ba, oa + i * 11 + 6, none⟩ = some (.string o.label) ∧ W.cell? ⟨ba, oa + i * 11 + 7, none⟩ = some (.string o.key) ∧ W.cell? ⟨ba, oa + i * 11 + 8, none⟩ = some (.string o.value) ∧ W.cell? ⟨ba, oa + i * 11 + 9, none⟩ = some (.bool o.gone) ∧ W.cell? ⟨ba, oa + i * 11 + 10, none⟩ = some (.slice cA o.pcs.length cc)) (by kernel_rfl) (by rw [hwd]; exact ⟨HB0.out, CC'.out⟩) (fun hHeld => ?_)
    rw [hwd] at hHeld ⊢
    clear hwd XD
    refine tk 0 ?_ rfl (.inl ⟨by rfl, ?_⟩) hHeld ?_
    rotate_left
    ·intro w hSw
     have fq := hSw.1
     obtain ⟨e0, e1, e2, e3, e4, e5⟩ := fq.c6
     go_simp
     all_goals (first | with_reducible rfl | rw [if_pos (by omega)])
    try simp only [Act.put, aS]
    refine tk 1 ?_ rfl (.inl ⟨by rfl, ?_⟩) hHeld ?_
    rotate_left
    ·intro w hSw
     try dsimp only at hSw
     go_simp
     all_goals (first | with_reducible rfl | rw [if_pos (by omega)])
    try simp only [Act.put, aS]
    refine tk 2 ?_ rfl (.inl ⟨by rfl, ?_⟩) hHeld ?_
    rotate_left
    ·intro w hSw
     try dsimp only at hSw
     go_simp
     all_goals (first | with_reducible rfl | rw [if_pos (by omega)])
    try simp only [Act.put, aS]
    refine tk 3 ?_ rfl (.inl ⟨by rfl, ?_⟩) hHeld ?_
    rotate_left
    ·intro w hSw
     try dsimp only at hSw
     go_simp
     all_goals (first | with_reducible rfl | rw [if_pos (by omega)])
    try simp only [Act.put, aS]
    refine tk 4 ?_ rfl (.inl ⟨by rfl, ?_⟩) hHeld ?_
    rotate_left
    ·intro w hSw
     have fq := hSw
     obtain ⟨q0, q1, q2, q3, q4, q5, q6, q7, q8, q9, q10, q11⟩ := fq
     go_simp
     all_goals (first | with_reducible rfl | rw [if_pos (by omega)])
    try simp only [Act.put, aS]
    refine wpAnyH_ready (rs := [5, 9]) (by kernel_rfl) (by simp) ?_
    refine AllReadyH.cons (o := ⟨_, _, _, _, _, _⟩) rfl (fun K' hK => ?_) (AllReadyH.cons (o := ⟨_, _, _, _, _, _⟩) rfl (fun K' hK => ?_) (AllReadyH.nil))
    ·have hc := apply_late m o _ _ wg wd HG.out.now HMR.out HRO'.out HOO.out.1 HOO.out.2 (by have := HWT2.out; omega)
     rw [HNT.out, HEE.out] at hc
     go_simp
     go_at_call 59
     refine hc.mono ?_
     clear hc
     rintro e v1 ⟨r, rfl, ⟨q, rfl, hLL⟩, hE⟩
     have HNR := Lib.hid (HG.out.got hE hLL)
     obtain ⟨nA, nc, nK, nd, rfl⟩ := rd_open6 HNR.out
     replace HS := Lib.hid (show _ ∧ _ from ⟨HG.out.keep hE HS.out.1 HB0.out.lt, HG.out.keep hE HS.out.2 HB1.out.lt⟩)
     replace HG := Lib.hid (HG.out.glue hE)
     replace HE := Lib.hid (HE.out.trans hE)
     replace HB0 := Lib.hid (HB0.out.ext hE)
     replace HB1 := Lib.hid (HB1.out.ext hE)
     have HRO2 := Lib.hid (OpD.rd_ext hE HRO'.out)
     clear HRO'
     have HRO' := HRO2
     clear HRO2
     refine hK.out _ _ (show _ ∧ _ ∧ _ ∧ _ ∧ _ ∧ _ ∧ _ ∧ _ ∧ _ ∧ _ ∧ _ ∧ _ from ⟨HB0.out, hE.cell (hHeld.2.1), hE.cell (hHeld.2.2.1), hE.cell (hHeld.2.2.2.1), hE.cell (hHeld.2.2.2.2.1), hE.cell (hHeld.2.2.2.2.2.1), hE.cell (hHeld.2.2.2.2.2.2.1), hE.cell (hHeld.2.2.2.2.2.2.2.1), hE.cell (hHeld.2.2.2.2.2.2.2.2.1), hE.cell (hHeld.2.2.2.2.2.2.2.2.2.1), hE.cell (hHeld.2.2.2.2.2.2.2.2.2.2.1), hE.cell (hHeld.2.2.2.2.2.2.2.2.2.2.2)⟩) (fun hHeld => ?_)
     clear hK K' hE hLL
     try simp only [Act.put, aS]
     refine tk 6 ?_ rfl (.inl ⟨by rfl, ?_⟩) hHeld ?_
     rotate_left
     ·intro w hSw
      try dsimp only at hSw
      go_simp
      all_goals (first | with_reducible rfl | rw [if_pos (by omega)])
     try simp only [Act.put, aS]
     refine tk 7 ?_ rfl (.inl ⟨by rfl, ?_⟩) hHeld ?_
     rotate_left
     ·intro w hSw
      try dsimp only at hSw
      go_simp
      all_goals (first | with_reducible rfl | rw [if_pos (by omega)])
     try simp only [Act.put, aS]
     refine tk 8 ?_ rfl (.inl ⟨by rfl, ?_⟩) hHeld ?_
     rotate_left
     ·intro w hSw
      try dsimp only at hSw
      go_simp
      all_goals (first | with_reducible rfl | rw [if_pos (by omega)])
     try simp only [Act.put, aS]
     refine wpAnyH_ready (rs := [9]) (by kernel_rfl) (by simp) ?_
     refine AllReadyH.cons (o := ⟨_, _, _, _, _, _⟩) rfl (fun K' hK => ?_) (AllReadyH.nil)
     go_simp
     obtain ⟨P, hP⟩ : ∃ b, v1.heap.size = b := ⟨_, rfl⟩
     have HSP := Lib.hid (HG.out.fresh P (by rw [← hP]; exact Nat.le_refl _))
     have HLP := Lib.hid (show B + 1 < P from by rw [← hP]; exact HB1.out.lt)
     have HBA := Lib.hid (show ba ≠ P from by rw [← hP]; exact Nat.ne_of_lt (cell_block hHeld.2.1))
     have hE0 : Ext v1 (v1.alloc (.cells #[.int .u64 0, .bool false, .string ⟨#[]⟩, .slice none 0 0, .string ⟨#[]⟩, .slice none 0 0] 26)) := (Ext.refl _).alloc _
     refine hK.out _ _ (show _ ∧ _ ∧ _ ∧ _ ∧ _ ∧ _ ∧ _ ∧ _ ∧ _ ∧ _ ∧ _ ∧ _ from ⟨HB0.out.ext hE0, hE0.cell (hHeld.2.1), hE0.cell (hHeld.2.2.1), hE0.cell (hHeld.2.2.2.1), hE0.cell (hHeld.2.2.2.2.1), hE0.cell (hHeld.2.2.2.2.2.1), hE0.cell (hHeld.2.2.2.2.2.2.1), hE0.cell (hHeld.2.2.2.2.2.2.2.1), hE0.cell (hHeld.2.2.2.2.2.2.2.2.1), hE0.cell (hHeld.2.2.2.2.2.2.2.2.2.1), hE0.cell (hHeld.2.2.2.2.2.2.2.2.2.2.1), hE0.cell (hHeld.2.2.2.2.2.2.2.2.2.2.2)⟩) (fun hHeld => ?_)
     clear hK K'
     try simp only [Act.put, aS]
     obtain ⟨v2, hd⟩ : ∃ d, v1.alloc (.cells #[.int .u64 0, .bool false, .string ⟨#[]⟩, .slice none 0 0, .string ⟨#[]⟩, .slice none 0 0] 26) = d := ⟨_, rfl⟩
     have HBP := Lib.hid (show NBox v2 P 26 #[.int .u64 0, .bool false, .string ⟨#[]⟩, .slice none 0 0, .string ⟨#[]⟩, .slice none 0 0] from by rw [← hd, ← hP]; exact NBox.new _ _ _)
     have hE : Ext v1 v2 := by rw [← hd]; exact hE0
     clear hE0
     replace HE := Lib.hid (HE.out.trans hE)
     replace HG := Lib.hid (HG.out.ext hE)
     replace HB0 := Lib.hid (HB0.out.ext hE)
     replace HB1 := Lib.hid (HB1.out.ext hE)
     have HRO2 := Lib.hid (OpD.rd_ext hE HRO'.out)
     clear HRO'
     have HRO' := HRO2
     clear HRO2
     rw [hd] at hHeld ⊢
     rw [hP]
     clear hd hP hE
     refine wpAnyH_ready (rs := [10]) (by kernel_rfl) (by simp) ?_
     refine AllReadyH.cons (o := ⟨_, _, _, _, _, _⟩) rfl (fun K' hK => ?_) (AllReadyH.nil)
     obtain ⟨y0, y1, y2, y3, y4, y5⟩ := HBP.out.c6
     obtain ⟨z0, z1, z2, z3, z4, z5⟩ := HBP.out.f6
     go_simp
     have F9 := Fr.six v2 P (.int .u64 NT.id) (.bool NT.leaf) (.string NT.label) (.slice nA NT.attrs.length nc) (.string NT.text) (.slice nK NT.kids.length nd)
     have HBP' := Lib.hid (HBP.out.six (.int .u64 NT.id) (.bool NT.leaf) (.string NT.label) (.slice nA NT.attrs.length nc) (.string NT.text) (.slice nK NT.kids.length nd))
     have hBBB := HBB.out
     have hP0 : B + 1 < P := HLP.out
     have HG' := Lib.hid (HG.out.fr F9 (fun q hq => by rw [show q = P from hq]; exact ⟨HSP.out, by omega⟩))
     have HE' := Lib.hid (Fr.ext HE.out F9 (fun q hq => by rw [show q = P from hq, hBBB]; omega))
     have HB0' := HB0.out.fr F9 (show ¬ B = P by omega)
     have HB1' := Lib.hid (HB1.out.fr F9 (show ¬ B + 1 = P by omega))
     have hb : ba ≠ P := HBA.out
     have fg := hHeld
     obtain ⟨g0, g1, g2, g3, g4, g5, g6, g7, g8, g9, g10, g11⟩ := fg
     have hns : ¬ (fun k => k = P) ba := hb
     have f1 := cell_fr F9 g1 hns
     have f2 := cell_fr F9 g2 hns
     have f3 := cell_fr F9 g3 hns
     have f4 := cell_fr F9 g4 hns
     have f5 := cell_fr F9 g5 hns
     have f6 := cell_fr F9 g6 hns
     have f7 := cell_fr F9 g7 hns
     have f8 := cell_fr F9 g8 hns
     have f9 := cell_fr F9 g9 hns
     have f10 := cell_fr F9 g10 hns
     have f11 := cell_fr F9 g11 hns
     refine hK.out _ _ (show _ ∧ _ ∧ _ ∧ _ ∧ _ ∧ _ ∧ _ ∧ _ ∧ _ ∧ _ ∧ _ ∧ _ from ⟨HB0', f1, f2, f3, f4, f5, f6, f7, f8, f9, f10, f11⟩) (fun hHeld => ?_)
     clear g0 g1 g2 g3 g4 g5 g6 g7 g8 g9 g10 g11 f1 f2 f3 f4 f5 f6 f7 f8 f9 f10 f11
     clear hK K' y0 z0 y1 z1 y2 z2 y3 z3 y4 z4 y5 z5
     try simp only [Act.put, aS]
     refine tk 11 ?_ rfl (.inl ⟨by rfl, ?_⟩) hHeld ?_
     rotate_left
     ·intro w hSw
      try dsimp only at hSw
      go_simp
      all_goals (first | with_reducible rfl | rw [if_pos (by omega)])
     try simp only [Act.put, aS]
     refine wpAnyH_done (by kernel_rfl) ?_ _
     clear hHeld
     go_wp2_with fail
     go_meet
     exact ⟨P, _, _, nA, nc, nK, nd, rfl, rfl, HE', Lib.hid ⟨_, HB0', rfl⟩, HB1', HBP', HG', HS, HLP, HNR⟩
    ·go_simp
     obtain ⟨P, hP⟩ : ∃ b, wd.heap.size = b := ⟨_, rfl⟩
     have HSP := Lib.hid (HG.out.fresh P (by rw [← hP]; exact Nat.le_refl _))
     have HLP := Lib.hid (show B + 1 < P from by rw [← hP]; exact HB1.out.lt)
     have HBA := Lib.hid (show ba ≠ P from by rw [← hP]; exact Nat.ne_of_lt (cell_block hHeld.2.1))
     have hE0 : Ext wd (wd.alloc (.cells #[.int .u64 0, .bool false, .string ⟨#[]⟩, .slice none 0 0, .string ⟨#[]⟩, .slice none 0 0] 26)) := (Ext.refl _).alloc _
     refine hK.out _ _ (show _ ∧ _ ∧ _ ∧ _ ∧ _ ∧ _ ∧ _ ∧ _ ∧ _ ∧ _ ∧ _ ∧ _ from ⟨HB0.out.ext hE0, hE0.cell (hHeld.2.1), hE0.cell (hHeld.2.2.1), hE0.cell (hHeld.2.2.2.1), hE0.cell (hHeld.2.2.2.2.1), hE0.cell (hHeld.2.2.2.2.2.1), hE0.cell (hHeld.2.2.2.2.2.2.1), hE0.cell (hHeld.2.2.2.2.2.2.2.1), hE0.cell (hHeld.2.2.2.2.2.2.2.2.1), hE0.cell (hHeld.2.2.2.2.2.2.2.2.2.1), hE0.cell (hHeld.2.2.2.2.2.2.2.2.2.2.1), hE0.cell (hHeld.2.2.2.2.2.2.2.2.2.2.2)⟩) (fun hHeld => ?_)
     clear hK K'
     try simp only [Act.put, aS]
     obtain ⟨v3, hd⟩ : ∃ d, wd.alloc (.cells #[.int .u64 0, .bool false, .string ⟨#[]⟩, .slice none 0 0, .string ⟨#[]⟩, .slice none 0 0] 26) = d := ⟨_, rfl⟩
     have HBP := Lib.hid (show NBox v3 P 26 #[.int .u64 0, .bool false, .string ⟨#[]⟩, .slice none 0 0, .string ⟨#[]⟩, .slice none 0 0] from by rw [← hd, ← hP]; exact NBox.new _ _ _)
     have hE : Ext wd v3 := by rw [← hd]; exact hE0
     clear hE0
     replace HE := Lib.hid (HE.out.trans hE)
     replace HG := Lib.hid (HG.out.ext hE)
     replace HB0 := Lib.hid (HB0.out.ext hE)
     replace HB1 := Lib.hid (HB1.out.ext hE)
     have HRO2 := Lib.hid (OpD.rd_ext hE HRO'.out)
     clear HRO'
     have HRO' := HRO2
     clear HRO2
     rw [hd] at hHeld ⊢
     rw [hP]
     clear hd hP hE
     refine wpAnyH_ready (rs := [5]) (by kernel_rfl) (by simp) ?_
     refine AllReadyH.cons (o := ⟨_, _, _, _, _, _⟩) rfl (fun K' hK => ?_) (AllReadyH.nil)
     have hc := apply_late m o _ _ wg v3 HG.out.now HMR.out HRO'.out HOO.out.1 HOO.out.2 (by have := HWT2.out; omega)
     rw [HNT.out, HEE.out] at hc
     go_simp
     go_at_call 59
     refine hc.mono ?_
     clear hc
     rintro e v4 ⟨r, rfl, ⟨q, rfl, hLL⟩, hE⟩
     have HNR := Lib.hid (HG.out.got hE hLL)
     obtain ⟨nA, nc, nK, nd, rfl⟩ := rd_open6 HNR.out
     replace HS := Lib.hid (show _ ∧ _ from ⟨HG.out.keep hE HS.out.1 HB0.out.lt, HG.out.keep hE HS.out.2 HB1.out.lt⟩)
     replace HSP := Lib.hid (HG.out.keep hE HSP.out HBP.out.lt)
     replace HG := Lib.hid (HG.out.glue hE)
     replace HE := Lib.hid (HE.out.trans hE)
     replace HB0 := Lib.hid (HB0.out.ext hE)
     replace HB1 := Lib.hid (HB1.out.ext hE)
     replace HBP := Lib.hid (HBP.out.ext hE)
     have HRO2 := Lib.hid (OpD.rd_ext hE HRO'.out)
     clear HRO'
     have HRO' := HRO2
     clear HRO2
     refine hK.out _ _ (show _ ∧ _ ∧ _ ∧ _ ∧ _ ∧ _ ∧ _ ∧ _ ∧ _ ∧ _ ∧ _ ∧ _ from ⟨HB0.out, hE.cell (hHeld.2.1), hE.cell (hHeld.2.2.1), hE.cell (hHeld.2.2.2.1), hE.cell (hHeld.2.2.2.2.1), hE.cell (hHeld.2.2.2.2.2.1), hE.cell (hHeld.2.2.2.2.2.2.1), hE.cell (hHeld.2.2.2.2.2.2.2.1), hE.cell (hHeld.2.2.2.2.2.2.2.2.1), hE.cell (hHeld.2.2.2.2.2.2.2.2.2.1), hE.cell (hHeld.2.2.2.2.2.2.2.2.2.2.1), hE.cell (hHeld.2.2.2.2.2.2.2.2.2.2.2)⟩) (fun hHeld => ?_)
     clear hK K' hE hLL
     try simp only [Act.put, aS]
     refine tk 6 ?_ rfl (.inl ⟨by rfl, ?_⟩) hHeld ?_
     rotate_left
     ·intro w hSw
      try dsimp only at hSw
      go_simp
      all_goals (first | with_reducible rfl | rw [if_pos (by omega)])
     try simp only [Act.put, aS]
     refine tk 7 ?_ rfl (.inl ⟨by rfl, ?_⟩) hHeld ?_
     rotate_left
     ·intro w hSw
      try dsimp only at hSw
      go_simp
      all_goals (first | with_reducible rfl | rw [if_pos (by omega)])
     try simp only [Act.put, aS]
     refine tk 8 ?_ rfl (.inl ⟨by rfl, ?_⟩) hHeld ?_
     rotate_left
     ·intro w hSw
      try dsimp only at hSw
      go_simp
      all_goals (first | with_reducible rfl | rw [if_pos (by omega)])
     try simp only [Act.put, aS]
     refine wpAnyH_ready (rs := [10]) (by kernel_rfl) (by simp) ?_
     refine AllReadyH.cons (o := ⟨_, _, _, _, _, _⟩) rfl (fun K' hK => ?_) (AllReadyH.nil)
     obtain ⟨y0, y1, y2, y3, y4, y5⟩ := HBP.out.c6
     obtain ⟨z0, z1, z2, z3, z4, z5⟩ := HBP.out.f6
     go_simp
     have F9 := Fr.six v4 P (.int .u64 NT.id) (.bool NT.leaf) (.string NT.label) (.slice nA NT.attrs.length nc) (.string NT.text) (.slice nK NT.kids.length nd)
     have HBP' := Lib.hid (HBP.out.six (.int .u64 NT.id) (.bool NT.leaf) (.string NT.label) (.slice nA NT.attrs.length nc) (.string NT.text) (.slice nK NT.kids.length nd))
     have hBBB := HBB.out
     have hP0 : B + 1 < P := HLP.out
     have HG' := Lib.hid (HG.out.fr F9 (fun q hq => by rw [show q = P from hq]; exact ⟨HSP.out, by omega⟩))
     have HE' := Lib.hid (Fr.ext HE.out F9 (fun q hq => by rw [show q = P from hq, hBBB]; omega))
     have HB0' := HB0.out.fr F9 (show ¬ B = P by omega)
     have HB1' := Lib.hid (HB1.out.fr F9 (show ¬ B + 1 = P by omega))
     have hb : ba ≠ P := HBA.out
     have fg := hHeld
     obtain ⟨g0, g1, g2, g3, g4, g5, g6, g7, g8, g9, g10, g11⟩ := fg
     have hns : ¬ (fun k => k = P) ba := hb
     have f1 := cell_fr F9 g1 hns
     have f2 := cell_fr F9 g2 hns
     have f3 := cell_fr F9 g3 hns
     have f4 := cell_fr F9 g4 hns
     have f5 := cell_fr F9 g5 hns
     have f6 := cell_fr F9 g6 hns
     have f7 := cell_fr F9 g7 hns
     have f8 := cell_fr F9 g8 hns
     have f9 := cell_fr F9 g9 hns
     have f10 := cell_fr F9 g10 hns
     have f11 := cell_fr F9 g11 hns
     refine hK.out _ _ (show _ ∧ _ ∧ _ ∧ _ ∧ _ ∧ _ ∧ _ ∧ _ ∧ _ ∧ _ ∧ _ ∧ _ from ⟨HB0', f1, f2, f3, f4, f5, f6, f7, f8, f9, f10, f11⟩) (fun hHeld => ?_)
     clear g0 g1 g2 g3 g4 g5 g6 g7 g8 g9 g10 g11 f1 f2 f3 f4 f5 f6 f7 f8 f9 f10 f11
     clear hK K' y0 z0 y1 z1 y2 z2 y3 z3 y4 z4 y5 z5
     try simp only [Act.put, aS]
     refine tk 11 ?_ rfl (.inl ⟨by rfl, ?_⟩) hHeld ?_
     rotate_left
     ·intro w hSw
      try dsimp only at hSw
      go_simp
      all_goals (first | with_reducible rfl | rw [if_pos (by omega)])
     try simp only [Act.put, aS]
     refine wpAnyH_done (by kernel_rfl) ?_ _
     clear hHeld
     go_wp2_with fail
     go_meet
     exact ⟨P, _, _, nA, nc, nK, nd, rfl, rfl, HE', Lib.hid ⟨_, HB0', rfl⟩, HB1', HBP', HG', HS, HLP, HNR⟩
   case rest =>
    obtain ⟨P, wg', S', nA, nc, nK, nd, rfl, rfl, HE', HB0', HB1', HBP, HG', HS', HLP, HNR⟩ := hcut
    clear HE HB0 HB1 HG HS CC HRO HMR
    have HE := HE'
    have HB1 := HB1'
    have HG := HG'
    have HS := HS'
    have HB0 : Hid (NBox wc B 26 #[.int .u64 m.id, .bool m.leaf, .string m.label, .slice mA m.attrs.length mc, .string m.text, .slice mK m.kids.length md]) := Lib.hid (by obtain ⟨cs, h, rfl⟩ := HB0'.out; exact h)
    clear HE' HB0' HB1' HG' HS'
    by_cases hE0 : E = 0
    rotate_left
    ·have e1 : (E == 0) = false := by rw [beq_eq_false_iff_ne]; exact hE0
     have e2 : (E != 0) = true := by rw [bne, e1]; rfl
     have HR := Lib.hid (show fin = (Nd.zero, i, E) from by
      have h1 := HEE.out
      have h2 : validD m o = E := by
       unfold applyD at h1
       by_cases h0 : validD m o = 0
       ·rw [if_pos h0] at h1; exact absurd h1.symm hE0
       ·rw [if_neg h0] at h1; exact h1
      rw [← HAG2.out, if_neg (by rw [h2]; exact hE0), h2])
     clear hE0
     obtain ⟨y0, y1, y2, y3, y4, y5⟩ := HB1.out.c6
     obtain ⟨z0, z1, z2, z3, z4, z5⟩ := HB1.out.f6
     have F9 := Fr.six wc (B + 1) (.int .u64 0) (.bool false) (.string ⟨#[]⟩) (.slice none 0 0) (.string ⟨#[]⟩) (.slice none 0 0)
     have HB9 := Lib.hid (HB1.out.six (.int .u64 0) (.bool false) (.string ⟨#[]⟩) (.slice none 0 0) (.string ⟨#[]⟩) (.slice none 0 0))
     have hBB := HBB.out
     have HE9 := Lib.hid (Fr.ext HE.out F9 (fun q hq => by rw [show q = B + 1 from hq, hBB]; omega))
     clear F9 hBB
     go_wp2_with fail
     refine bodyPost_ret (results_three rfl rfl rfl rfl HB9.out Try.underlying26 rfl info42) rfl ?_
     exact ⟨_, rfl, ⟨_, (by rw [HR.out]; rfl), fun W _ _ => by rw [HR.out]; exact zero_rd W⟩, HE9.out⟩
    subst hE0
    have hv : validD m o = 0 := by
     have h1 := HEE.out
     unfold applyD at h1
     by_cases h0 : validD m o = 0
     ·exact h0
     ·rw [if_neg h0] at h1; exact absurd h1 h0
    have hnt : NT = doD m o := by
     rw [← HNT.out]
     unfold applyD
     rw [if_pos hv]
    have HAG3 : Hid (allGo NT (i + 1) (l.drop (i + 1)) = fin) := Lib.hid (by rw [hnt, ← HAG2.out, if_pos hv])
    have HWT3 : Hid (NT.wt + totW (l.drop (i + 1)) ≤ 400000) := Lib.hid (by rw [hnt]; have h1 := do_wt hv; have h2 := HWT2.out; omega)
    clear hv hnt HAG2 HWT2 HNT HEE
    obtain ⟨y0, y1, y2, y3, y4, y5⟩ := HB0.out.c6
    obtain ⟨z0, z1, z2, z3, z4, z5⟩ := HB0.out.f6
    obtain ⟨p0, p1, p2, p3, p4, p5⟩ := HBP.out.c6
    have F9 := Fr.six wc (B) (.int .u64 NT.id) (.bool NT.leaf) (.string NT.label) (.slice nA NT.attrs.length nc) (.string NT.text) (.slice nK NT.kids.length nd)
    have HB9 := Lib.hid (HB0.out.six (.int .u64 NT.id) (.bool NT.leaf) (.string NT.label) (.slice nA NT.attrs.length nc) (.string NT.text) (.slice nK NT.kids.length nd))
    have hBB := HBB.out
    have HG9 := Lib.hid (HG.out.fr F9 (fun q hq => by rw [show q = B from hq]; exact ⟨HS.out.1, by omega⟩))
    have HE9 := Lib.hid (Fr.ext HE.out F9 (fun q hq => by rw [show q = B from hq, hBB]; omega))
    have HB19 := Lib.hid (HB1.out.fr F9 (show ¬ B + 1 = B by omega))
    clear F9 hBB
    go_wp2_with fail
    go_roundw
    case rel => exact ⟨i + 1, NT, wg', S', nA, nc, nK, nd, by go_num, by omega, HE9, HB9, HB19, HG9, HS, HNR, HWT3, HAG3⟩
    case measure => simp [intOf]; omega
  ·obtain rfl : i = l.length := by omega
   have d1 : decide ((l.length : Int) < (l.length : Int)) = false := decide_eq_false (by omega)
   have HR := Lib.hid (show fin = (m, l.length, 0) from by rw [← HAG.out, List.drop_length]; rfl)
   obtain ⟨y0, y1, y2, y3, y4, y5⟩ := HB1.out.c6
   obtain ⟨z0, z1, z2, z3, z4, z5⟩ := HB1.out.f6
   obtain ⟨p0, p1, p2, p3, p4, p5⟩ := HB0.out.c6
   have F9 := Fr.six wr (B + 1) (.int .u64 m.id) (.bool m.leaf) (.string m.label) (.slice mA m.attrs.length mc) (.string m.text) (.slice mK m.kids.length md)
   have HB9 := Lib.hid (HB1.out.six (.int .u64 m.id) (.bool m.leaf) (.string m.label) (.slice mA m.attrs.length mc) (.string m.text) (.slice mK m.kids.length md))
   have hBB := HBB.out
   have HG9 := Lib.hid (HG.out.fr F9 (fun q hq => by rw [show q = B + 1 from hq]; exact ⟨HS.out.2, by omega⟩))
   have HE9 := Lib.hid (Fr.ext HE.out F9 (fun q hq => by rw [show q = B + 1 from hq, hBB]; omega))
   clear F9 hBB
   go_wp2_with fail
   refine bodyPost_ret (results_three rfl rfl rfl rfl HB9.out Try.underlying26 rfl info42) rfl ?_
   exact ⟨_, rfl, ⟨_, (by rw [HR.out]; rfl), by rw [HR.out]; exact HG9.out.late HMR.out⟩, HE9.out⟩
end Go.Proofs.Ytofcbclokkjfjaa.Sy
