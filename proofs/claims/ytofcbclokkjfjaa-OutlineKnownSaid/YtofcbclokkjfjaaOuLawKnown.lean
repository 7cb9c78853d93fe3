/- Chapter 24: the law OutlineKnown (5): the examples hold; the grove, all paths, all places. (Printed by goulawk.py.) -/
import Derived.Test.YtofcbclokkjfjaaOuGrove
import Derived.Test.YtofcbclokkjfjaaOuDone
import Derived.Test.YtofcbclokkjfjaaOuBack
import Derived.Test.YtofcbclokkjfjaaOuLawMoves
import Derived.Deep.CutRange
import Derived.Deep.CutBlock
namespace Go.Proofs.Ytofcbclokkjfjaa.Wi
open Go.RowKit Go.Proofs.Ytofcbclokkjfjaa.Bw Go.Proofs.Ytofcbclokkjfjaa.Bs

theorem RdS.lits (w : World) (ty : TypeId) (l : List Int) (hl : l.length ≤ 1000) (cs : Array Value) (hcs : cs = (l.map (Value.int .i64)).toArray) :
    RdS (w.alloc (.cells cs ty)) 1 l.length (l.map (Value.int .i64)) (.slice (some ⟨w.heap.size, 0, none⟩) l.length l.length) := by
  subst hcs
  refine ⟨_, _, rfl, by simp, Nat.le_refl _, by simp [maxLen]; omega, fun _ => ⟨_, 0, rfl, fun j u hu => ?_⟩⟩
  have hb := World.alloc_heap_new w (.cells (l.map (Value.int .i64)).toArray ty)
  rw [Nat.zero_add]
  simp only [World.cell?, hb]
  simpa using hu
theorem okP.lit (B : Nat) (w : World) (ty : TypeId) (P : List Int → Prop) (l : List Int) (hP : P l) (hl : l.length ≤ 1000) (cs : Array Value) (hcs : cs = (l.map (Value.int .i64)).toArray) (row : Option Nat) (hB : B ≤ w.heap.size) (hr : ∀ k, row = some k → k < w.heap.size) :
    okP B P (w.alloc (.cells cs ty)) row (.slice (some ⟨w.heap.size, 0, none⟩) l.length l.length) :=
  ⟨l, hP, ⟨RdS.lits w ty l hl cs hcs, fun _ => ⟨w.heap.size, rfl, fun h => by have := hr _ h; omega⟩⟩, fun _ b hb => by cases hb; exact hB⟩
theorem gR_cnt : gR.cnt = 10 := by simp [gR, gA, gB, gC, gD, gE, gF, gG, gH, gX, Nd.cnt, cntK]
theorem gR_wt : gR.wt ≤ 400 := by simp [gR, gA, gB, gC, gD, gE, gF, gG, gH, gX, Nd.wt, wtK, wtA, ByteArray.size]
theorem gBad_wt : gBad.wt ≤ 400 := by simp [gBad, Nd.wt, wtK, wtA, ByteArray.size]
theorem gR_pths : ∀ p ∈ pthN gR, p ∈ gPaths := by
  have h : (pthN gR).all (fun p => decide (p ∈ gPaths)) = true := by kernel_rfl
  intro p hp
  exact of_decide_eq_true (List.all_eq_true.1 h p hp)
theorem gP_fit : ∀ p ∈ gPaths, p.length ≤ 63 ∧ ∀ i ∈ p, -1000 ≤ i ∧ i ≤ 1000 := by
  have h : gPaths.all (fun p => decide (p.length ≤ 63) && p.all (fun i => decide (-1000 ≤ i) && decide (i ≤ 1000))) = true := by kernel_rfl
  intro p hp
  have h2 := List.all_eq_true.1 h p hp
  rw [Bool.and_eq_true] at h2
  refine ⟨of_decide_eq_true h2.1, fun i hi => ?_⟩
  have h3 := List.all_eq_true.1 h2.2 i hi
  rw [Bool.and_eq_true] at h3
  exact ⟨of_decide_eq_true h3.1, of_decide_eq_true h3.2⟩
theorem gP_M {p : List Int} (hp : p ∈ gPaths) : backM gR p = true := List.all_eq_true.1 grove_M p hp
theorem gP_T {p : List Int} (hp : p ∈ gPaths) {k : Int} (h0 : -1 ≤ k) (h1 : k ≤ 4) : backT gR p k 30 = true := by
  have h := List.all_eq_true.1 (List.all_eq_true.1 grove_T p hp) k
  apply h
  simp only [List.mem_cons, List.not_mem_nil, or_false]
  omega

set_option maxRecDepth 100000 in
set_option maxHeartbeats 8000000 in
theorem lawKnown (w : World) : Calls Try.prog 5 #[] w (Ret w fun r _ => r = .bool true) := by
  go_enter Try.func5, Try.ntmps5
  go_wp2_with fail
  refine (grove_any w).mono ?_
  rintro e wz ⟨r, rfl, ⟨g, a, x, e, hg, rfl, hb, hL⟩, hE0⟩
  obtain ⟨w1, hw1⟩ : ∃ W, wz.alloc (.cells #[.int .u64 1, .bool false, .string ⟨#[114]⟩, .slice none 0 0, .string ⟨#[]⟩, .slice (some ⟨g, 0, none⟩) 3 3] 26) = W := ⟨_, rfl⟩
  obtain ⟨B, hB⟩ : ∃ B, wz.heap.size = B := ⟨_, rfl⟩
  have E1 : Ext wz w1 := by rw [← hw1]; exact (Ext.refl _).alloc _
  have bg : NBox w1 B 26 #[.int .u64 1, .bool false, .string ⟨#[114]⟩, .slice none 0 0, .string ⟨#[]⟩, .slice (some ⟨g, 0, none⟩) 3 3] := by rw [← hw1, ← hB]; exact NBox.new _ _ _
  have hgB : g < B := by rw [← hB]; exact (Array.getElem?_eq_some_iff.1 hb).1
  have hs1 : w1.heap.size = B + 1 := by rw [← hw1, World.size_alloc, hB]
  replace hb := hb.ext E1
  have HL := Lib.hid hL
  clear hL
  have HE := Lib.hid (hE0.trans E1)
  have EZ := Lib.hid E1
  have E0 := Lib.hid hE0
  have HW1 := Lib.hid hw1
  have HBB := Lib.hid hB
  have HG0 := Lib.hid hg
  clear hw1 hE0 E1 hB
  go_upto_region 2 with fail
  rw [HW1.out, HBB.out]
  clear HW1
  obtain ⟨w2, hw2⟩ : ∃ W, w1.alloc (.cells #[.string ⟨#[97]⟩, .string ⟨#[49]⟩, .string ⟨#[98]⟩, .string ⟨#[]⟩] 45) = W := ⟨_, rfl⟩
  have E2 : Ext w1 w2 := by rw [← hw2]; exact (Ext.refl _).alloc _
  have ba : NBox w2 (B + 1) 45 #[.string ⟨#[97]⟩, .string ⟨#[49]⟩, .string ⟨#[98]⟩, .string ⟨#[]⟩] := by rw [← hw2, ← hs1]; exact NBox.new _ _ _
  have hs2 : w2.heap.size = B + 1 + 1 := by rw [← hw2, World.size_alloc, hs1]
  have bg2 := bg.ext E2
  have hb2 := hb.ext E2
  have HS1 := Lib.hid hs1
  have HW2 := Lib.hid hw2
  have k5 := bg.cell 5
  have k9 : w2.cell? ⟨g, 9, none⟩ = some (.slice none 0 0) := hb2.cell 9
  have f9 := hb2.frozen 9
  clear hs1 hw2
  go_upto_region 3 with (first | rw [HW2.out, HS1.out] | rw [HW2.out])
  clear HW2 HS1 k5 k9 f9
  have F3 := Fr.setCell w2 g 9 (.slice (some ⟨B + 1, 0, none⟩) 2 2)
  have hb3 := hb2.set 9 (.slice (some ⟨B + 1, 0, none⟩) 2 2)
  have hs3 := World.size_setCell w2 ⟨g, 9, none⟩ (.slice (some ⟨B + 1, 0, none⟩) 2 2)
  obtain ⟨w3, hw3⟩ : ∃ W, w2.setCell ⟨g, 9, none⟩ (.slice (some ⟨B + 1, 0, none⟩) 2 2) = W := ⟨_, rfl⟩
  rw [hw3] at F3 hb3 hs3 ⊢
  clear hw3
  have hb3' : NBox w3 g 26 (grv a x e (.slice (some ⟨B + 1, 0, none⟩) 2 2)) := hb3
  have bg3 := NBox.fr F3 bg2 (by omega)
  have ba3 := NBox.fr F3 ba (by omega)
  rw [hs2] at hs3
  have FZ := (Fr.of_ext (EZ.out.trans E2) (fun k => k = g)).trans F3
  obtain ⟨w4, hw4⟩ : ∃ W, w3.alloc (.cells #[.int .u64 20, .bool true, .string ⟨#[]⟩, .slice none 0 0, .string ⟨#[120]⟩, .slice none 0 0, .int .u64 21, .bool true, .string ⟨#[]⟩, .slice none 0 0, .string ⟨#[]⟩, .slice none 0 0] 26) = W := ⟨_, rfl⟩
  have E4 : Ext w3 w4 := by rw [← hw4]; exact (Ext.refl _).alloc _
  have bn : NBox w4 (B + 1 + 1) 26 #[.int .u64 20, .bool true, .string ⟨#[]⟩, .slice none 0 0, .string ⟨#[120]⟩, .slice none 0 0, .int .u64 21, .bool true, .string ⟨#[]⟩, .slice none 0 0, .string ⟨#[]⟩, .slice none 0 0] := by rw [← hw4, ← hs3]; exact NBox.new _ _ _
  have hb4 := hb3'.ext E4
  have bg4 := bg3.ext E4
  have ba4 := ba3.ext E4
  have hz4 : B + 1 + 1 < w4.heap.size := (Array.getElem?_eq_some_iff.1 bn).1
  have hown4 : w4.ownsRow g 26 6 (.slice (some ⟨g, 0, none⟩) 3 3) 3 (grv a x e (.slice (some ⟨B + 1, 0, none⟩) 2 2)).toList := ⟨rfl, .inr ⟨g, 3, _, rfl, Nat.le_refl _, hb4, Nat.le_refl _, by simp [maxLen], rfl, rfl⟩⟩
  have hrd4 : RdS w4 6 2 [.int .u64 20, .bool true, .string ⟨#[]⟩, .slice none 0 0, .string ⟨#[120]⟩, .slice none 0 0, .int .u64 21, .bool true, .string ⟨#[]⟩, .slice none 0 0, .string ⟨#[]⟩, .slice none 0 0] (.slice (some ⟨B + 1 + 1, 0, none⟩) 2 2) :=
    RdS.of_owns (base := 0) (e := 26) ⟨rfl, .inr ⟨B + 1 + 1, 2, _, rfl, Nat.zero_le _, bn, Nat.le_refl _, by simp [maxLen], rfl, rfl⟩⟩
  have hone4 : ∀ u ∈ ([.int .u64 20, .bool true, .string ⟨#[]⟩, .slice none 0 0, .string ⟨#[120]⟩, .slice none 0 0, .int .u64 21, .bool true, .string ⟨#[]⟩, .slice none 0 0, .string ⟨#[]⟩, .slice none 0 0] : List Value), u.oneCell' = true := by
    intro u hu
    simp only [List.mem_cons, List.not_mem_nil, or_false] at hu
    rcases hu with rfl | rfl | rfl | rfl | rfl | rfl | rfl | rfl | rfl | rfl | rfl | rfl <;> rfl
  have k5 := bg3.cell 5
  have HS3 := Lib.hid hs3
  have HW4 := Lib.hid hw4
  have HHB := Lib.hid hgB
  clear hs3 hw4
  go_upto_region 4 with (first
    | rw [HW4.out, HS3.out]
    | rw [HW4.out]
    | (at_builtin
       refine wpList_append_rd rfl rfl Go.Proofs.Ytofcbclokkjfjaa.Bw.T24 (v := _) (by rfl) hown4 (by rfl) hrd4 hone4 (by omega) (by simp only [maxLen]; omega) (by omega) ?_
       intro v5 w5 hown5 hg5 hat5
       replace hown5 : w5.ownsRow g 26 6 v5 5 _ := hown5
       obtain ⟨q, qc, rfl, hq1, hq2⟩ := World.ownsRow.form hown5 (by omega)
       have F5 := Fr.grown hg5
       have bg5 := NBox.fr F5 bg4 (fun h => absurd (Option.some.inj (show some g = some B from h)) (by omega))
       have ba5 := NBox.fr F5 ba4 (fun h => absurd (Option.some.inj (show some g = some (B + 1) from h)) (by omega))
       have hqB : q ≠ B := by
         rcases hat5 with h | h
         · have := Option.some.inj (show some q = some g from h); omega
         · have := Option.some.inj (show some q = some w4.heap.size from h); omega
       have y5 := bg5.cell 5
       have z5 := bg5.frozen 5
       clear k5))
  clear HW4 HS3
  have F6 := Fr.setCell w5 B 5 (.slice (some ⟨q, 0, none⟩) 5 qc)
  have bg6 : NBox (w5.setCell ⟨B, 5, none⟩ (.slice (some ⟨q, 0, none⟩) 5 qc)) B 26 #[.int .u64 1, .bool false, .string ⟨#[114]⟩, .slice none 0 0, .string ⟨#[]⟩, .slice (some ⟨q, 0, none⟩) 5 qc] := bg5.set 5 (.slice (some ⟨q, 0, none⟩) 5 qc)
  obtain ⟨w6, hw6⟩ : ∃ W, w5.setCell ⟨B, 5, none⟩ (.slice (some ⟨q, 0, none⟩) 5 qc) = W := ⟨_, rfl⟩
  rw [hw6] at F6 bg6 ⊢
  clear hw6 y5 z5 bg5
  have ba6 := NBox.fr F6 ba5 (by omega)
  have hown6 := owns_fr F6 hown5 (fun b hb hk => hqB ((Option.some.inj (show some q = some b from hb)).trans hk))
  have hBz : B = wz.heap.size := HBB.out.symm
  have FY := (FZ.join (Fr.of_ext E4 (fun _ => False)) (U := fun k => k = g) (fun k _ h => h.elim id False.elim)).join F5 (U := fun k => k = g) (fun k _ h => h.elim id (fun h => (Option.some.inj (show some g = some k from h)).symm))
  have FX := FY.join F6 (U := fun k => k = g) (fun k hk h => h.elim id (fun h => by have h2 : k = B := h; omega))
  obtain ⟨hrA, hrD⟩ := HL.out w6 FX
  have hEw : Ext w w6 := Fr.ext (E0.out) FX (fun k hk => by have := HG0.out; have h2 : k = g := hk; omega)
  have hRow := RdS.of_owns hown6
  have hrd : gR.rd w6 (.agg #[.int .u64 1, .bool false, .string ⟨#[114]⟩, .slice none 0 0, .string ⟨#[]⟩, .slice (some ⟨q, 0, none⟩) 5 qc]) := by
    obtain ⟨A, c, he, h1, h2, h3, h4⟩ := hRow
    obtain ⟨b, off, hA, h5⟩ := h4 (by omega)
    cases he
    cases hA
    have rG := leaf_rd w6 20 true ⟨#[]⟩ ⟨#[120]⟩ (by omega) (by omega) (by simp [maxLen, ByteArray.size]) (by simp [maxLen, ByteArray.size])
    have rH := leaf_rd w6 21 true ⟨#[]⟩ ⟨#[]⟩ (by omega) (by omega) (by simp [maxLen, ByteArray.size]) (by simp [maxLen, ByteArray.size])
    have rB : gB.rd w6 (.agg #[.int .u64 5, .bool true, .string ⟨#[98]⟩, .slice (some ⟨B + 1, 0, none⟩) 2 2, .string ⟨#[98, 101, 101]⟩, .slice none 0 0]) := Nd.rd_shut (t := gB) (by simp [gB, Nd.id]) (by simp [gB, Nd.id]) (by simp [gB, Nd.label, maxLen, ByteArray.size]) (by simp [gB, Nd.text, maxLen, ByteArray.size]) ⟨_, 2, rfl, by simp [gB, Nd.attrs], by simp [maxLen], fun _ => ⟨_, 0, rfl, ba6.cell 0, ba6.cell 1, show 1 ≤ maxLen by simp [maxLen], show 1 ≤ maxLen by simp [maxLen], ba6.cell 2, ba6.cell 3, show 1 ≤ maxLen by simp [maxLen], show 0 ≤ maxLen by simp [maxLen], trivial⟩⟩ (rdK_nil _)
    exact Nd.rd_shut (t := gR) (by simp [gR, Nd.id]) (by simp [gR, Nd.id]) (by simp [gR, Nd.label, maxLen, ByteArray.size]) (by simp [gR, Nd.text, maxLen, ByteArray.size]) (rdA_nil _)
      ⟨_, qc, rfl, h2, h3, fun _ => ⟨q, 0, rfl, rd_of_rowK ⟨_, _, _, _, _, _, _, rfl, hrA, ⟨_, _, _, _, _, _, _, rfl, rB, ⟨_, _, _, _, _, _, _, rfl, hrD, ⟨_, _, _, _, _, _, _, rfl, rG, ⟨_, _, _, _, _, _, _, rfl, rH, rfl⟩⟩⟩⟩⟩ h5⟩⟩
  have HE6 := Lib.hid hEw
  have HD := Lib.hid hrd
  have HBG := Lib.hid bg6
  clear hRow hown6 ba6 FX FY hrA hrD hEw hBz F6 F5 hown5 ba5 hg5 hat5 FZ E4 bn hb4 bg4 ba4 hown4 hrd4 hone4 hb3' bg3 ba3 F3 E2 ba hs2 bg2 hb2 hb bg hg
  obtain ⟨g0, g1, g2, g3, g4, g5⟩ := bg6.c6
  clear bg6
  go_wp2_with fail
  refine (paths_any gR.cnt gR _ w6 (Nat.le_refl _) hrd (by rw [gR_cnt]; omega)).mono ?_
  clear hrd g0 g1 g2 g3 g4 g5
  rintro e w7 ⟨r, rfl, ⟨xs, hown, hok⟩, hE7⟩
  rw [gR_cnt] at hown
  obtain ⟨pg, pc, rfl, hp1, hp2⟩ := World.ownsRow.form hown (by omega)
  obtain ⟨a0, ha0⟩ : ∃ W, w7.alloc (.cells #[.int .i64 9] 3) = W := ⟨_, rfl⟩
  have hs0 : a0.heap.size = w7.heap.size + 1 := by rw [← ha0, World.size_alloc]
  have e0 : Ext w7 a0 := by rw [← ha0]; exact (Ext.refl _).alloc _
  have l0 : okP 0 (· ∈ gPaths) a0 (some pg) (.slice (some ⟨w7.heap.size, 0, none⟩) 1 1) := by rw [← ha0]; exact okP.lit 0 w7 3 _ [9] (by decide) (by simp) _ rfl (some pg) (Nat.zero_le _) (fun k hk => by cases hk; omega)
  obtain ⟨a1, ha1⟩ : ∃ W, a0.alloc (.cells #[.int .i64 (-1)] 3) = W := ⟨_, rfl⟩
  have hs1 : a1.heap.size = w7.heap.size + 1 + 1 := by rw [← ha1, World.size_alloc, hs0]
  have e1 : Ext a0 a1 := by rw [← ha1]; exact (Ext.refl _).alloc _
  have l1 : okP 0 (· ∈ gPaths) a1 (some pg) (.slice (some ⟨w7.heap.size + 1, 0, none⟩) 1 1) := by rw [← ha1, ← hs0]; exact okP.lit 0 a0 3 _ [(-1)] (by decide) (by simp) _ rfl (some pg) (Nat.zero_le _) (fun k hk => by cases hk; omega)
  replace l0 := l0.ext e1
  obtain ⟨a2, ha2⟩ : ∃ W, a1.alloc (.cells #[.int .i64 0, .int .i64 7] 3) = W := ⟨_, rfl⟩
  have hs2 : a2.heap.size = w7.heap.size + 1 + 1 + 1 := by rw [← ha2, World.size_alloc, hs1]
  have e2 : Ext a1 a2 := by rw [← ha2]; exact (Ext.refl _).alloc _
  have l2 : okP 0 (· ∈ gPaths) a2 (some pg) (.slice (some ⟨w7.heap.size + 1 + 1, 0, none⟩) 2 2) := by rw [← ha2, ← hs1]; exact okP.lit 0 a1 3 _ [0, 7] (by decide) (by simp) _ rfl (some pg) (Nat.zero_le _) (fun k hk => by cases hk; omega)
  replace l0 := l0.ext e2
  replace l1 := l1.ext e2
  obtain ⟨a3, ha3⟩ : ∃ W, a2.alloc (.cells #[.int .i64 1, .int .i64 0] 3) = W := ⟨_, rfl⟩
  have hs3 : a3.heap.size = w7.heap.size + 1 + 1 + 1 + 1 := by rw [← ha3, World.size_alloc, hs2]
  have e3 : Ext a2 a3 := by rw [← ha3]; exact (Ext.refl _).alloc _
  have l3 : okP 0 (· ∈ gPaths) a3 (some pg) (.slice (some ⟨w7.heap.size + 1 + 1 + 1, 0, none⟩) 2 2) := by rw [← ha3, ← hs2]; exact okP.lit 0 a2 3 _ [1, 0] (by decide) (by simp) _ rfl (some pg) (Nat.zero_le _) (fun k hk => by cases hk; omega)
  replace l0 := l0.ext e3
  replace l1 := l1.ext e3
  replace l2 := l2.ext e3
  obtain ⟨a4, ha4⟩ : ∃ W, a3.alloc (.cells #[.slice (some ⟨w7.heap.size, 0, none⟩) 1 1, .slice (some ⟨w7.heap.size + 1, 0, none⟩) 1 1, .slice (some ⟨w7.heap.size + 1 + 1, 0, none⟩) 2 2, .slice (some ⟨w7.heap.size + 1 + 1 + 1, 0, none⟩) 2 2] 27) = W := ⟨_, rfl⟩
  have e4 : Ext a3 a4 := by rw [← ha4]; exact (Ext.refl _).alloc _
  have hE5 : Ext w7 a4 := ((((e0.trans e1).trans e2).trans e3).trans e4)
  replace l0 := l0.ext e4
  replace l1 := l1.ext e4
  replace l2 := l2.ext e4
  replace l3 := l3.ext e4
  have bz : NBox a4 (w7.heap.size + 1 + 1 + 1 + 1) 27 #[.slice (some ⟨w7.heap.size, 0, none⟩) 1 1, .slice (some ⟨w7.heap.size + 1, 0, none⟩) 1 1, .slice (some ⟨w7.heap.size + 1 + 1, 0, none⟩) 2 2, .slice (some ⟨w7.heap.size + 1 + 1 + 1, 0, none⟩) 2 2] := by rw [← ha4, ← hs3]; exact NBox.new _ _ _
  have hR5 : RdS a4 1 4 [.slice (some ⟨w7.heap.size, 0, none⟩) 1 1, .slice (some ⟨w7.heap.size + 1, 0, none⟩) 1 1, .slice (some ⟨w7.heap.size + 1 + 1, 0, none⟩) 2 2, .slice (some ⟨w7.heap.size + 1 + 1 + 1, 0, none⟩) 2 2] (.slice (some ⟨w7.heap.size + 1 + 1 + 1 + 1, 0, none⟩) 4 4) := RdS.of_owns (base := 0) (e := 27) ⟨rfl, .inr ⟨_, 4, _, rfl, Nat.zero_le _, bz, Nat.le_refl _, by simp [maxLen], rfl, rfl⟩⟩
  have hone5 : ∀ u ∈ ([.slice (some ⟨w7.heap.size, 0, none⟩) 1 1, .slice (some ⟨w7.heap.size + 1, 0, none⟩) 1 1, .slice (some ⟨w7.heap.size + 1 + 1, 0, none⟩) 2 2, .slice (some ⟨w7.heap.size + 1 + 1 + 1, 0, none⟩) 2 2] : List Value), u.oneCell' = true := by
    intro u hu
    simp only [List.mem_cons, List.not_mem_nil, or_false] at hu
    rcases hu with rfl | rfl | rfl | rfl <;> rfl
  have H5 : Hid (((((w7.alloc (.cells #[.int .i64 9] 3)).alloc (.cells #[.int .i64 (-1)] 3)).alloc (.cells #[.int .i64 0, .int .i64 7] 3)).alloc (.cells #[.int .i64 1, .int .i64 0] 3)).alloc (.cells #[.slice (some ⟨w7.heap.size, 0, none⟩) 1 1, .slice (some ⟨w7.heap.size + 1, 0, none⟩) 1 1, .slice (some ⟨w7.heap.size + 1 + 1, 0, none⟩) 2 2, .slice (some ⟨w7.heap.size + 1 + 1 + 1, 0, none⟩) 2 2] 27) = a4) := by rw [ha0, ha1, ha2, ha3, ha4]; trivial
  clear ha0 e0 ha1 e1 ha2 e2 ha3 e3 ha4 e4 hs0 hs1 hs2 hs3 bz
  go_upto_region 6 with (first
    | (rw [H5.out]; clear H5)
    | (at_builtin
       refine wpList_append_rd rfl rfl TP46 (v := _) (by rfl) (owns_ext hE5 hown) (by rfl) hR5 hone5 (by omega) (by simp only [maxLen]; omega) (hE7.trans hE5).size ?_
       intro v2 w8 hown2 hg2 hat2
       replace hown2 : w8.ownsRow w6.heap.size 27 1 v2 14 _ := hown2
       obtain ⟨qg, qcap, rfl, hq1, hq2⟩ := World.ownsRow.form hown2 (by omega)))
  have HQ : Hid (∀ u ∈ xs ++ [.slice (some ⟨w7.heap.size, 0, none⟩) 1 1, .slice (some ⟨w7.heap.size + 1, 0, none⟩) 1 1, .slice (some ⟨w7.heap.size + 1 + 1, 0, none⟩) 2 2, .slice (some ⟨w7.heap.size + 1 + 1 + 1, 0, none⟩) 2 2], ∃ p : List Int, p ∈ gPaths ∧ RdI w8 p u) := by
    intro u hu
    have hk : okP 0 (· ∈ gPaths) a4 (some pg) u := by
      rcases List.mem_append.1 hu with hu | hu
      · exact ((hok u hu).ext hE5).weaken (Nat.zero_le _) gR_pths
      · simp only [List.mem_cons, List.not_mem_nil, or_false] at hu
        rcases hu with rfl | rfl | rfl | rfl
        · exact l0
        · exact l1
        · exact l2
        · exact l3
    obtain ⟨p, hp, h2, _⟩ := hk.grown hg2 hat2
    exact ⟨p, hp, h2.1⟩
  have hE8 : Ext w6 w8 := Ext.grown (hE7.trans hE5) hg2 (fun k hk => by cases hk; exact hp1)
  obtain ⟨qs, hqs⟩ : ∃ l, xs ++ [.slice (some ⟨w7.heap.size, 0, none⟩) 1 1, .slice (some ⟨w7.heap.size + 1, 0, none⟩) 1 1, .slice (some ⟨w7.heap.size + 1 + 1, 0, none⟩) 2 2, .slice (some ⟨w7.heap.size + 1 + 1 + 1, 0, none⟩) 2 2] = l := ⟨_, rfl⟩
  rw [hqs] at HQ hown2
  have HR := Lib.hid (RdS.of_owns hown2)
  have HE8 := Lib.hid (HE6.out.trans hE8)
  have HD8 := Lib.hid (Nd.rd_ext hE8 HD.out)
  have HB8 := Lib.hid (HBG.out.ext hE8)
  clear hqs hok hown l0 l1 l2 l3 hE5 hE7 hE8 hg2 hat2 hp1 hp2 hq1 hq2 hown2 hR5 hone5 HE6 HD HBG
  go_wp2_with fail
  go_loopw [3] (fun s3 wr => ∃ i : Nat, s3 = .int .i64 i ∧ i ≤ 14 ∧ Ext w8 wr) (fun i _ => 14 - (intOf i).toNat)
  case atStart => exact ⟨0, rfl, by omega, Ext.refl _⟩
  case round =>
    obtain ⟨i, rfl, hi, hE⟩ := hrel
    rcases Nat.lt_or_ge i 14 with hlt | hlt
    · obtain ⟨u, hu⟩ : ∃ u, qs[i]? = some u := ⟨_, List.getElem?_eq_getElem (by have := HR.out; obtain ⟨_, _, _, h, _⟩ := this; omega)⟩
      obtain ⟨p, hpm, hp⟩ := HQ.out u (List.mem_of_getElem? hu)
      obtain ⟨pA, pcap, rfl, -⟩ := id hp
      have cu : wr.cell? ⟨qg, i, none⟩ = some (.slice pA p.length pcap) := by
        obtain ⟨_, _, he, _, _, _, h5⟩ := HR.out
        obtain ⟨b', o', h6, h7⟩ := h5 (by omega)
        simp only [Value.slice.injEq, true_and] at he
        obtain ⟨rfl, rfl⟩ := he
        simp only [Option.some.injEq, Addr.mk.injEq, and_true] at h6
        obtain ⟨rfl, rfl⟩ := h6
        have := h7 i _ hu
        rw [Nat.zero_add] at this
        exact hE.cell this
      have HP := Lib.hid (RdS.ext hE hp)
      have HPM := Lib.hid hpm
      have HDr := Lib.hid (Nd.rd_ext hE HD8.out)
      have HBr := Lib.hid (HB8.out.ext hE)
      have HE := Lib.hid hE
      have q1 : (0 : Int) ≤ (i : Int) := by omega
      have q2 : (i : Int) < 14 := by omega
      clear hu hE hp hpm
      obtain ⟨g0, g1, g2, g3, g4, g5⟩ := HBr.out.c6
      have hc := lawMoves gR p (.agg #[.int .u64 1, .bool false, .string ⟨#[114]⟩, .slice none 0 0, .string ⟨#[]⟩, .slice (some ⟨q, 0, none⟩) 5 qc]) (.slice pA p.length pcap) wr.drew (Nd.rd_ext (Ext.refl wr).drew HDr.out) (RdS.ext (Ext.refl wr).drew HP.out)
      go_upto_region 9 with fail
      go_still_tail 5, (by kernel_rfl)
      change wpList _ _ _ _ _ wr.drew
      go_wp2_with fail
      refine hc.mono ?_
      clear hc g0 g1 g2 g3 g4 g5
      rintro e w9 ⟨r, rfl, rfl, hE9⟩
      have X9 : Ext wr w9 := (Ext.refl wr).drew.trans hE9
      replace cu := X9.cell cu
      have HP' := Lib.hid (RdS.ext X9 HP.out)
      have HDr' := Lib.hid (Nd.rd_ext X9 HDr.out)
      have HBr' := Lib.hid (HBr.out.ext X9)
      have HE' := Lib.hid (HE.out.trans X9)
      clear HP HDr HBr HE X9 hE9
      have HCU := Lib.hid cu
      clear cu
      go_wp2_with fail
      go_loopw [4] (fun s4 wq => ∃ k : Int, s4 = .int .i64 k ∧ -1 ≤ k ∧ k ≤ 5 ∧ Ext w9 wq) (fun k _ => (5 - intOf k).toNat)
      case atStart => exact ⟨-1, rfl, by omega, by omega, Ext.refl _⟩
      case round =>
        obtain ⟨k, rfl, hk0, hk1, hE⟩ := hrel
        rcases Int.lt_or_le k 5 with hkl | hkl
        · have ck := hE.cell HCU.out
          have hb := HBr'.out.ext hE
          have K4 : ∀ W, Ext wr W → Calls Try.prog 4 #[.agg #[.int .u64 1, .bool false, .string ⟨#[114]⟩, .slice none 0 0, .string ⟨#[]⟩, .slice (some ⟨q, 0, none⟩) 5 qc], .slice pA p.length pcap, .int .i64 k, .int .u64 30] W (Ret W fun r _ => r = .bool true) := fun W h => lawText gR p k 30 (by omega) _ _ W (Nd.rd_ext (hE.trans h) HDr'.out) (RdS.ext (hE.trans h) HP'.out)
          have K25 : ∀ W, Ext wr W → Calls Try.prog 25 #[.agg #[.int .u64 1, .bool false, .string ⟨#[114]⟩, .slice none 0 0, .string ⟨#[]⟩, .slice (some ⟨q, 0, none⟩) 5 qc], .slice pA p.length pcap, .int .i64 k, .int .u64 30] W (Ret W fun r _ => r = .bool true) := fun W h => back25_any gR p k 30 _ _ W (Nd.rd_ext (hE.trans h) HDr'.out) (RdS.ext (hE.trans h) HP'.out) (by omega) gR_wt (gP_fit p HPM.out).1 (gP_fit p HPM.out).2 (gP_T HPM.out hk0 (by omega)) (gP_M HPM.out)
          go_upto_region 14 with fail
          go_region_held3 (fun W => Ext wr W ∧ W.cell? ⟨qg, i, none⟩ = some (.slice pA p.length pcap) ∧ W.cell? ⟨B, 0, none⟩ = some (.int .u64 1) ∧ W.cell? ⟨B, 1, none⟩ = some (.bool false) ∧ W.cell? ⟨B, 2, none⟩ = some (.string ⟨#[114]⟩) ∧ W.cell? ⟨B, 3, none⟩ = some (.slice none 0 0) ∧ W.cell? ⟨B, 4, none⟩ = some (.string ⟨#[]⟩) ∧ W.cell? ⟨B, 5, none⟩ = some (.slice (some ⟨q, 0, none⟩) 5 qc)) (first | exact ⟨(Ext.refl wr).drew, ck, hb.cell 0, hb.cell 1, hb.cell 2, hb.cell 3, hb.cell 4, hb.cell 5⟩ | exact ⟨EE, EE.cell ck, EE.cell (hb.cell 0), EE.cell (hb.cell 1), EE.cell (hb.cell 2), EE.cell (hb.cell 3), EE.cell (hb.cell 4), EE.cell (hb.cell 5)⟩) ((first | (go_at_call 4; have hh := ‹Ext wr _ ∧ _›; refine (K4 _ hh.1).mono ?_; rintro e u ⟨_, rfl, rfl, hEY⟩; have EE := Ext.trans hh.1 hEY) | (go_at_call 25; have hh := ‹Ext wr _ ∧ _›; refine (K25 _ hh.1).mono ?_; rintro e u ⟨_, rfl, rfl, hEY⟩; have EE := Ext.trans hh.1 hEY)))
          go_wp2_with fail
          go_roundw
          case rel => exact ⟨k + 1, by go_num, by omega, by omega, hE.trans EE⟩
          case measure => simp [intOf]; omega
        · obtain rfl : k = 5 := by omega
          go_wp2_with fail
          go_roundw
          case rel => exact ⟨i + 1, by go_num, by omega, HE'.out.trans hE⟩
          case measure => simp [intOf]; omega
    · obtain rfl : i = 14 := by omega
      have HE9 := Lib.hid (HE8.out.trans hE)
      clear HR HQ HE8 HD8 HB8 hE
      obtain ⟨z0, hz0⟩ : ∃ W, wr.alloc (.cells #[.int .u64 0, .bool true, .string ⟨#[]⟩, .slice none 0 0, .string ⟨#[]⟩, .slice none 0 0] 26) = W := ⟨_, rfl⟩
      have HZ := Lib.hid (show Ext wr z0 from by rw [← hz0]; exact (Ext.refl _).alloc _)
      have hb := NBox.new wr 26 #[.int .u64 0, .bool true, .string ⟨#[]⟩, .slice none 0 0, .string ⟨#[]⟩, .slice none 0 0]
      rw [hz0] at hb
      obtain ⟨C, hC⟩ : ∃ n, wr.heap.size = n := ⟨_, rfl⟩
      rw [hC] at hb
      have HCC := Lib.hid hC
      have HW0 := Lib.hid hz0
      clear hC hz0
      have hbad : ∀ W, gBad.rd W (.agg #[.int .u64 0, .bool true, .string ⟨#[]⟩, .slice none 0 0, .string ⟨#[]⟩, .slice none 0 0]) := fun W => leaf_rd W 0 true ⟨#[]⟩ ⟨#[]⟩ (by omega) (by omega) (Nat.zero_le _) (Nat.zero_le _)
      have HBad := Lib.hid hbad
      clear hbad
      go_upto_region 17 with fail
      rw [HW0.out, HCC.out]
      clear HW0
      clear HCC hi hlt
      obtain ⟨c0, c1, c2, c3, c4, c5⟩ := hb.c6
      have hc := lawMoves gBad [] (.agg #[.int .u64 0, .bool true, .string ⟨#[]⟩, .slice none 0 0, .string ⟨#[]⟩, .slice none 0 0]) (.slice none 0 0) z0 (HBad.out _) (RdS.nil_ _ _)
      go_wp2_with fail
      refine hc.mono ?_
      clear hc c0 c1 c2 c3 c4 c5
      rintro e z1 ⟨r, rfl, rfl, hE1⟩
      have X1 : Ext z0 z1 := hE1
      have hb2 := hb.ext X1
      have HZ' := Lib.hid (HZ.out.trans X1)
      clear hb HZ hE1 X1
      have hb := hb2
      have HZ := HZ'
      clear hb2 HZ'
      obtain ⟨c0, c1, c2, c3, c4, c5⟩ := hb.c6
      have hc := lawMoves gBad [0] (.agg #[.int .u64 0, .bool true, .string ⟨#[]⟩, .slice none 0 0, .string ⟨#[]⟩, .slice none 0 0]) (.slice (some ⟨z1.heap.size, 0, none⟩) 1 1) (z1.alloc (.cells #[.int .i64 0] 3)) (HBad.out _) (RdS.lits z1 3 [0] (by simp) _ rfl)
      go_wp2_with fail
      refine hc.mono ?_
      clear hc c0 c1 c2 c3 c4 c5
      rintro e z2 ⟨r, rfl, rfl, hE1⟩
      have X1 : Ext z1 z2 := ((Ext.refl z1).alloc _).trans hE1
      have hb2 := hb.ext X1
      have HZ' := Lib.hid (HZ.out.trans X1)
      clear hb HZ hE1 X1
      have hb := hb2
      have HZ := HZ'
      clear hb2 HZ'
      obtain ⟨c0, c1, c2, c3, c4, c5⟩ := hb.c6
      have hc := lawText gBad [] 0 0 (by omega) (.agg #[.int .u64 0, .bool true, .string ⟨#[]⟩, .slice none 0 0, .string ⟨#[]⟩, .slice none 0 0]) (.slice none 0 0) z2 (HBad.out _) (RdS.nil_ _ _)
      go_wp2_with fail
      refine hc.mono ?_
      clear hc c0 c1 c2 c3 c4 c5
      rintro e z3 ⟨r, rfl, rfl, hE1⟩
      have X1 : Ext z2 z3 := hE1
      have hb2 := hb.ext X1
      have HZ' := Lib.hid (HZ.out.trans X1)
      clear hb HZ hE1 X1
      have hb := hb2
      have HZ := HZ'
      clear hb2 HZ'
      obtain ⟨c0, c1, c2, c3, c4, c5⟩ := hb.c6
      have hc := back25_any gBad [0] 0 0 (.agg #[.int .u64 0, .bool true, .string ⟨#[]⟩, .slice none 0 0, .string ⟨#[]⟩, .slice none 0 0]) (.slice (some ⟨z3.heap.size, 0, none⟩) 1 1) (z3.alloc (.cells #[.int .i64 0] 3)) (HBad.out _) (RdS.lits z3 3 [0] (by simp) _ rfl) (by omega) gBad_wt (by decide) (by decide) bad_T bad_M
      go_wp2_with fail
      refine hc.mono ?_
      clear hc c0 c1 c2 c3 c4 c5
      rintro e z4 ⟨r, rfl, rfl, hE1⟩
      have X1 : Ext z3 z4 := ((Ext.refl z3).alloc _).trans hE1
      have hb2 := hb.ext X1
      have HZ' := Lib.hid (HZ.out.trans X1)
      clear hb HZ hE1 X1
      have hb := hb2
      have HZ := HZ'
      clear hb2 HZ'
      go_wp2_with fail
      refine (works_any z4).mono ?_
      rintro e z5 ⟨r, rfl, rfl, hE1⟩
      go_wp2_with fail
      go_ret
      exact ⟨_, rfl, rfl, HE9.out.trans (HZ.out.trans hE1)⟩
end Go.Proofs.Ytofcbclokkjfjaa.Wi
