/- Chapter 24: where a node is: at (47); the document's spot (31). (Printed by gouspot.py.) -/
import Derived.Test.YtofcbclokkjfjaaOuNodes
import Derived.Test.YtofcbclokkjfjaaOuRightIn
import Derived.Test.YtofcbclokkjfjaaOuRAt
import Derived.WalkKit
import Derived.Deep.Cut
import Derived.Deep.CutRange
import Derived.Deep.RegionHeld3
import Derived.BigQuiet
import Derived.IntWalk
namespace Go.Proofs.Ytofcbclokkjfjaa.Wi
open Go.RowKit Go.Proofs.Ytofcbclokkjfjaa.Bw Go.Proofs.Ytofcbclokkjfjaa.Bs

/-- Where a node is. -/
structure SpD where
 x : Nd
 p : List Int
 up : List Int
 i : Int
 par : Nd
def spotP (t : Nd) (p : List Int) : Except Int SpD := if t.right = false then .error 2 else if p = [] then .error 82 else match t.at? p with
 | none => .error 81
 | some x => .ok ⟨x, p, p.dropLast, lastN p, (t.at? p.dropLast).getD Nd.zero⟩
theorem at_snoc : ∀ (q : List Int) (t x : Nd) (i : Int), t.at? (q ++ [i]) = some x → ∃ y, t.at? q = some y ∧ 0 ≤ i ∧ i < y.kids.length ∧ y.kids[i.toNat]? = some x
 | [], t, x, i, h => by
  rw [List.nil_append] at h
  by_cases hi : i < 0 ∨ (t.kids.length : Int) ≤ i
  ·rw [at_none hi] at h; cases h
  ·have hlt : i.toNat < t.kids.length := by omega
   rw [at_some (by omega) (List.getElem?_eq_getElem hlt), at_nil] at h
   exact ⟨t, at_nil, by omega, by omega, by rw [List.getElem?_eq_getElem hlt]; exact h⟩
 | j :: q, t, x, i, h => by
  by_cases hj : j < 0 ∨ (t.kids.length : Int) ≤ j
  ·rw [List.cons_append, at_none hj] at h; cases h
  ·have hlt : j.toNat < t.kids.length := by omega
   rw [List.cons_append, at_some (by omega) (List.getElem?_eq_getElem hlt)] at h
   obtain ⟨y, h1, h2⟩ := at_snoc q _ x i h
   exact ⟨y, by rw [at_some (by omega) (List.getElem?_eq_getElem hlt)]; exact h1, h2⟩
theorem snoc_last {p : List Int} (h : p ≠ []) : p.dropLast ++ [lastN p] = p := by
 unfold lastN
 rw [List.getLastD_eq_getLast?, List.getLast?_eq_some_getLast h]
 exact List.dropLast_concat_getLast h
/-- A spot's number is one of its parent's children. -/
theorem spot_in {t : Nd} {p : List Int} {s : SpD} (h : spotP t p = .ok s) : 0 ≤ s.i ∧ s.i < s.par.kids.length ∧ s.p = p ∧ s.par.kids[s.i.toNat]? = some s.x := by
 unfold spotP at h
 split at h
 ·cases h
 ·split at h
  ·cases h
  next hne =>
   rcases ha : t.at? p with _ | x
   ·rw [ha] at h; cases h
   ·rw [ha] at h
    cases h
    have h2 := ha
    rw [← snoc_last hne] at h2
    obtain ⟨y, h3, h4, h5, h6⟩ := at_snoc _ _ _ _ h2
    have h7 : (t.at? p.dropLast).getD Nd.zero = y := by rw [h3]; rfl
    show 0 ≤ lastN p ∧ lastN p < ((t.at? p.dropLast).getD Nd.zero).kids.length ∧ p = p ∧ ((t.at? p.dropLast).getD Nd.zero).kids[(lastN p).toNat]? = some x
    rw [h7]
    exact ⟨h4, h5, rfl, h6⟩
/-- A value that reads as a spot. -/
def SpV (w W : World) (s : SpD) (v : Value) : Prop := ∃ xA xc xK xd pA pc uA uc yA yc yK yd, v = .agg #[.int .u64 s.x.id, .bool s.x.leaf, .string s.x.label, .slice xA s.x.attrs.length xc, .string s.x.text, .slice xK s.x.kids.length xd, .slice pA s.p.length pc, .slice uA s.up.length uc, .int .i64 s.i, .int .u64 s.par.id, .bool s.par.leaf, .string s.par.label, .slice yA s.par.attrs.length yc, .string s.par.text, .slice yK s.par.kids.length yd] ∧ s.x.rd w (.agg #[.int .u64 s.x.id, .bool s.x.leaf, .string s.x.label, .slice xA s.x.attrs.length xc, .string s.x.text, .slice xK s.x.kids.length xd]) ∧ s.par.rd w (.agg #[.int .u64 s.par.id, .bool s.par.leaf, .string s.par.label, .slice yA s.par.attrs.length yc, .string s.par.text, .slice yK s.par.kids.length yd]) ∧
 W.ownsRow w.heap.size 3 1 (.slice pA s.p.length pc) s.p.length (s.p.map (Value.int .i64)) ∧ W.ownsRow w.heap.size 3 1 (.slice uA s.up.length uc) s.up.length (s.up.map (Value.int .i64))
/-- A value that reads as the document's spot. -/
def SpR (w W : World) (s : SpD) (v : Value) : Prop := ∃ xA xc xK xd uA uc yA yc yK yd, v = .agg #[.int .u64 s.x.id, .bool s.x.leaf, .string s.x.label, .slice xA s.x.attrs.length xc, .string s.x.text, .slice xK s.x.kids.length xd, .slice uA s.up.length uc, .int .i64 s.i, .int .u64 s.par.id, .bool s.par.leaf, .string s.par.label, .slice yA s.par.attrs.length yc, .string s.par.text, .slice yK s.par.kids.length yd] ∧ s.x.rd w (.agg #[.int .u64 s.x.id, .bool s.x.leaf, .string s.x.label, .slice xA s.x.attrs.length xc, .string s.x.text, .slice xK s.x.kids.length xd]) ∧ s.par.rd w (.agg #[.int .u64 s.par.id, .bool s.par.leaf, .string s.par.label, .slice yA s.par.attrs.length yc, .string s.par.text, .slice yK s.par.kids.length yd]) ∧
 W.ownsRow w.heap.size 3 1 (.slice uA s.up.length uc) s.up.length (s.up.map (Value.int .i64))
theorem rd_open6 {W : World} {t : Nd} {v : Value} (h : t.rd W v) : ∃ tA tc tK td, v = .agg #[.int .u64 t.id, .bool t.leaf, .string t.label, .slice tA t.attrs.length tc, .string t.text, .slice tK t.kids.length td] := by
 obtain ⟨av, kv, rfl, -, -, -, -, ⟨aA, ac, rfl, -⟩, ⟨kA, kc, rfl, -⟩⟩ := Nd.rd_open h
 exact ⟨aA, ac, kA, kc, rfl⟩
theorem info52 : (Try.prog.info? 52).map (·.size) = some 15 := by kernel_rfl
theorem info58 : (Try.prog.info? 58).map (·.size) = some 14 := by kernel_rfl
theorem results_st {P : Program} {fn : Func} {p : Tmp} {ty : TypeId} (h : fn.results = #[.cell p ty]) (tmps : Array Value) {w : World} {g : Nat} {cs : Array Value} {d : TypeDesc}
  (hp : tmps.getD p undef = .pointer (some ⟨g, 0, none⟩)) (hg : NBox w g ty cs) (hu : P.underlying ty = some d) (hd : (match d with | .struct _ | .array _ _ => true | _ => false) = true) (hi : (P.info? ty).map (·.size) = some cs.size) :
  (results fn tmps).run P w = .ok (.agg cs) w := results_cell_row h tmps w g ty cs (0, 0) d hp hg hu hd hi
theorem results_nd {P : Program} {fn : Func} {p u : Tmp} {ty : TypeId} (h : fn.results = #[.cell p ty, .tmp u]) {tmps : Array Value} {w : World} {g : Nat} {cs : Array Value} {d : TypeDesc} {b : Value}
  (hp : tmps.getD p undef = .pointer (some ⟨g, 0, none⟩)) (hu' : tmps.getD u undef = b) (hg : NBox w g ty cs)
  (hu : P.underlying ty = some d) (hd : (match d with | .struct _ | .array _ _ => true | _ => false) = true) (hi : (P.info? ty).map (·.size) = some cs.size) :
  (results fn tmps).run P w = .ok (.tuple #[.agg cs, b]) w := by
 rw [results_cell_tmp h, hp, hu']
 simp [asAddr, run_loadVar_row w g ty ty cs (0, 0) d hg hu hd hi, Result.andThen]
theorem RdS.len_le' {w : World} {n : Nat} {xs : List Value} {v : Value} (h : RdS w 1 n xs v) : n ≤ 9223372036854775807 := by
 obtain ⟨A, c, _, _, h1, h2, _⟩ := h
 unfold maxLen at h2
 omega
theorem owns_lo {W : World} {a b e n : Nat} {v : Value} {xs : List Value} (h : W.ownsRow a e 1 v n xs) (hab : b ≤ a) : W.ownsRow b e 1 v n xs := by
 refine ⟨h.1, h.2.imp id ?_⟩
 rintro ⟨g, cap, cur, h1, h2, h3⟩
 exact ⟨g, cap, cur, h1, Nat.le_trans hab h2, h3⟩
theorem NBox.six {W : World} {B : Nat} {t : TypeId} {x0 x1 x2 x3 x4 x5 : Value} (h : NBox W B t #[x0, x1, x2, x3, x4, x5]) (a0 a1 a2 a3 a4 a5 : Value) : NBox (World.setCell (World.setCell (World.setCell (World.setCell (World.setCell (World.setCell W ⟨B, 0, none⟩ a0) ⟨B, 1, none⟩ a1) ⟨B, 2, none⟩ a2) ⟨B, 3, none⟩ a3) ⟨B, 4, none⟩ a4) ⟨B, 5, none⟩ a5) B t #[a0, a1, a2, a3, a4, a5] := by
 have := (NBox.set (NBox.set (NBox.set (NBox.set (NBox.set (NBox.set h 0 a0) 1 a1) 2 a2) 3 a3) 4 a4) 5 a5)
 simpa using this
theorem Fr.six (W : World) (B : Nat) (a0 a1 a2 a3 a4 a5 : Value) : Fr W (World.setCell (World.setCell (World.setCell (World.setCell (World.setCell (World.setCell W ⟨B, 0, none⟩ a0) ⟨B, 1, none⟩ a1) ⟨B, 2, none⟩ a2) ⟨B, 3, none⟩ a3) ⟨B, 4, none⟩ a4) ⟨B, 5, none⟩ a5) (fun k => k = B) :=
 (Fr.trans (Fr.trans (Fr.trans (Fr.trans (Fr.trans (Fr.setCell _ _ _ _) (Fr.setCell _ _ _ _)) (Fr.setCell _ _ _ _)) (Fr.setCell _ _ _ _)) (Fr.setCell _ _ _ _)) (Fr.setCell _ _ _ _))
theorem NBox.s15 {W : World} {B : Nat} {t : TypeId} {x0 x1 x2 x3 x4 x5 x6 x7 x8 x9 x10 x11 x12 x13 x14 : Value} (h : NBox W B t #[x0, x1, x2, x3, x4, x5, x6, x7, x8, x9, x10, x11, x12, x13, x14]) (a0 a1 a2 a3 a4 a5 a6 a7 a8 a9 a10 a11 a12 a13 a14 : Value) : NBox (World.setCell (World.setCell (World.setCell (World.setCell (World.setCell (World.setCell (World.setCell (World.setCell (World.setCell (World.setCell (World.setCell (World.setCell (World.setCell (World.setCell (World.setCell W ⟨B, 0, none⟩ a0) ⟨B, 1, none⟩ a1) ⟨B, 2, none⟩ a2) ⟨B, 3, none⟩ a3) ⟨B, 4, none⟩ a4) ⟨B, 5, none⟩ a5) ⟨B, 6, none⟩ a6) ⟨B, 7, none⟩ a7) ⟨B, 8, none⟩ a8) ⟨B, 9, none⟩ a9) ⟨B, 10, none⟩ a10) ⟨B, 11, none⟩ a11) ⟨B, 12, none⟩ a12) ⟨B, 13, none⟩ a13) ⟨B, 14, none⟩ a14) B t #[a0, a1, a2, a3, a4, a5, a6, a7, a8, a9, a10, a11, a12, a13, a14] := by
 have := (NBox.set (NBox.set (NBox.set (NBox.set (NBox.set (NBox.set (NBox.set (NBox.set (NBox.set (NBox.set (NBox.set (NBox.set (NBox.set (NBox.set (NBox.set h 0 a0) 1 a1) 2 a2) 3 a3) 4 a4) 5 a5) 6 a6) 7 a7) 8 a8) 9 a9) 10 a10) 11 a11) 12 a12) 13 a13) 14 a14)
 simpa using this
theorem Fr.s15 (W : World) (B : Nat) (a0 a1 a2 a3 a4 a5 a6 a7 a8 a9 a10 a11 a12 a13 a14 : Value) : Fr W (World.setCell (World.setCell (World.setCell (World.setCell (World.setCell (World.setCell (World.setCell (World.setCell (World.setCell (World.setCell (World.setCell (World.setCell (World.setCell (World.setCell (World.setCell W ⟨B, 0, none⟩ a0) ⟨B, 1, none⟩ a1) ⟨B, 2, none⟩ a2) ⟨B, 3, none⟩ a3) ⟨B, 4, none⟩ a4) ⟨B, 5, none⟩ a5) ⟨B, 6, none⟩ a6) ⟨B, 7, none⟩ a7) ⟨B, 8, none⟩ a8) ⟨B, 9, none⟩ a9) ⟨B, 10, none⟩ a10) ⟨B, 11, none⟩ a11) ⟨B, 12, none⟩ a12) ⟨B, 13, none⟩ a13) ⟨B, 14, none⟩ a14) (fun k => k = B) :=
 (Fr.trans (Fr.trans (Fr.trans (Fr.trans (Fr.trans (Fr.trans (Fr.trans (Fr.trans (Fr.trans (Fr.trans (Fr.trans (Fr.trans (Fr.trans (Fr.trans (Fr.setCell _ _ _ _) (Fr.setCell _ _ _ _)) (Fr.setCell _ _ _ _)) (Fr.setCell _ _ _ _)) (Fr.setCell _ _ _ _)) (Fr.setCell _ _ _ _)) (Fr.setCell _ _ _ _)) (Fr.setCell _ _ _ _)) (Fr.setCell _ _ _ _)) (Fr.setCell _ _ _ _)) (Fr.setCell _ _ _ _)) (Fr.setCell _ _ _ _)) (Fr.setCell _ _ _ _)) (Fr.setCell _ _ _ _)) (Fr.setCell _ _ _ _))
theorem NBox.s14 {W : World} {B : Nat} {t : TypeId} {x0 x1 x2 x3 x4 x5 x6 x7 x8 x9 x10 x11 x12 x13 : Value} (h : NBox W B t #[x0, x1, x2, x3, x4, x5, x6, x7, x8, x9, x10, x11, x12, x13]) (a0 a1 a2 a3 a4 a5 a6 a7 a8 a9 a10 a11 a12 a13 : Value) : NBox (World.setCell (World.setCell (World.setCell (World.setCell (World.setCell (World.setCell (World.setCell (World.setCell (World.setCell (World.setCell (World.setCell (World.setCell (World.setCell (World.setCell W ⟨B, 0, none⟩ a0) ⟨B, 1, none⟩ a1) ⟨B, 2, none⟩ a2) ⟨B, 3, none⟩ a3) ⟨B, 4, none⟩ a4) ⟨B, 5, none⟩ a5) ⟨B, 6, none⟩ a6) ⟨B, 7, none⟩ a7) ⟨B, 8, none⟩ a8) ⟨B, 9, none⟩ a9) ⟨B, 10, none⟩ a10) ⟨B, 11, none⟩ a11) ⟨B, 12, none⟩ a12) ⟨B, 13, none⟩ a13) B t #[a0, a1, a2, a3, a4, a5, a6, a7, a8, a9, a10, a11, a12, a13] := by
 have := (NBox.set (NBox.set (NBox.set (NBox.set (NBox.set (NBox.set (NBox.set (NBox.set (NBox.set (NBox.set (NBox.set (NBox.set (NBox.set (NBox.set h 0 a0) 1 a1) 2 a2) 3 a3) 4 a4) 5 a5) 6 a6) 7 a7) 8 a8) 9 a9) 10 a10) 11 a11) 12 a12) 13 a13)
 simpa using this
theorem Fr.s14 (W : World) (B : Nat) (a0 a1 a2 a3 a4 a5 a6 a7 a8 a9 a10 a11 a12 a13 : Value) : Fr W (World.setCell (World.setCell (World.setCell (World.setCell (World.setCell (World.setCell (World.setCell (World.setCell (World.setCell (World.setCell (World.setCell (World.setCell (World.setCell (World.setCell W ⟨B, 0, none⟩ a0) ⟨B, 1, none⟩ a1) ⟨B, 2, none⟩ a2) ⟨B, 3, none⟩ a3) ⟨B, 4, none⟩ a4) ⟨B, 5, none⟩ a5) ⟨B, 6, none⟩ a6) ⟨B, 7, none⟩ a7) ⟨B, 8, none⟩ a8) ⟨B, 9, none⟩ a9) ⟨B, 10, none⟩ a10) ⟨B, 11, none⟩ a11) ⟨B, 12, none⟩ a12) ⟨B, 13, none⟩ a13) (fun k => k = B) :=
 (Fr.trans (Fr.trans (Fr.trans (Fr.trans (Fr.trans (Fr.trans (Fr.trans (Fr.trans (Fr.trans (Fr.trans (Fr.trans (Fr.trans (Fr.trans (Fr.setCell _ _ _ _) (Fr.setCell _ _ _ _)) (Fr.setCell _ _ _ _)) (Fr.setCell _ _ _ _)) (Fr.setCell _ _ _ _)) (Fr.setCell _ _ _ _)) (Fr.setCell _ _ _ _)) (Fr.setCell _ _ _ _)) (Fr.setCell _ _ _ _)) (Fr.setCell _ _ _ _)) (Fr.setCell _ _ _ _)) (Fr.setCell _ _ _ _)) (Fr.setCell _ _ _ _)) (Fr.setCell _ _ _ _))
/-- What at tells. -/
def AtR (w : World) (o : Except Int SpD) (e : Ending) (W' : World) : Prop := Ext w W' ∧ match o with
 | .error k => e = .panicked (ER k)
 | .ok s => ∃ v, e = .returned v ∧ SpV w W' s v
set_option maxRecDepth 100000 in
set_option maxHeartbeats 8000000 in
theorem at47_any (t : Nd) (p : List Int) (tv pv : Value) (w : World) (ht : t.rd w tv) (hp : RdI w p pv) (hwt : t.wt ≤ 1000000) (hpl : p.length ≤ 100000) : Calls Try.prog 47 #[tv, pv] w (AtR w (spotP t p)) := by
 obtain ⟨tA, tc, tK, td, rfl⟩ := rd_open6 ht
 obtain ⟨w1, hw1⟩ : ∃ W, (w.alloc (.cells #[.int .u64 t.id, .bool t.leaf, .string t.label, .slice tA t.attrs.length tc, .string t.text, .slice tK t.kids.length td] 26)).alloc (.cells #[.int .u64 0, .bool false, .string ⟨#[]⟩, .slice none 0 0, .string ⟨#[]⟩, .slice none 0 0, .slice none 0 0, .slice none 0 0, .int .i64 0, .int .u64 0, .bool false, .string ⟨#[]⟩, .slice none 0 0, .string ⟨#[]⟩, .slice none 0 0] 52) = W := ⟨_, rfl⟩
 obtain ⟨T, hT⟩ : ∃ T, w.heap.size = T := ⟨_, rfl⟩
 have s1 : (w.alloc (.cells #[.int .u64 t.id, .bool t.leaf, .string t.label, .slice tA t.attrs.length tc, .string t.text, .slice tK t.kids.length td] 26)).heap.size = T + 1 := by rw [World.size_alloc, hT]
 have E1 : Ext w w1 := by rw [← hw1]; exact ((Ext.refl w).alloc _).alloc _
 have bT : NBox w1 T 26 #[.int .u64 t.id, .bool t.leaf, .string t.label, .slice tA t.attrs.length tc, .string t.text, .slice tK t.kids.length td] := by rw [← hw1, ← hT]; exact (NBox.new w 26 _).ext ((Ext.refl _).alloc _)
 obtain ⟨Y, hY⟩ : ∃ Y, T + 1 = Y := ⟨_, rfl⟩
 have bY : NBox w1 Y 52 #[.int .u64 0, .bool false, .string ⟨#[]⟩, .slice none 0 0, .string ⟨#[]⟩, .slice none 0 0, .slice none 0 0, .slice none 0 0, .int .i64 0, .int .u64 0, .bool false, .string ⟨#[]⟩, .slice none 0 0, .string ⟨#[]⟩, .slice none 0 0] := by rw [← hw1, ← hY, ← s1]; exact NBox.new _ _ _
 have HE := Lib.hid E1
 have HT := Lib.hid ht
 have HP := Lib.hid hp
 have HBT := Lib.hid bT
 have HBY := Lib.hid bY
 have HW1 := Lib.hid hw1
 have HTT := Lib.hid hT
 have HYY := Lib.hid hY
 have HwY := Lib.hid (show w.heap.size ≤ Y by omega)
 have HTL := Lib.hid (show T < Y by omega)
 have hc := right_any t _ w1 (Nd.rd_ext E1 ht) hwt
 obtain ⟨t0, t1, t2, t3, t4, t5⟩ := bT.c6
 obtain ⟨aA, ac, rfl, -⟩ := hp
 clear hw1 hT s1 E1 bT bY ht hY
 go_enter Try.func47, Try.ntmps47
 go_upto_region 1 with fail
 rw [HW1.out, HTT.out]
 try rw [HYY.out]
 clear HW1
 go_wp2_with fail
 refine hc.mono ?_
 clear hc t0 t1 t2 t3 t4 t5
 rintro e w2 ⟨r, rfl, rfl, hE⟩
 have HE' := Lib.hid (HE.out.trans hE)
 have HBT' := Lib.hid (HBT.out.ext hE)
 have HBY' := Lib.hid (HBY.out.ext hE)
 clear hE
 replace HE := HE'; replace HBT := HBT'; replace HBY := HBY'
 clear HE' HBT' HBY'
 cases hri : t.right with
 | false =>
  have HR : Hid (spotP t p = .error 2) := Lib.hid (by unfold spotP; rw [if_pos hri])
  have hn := need_no 2 w2
  clear hri
  go_wp2_with fail
  refine hn.mono ?_
  rintro e u ⟨rfl, rfl⟩
  go_wp2_with fail
  rw [HR.out]
  exact ⟨rfl, HE.out, rfl⟩
 | true =>
 have hn := need_yes 2 w2
 go_wp2_with fail
 refine hn.mono ?_
 clear hn
 rintro e u ⟨he, rfl⟩
 obtain rfl : e = .returned (.tuple #[]) := he
 have hc := parent_any p _ w2 (RdS.ext HE.out HP.out) (by omega)
 go_wp2_with fail
 refine hc.mono ?_
 clear hc
 rintro e w3 ⟨r, rfl, ⟨uv, rfl, hU⟩, hE⟩
 obtain ⟨up, hup⟩ : ∃ up, p.dropLast = up := ⟨_, rfl⟩
 rw [hup] at hU
 have HUP := Lib.hid hup
 clear hup
 have HE' := Lib.hid (HE.out.trans hE)
 have HBT' := Lib.hid (HBT.out.ext hE)
 have HBY' := Lib.hid (HBY.out.ext hE)
 have HU := Lib.hid (show World.ownsRow w3 w.heap.size 3 1 uv up.length (up.map (Value.int .i64)) from owns_lo hU HE.out.size)
 obtain ⟨uA, uc, rfl, -⟩ := RdS.of_owns hU
 clear hE hU
 replace HE := HE'; replace HBT := HBT'; replace HBY := HBY'
 clear HE' HBT' HBY'
 rcases Nat.eq_zero_or_pos p.length with hz | hpos
 ·have HR : Hid (spotP t p = .error 82) := Lib.hid (by unfold spotP; rw [if_neg (by rw [hri]; decide), if_pos (List.length_eq_zero_iff.1 hz)])
  rw [show decide (0 < p.length) = false from decide_eq_false (by omega)]
  have hn := need_no 82 w3
  clear hri hz
  go_wp2_with fail
  refine hn.mono ?_
  rintro e u ⟨rfl, rfl⟩
  go_wp2_with fail
  rw [HR.out]
  exact ⟨rfl, HE.out, rfl⟩
 have hne : p ≠ [] := List.length_pos_iff.1 hpos
 rw [show decide (0 < p.length) = true from decide_eq_true hpos]
 have hn := need_yes 82 w3
 go_wp2_with fail
 refine hn.mono ?_
 clear hn
 rintro e u ⟨he, rfl⟩
 obtain rfl : e = .returned (.tuple #[]) := he
 have hc := at_old t _ p _ w w3 HE.out HT.out (RdS.ext HE.out HP.out)
 obtain ⟨t0, t1, t2, t3, t4, t5⟩ := HBT.out.c6
 go_wp2_with fail
 refine hc.mono ?_
 clear hc t0 t1 t2 t3 t4 t5
 rintro e w4 ⟨r, rfl, ⟨v, rfl, hv⟩, hE⟩
 have HE' := Lib.hid (HE.out.trans hE)
 have HBT' := Lib.hid (HBT.out.ext hE)
 have HBY' := Lib.hid (HBY.out.ext hE)
 obtain ⟨xA, xc, xK, xd, rfl⟩ := rd_open6 hv
 have HU' := Lib.hid (owns_ext hE HU.out)
 have HX := Lib.hid hv
 clear hE hv
 replace HE := HE'; replace HBT := HBT'; replace HBY := HBY'; replace HU := HU'
 clear HE' HBT' HBY' HU'
 obtain ⟨x, hx⟩ : ∃ x, (t.at? p).getD Nd.zero = x := ⟨_, rfl⟩
 have HXX := Lib.hid hx
 rw [hx] at HX ⊢
 clear hx
 obtain ⟨w5a, hwa⟩ : ∃ q, w4.alloc (.cells #[.int .u64 0, .bool false, .string ⟨#[]⟩, .slice none 0 0, .string ⟨#[]⟩, .slice none 0 0] 26) = q := ⟨_, rfl⟩
 obtain ⟨Zx, hZ⟩ : ∃ q, w4.heap.size = q := ⟨_, rfl⟩
 have XA : Ext w4 w5a := by rw [← hwa]; exact (Ext.refl _).alloc _
 have bZ : NBox w5a Zx 26 #[.int .u64 0, .bool false, .string ⟨#[]⟩, .slice none 0 0, .string ⟨#[]⟩, .slice none 0 0] := by rw [← hwa, ← hZ]; exact NBox.new _ _ _
 obtain ⟨w5, hwn⟩ : ∃ q, (World.setCell (World.setCell (World.setCell (World.setCell (World.setCell (World.setCell w5a ⟨Zx, 0, none⟩ (.int .u64 x.id)) ⟨Zx, 1, none⟩ (.bool x.leaf)) ⟨Zx, 2, none⟩ (.string x.label)) ⟨Zx, 3, none⟩ (.slice xA x.attrs.length xc)) ⟨Zx, 4, none⟩ (.string x.text)) ⟨Zx, 5, none⟩ (.slice xK x.kids.length xd)) = q := ⟨_, rfl⟩
 have F8 : Fr w5a w5 (fun k => k = Zx) := by rw [← hwn]; exact Fr.six _ _ _ _ _ _ _ _
 have X8 : Ext w4 w5 := Fr.ext XA F8 (fun q hq => by rw [show q = Zx from hq, hZ]; exact Nat.le_refl _)
 have HBZx := Lib.hid (show NBox w5 Zx 26 #[.int .u64 x.id, .bool x.leaf, .string x.label, .slice xA x.attrs.length xc, .string x.text, .slice xK x.kids.length xd] from by rw [← hwn]; exact bZ.six _ _ _ _ _ _)
 have HE' := Lib.hid (HE.out.trans X8)
 have HBT' := Lib.hid (HBT.out.ext X8)
 have HBY' := Lib.hid (HBY.out.ext X8)
 have HU' := Lib.hid (owns_ext X8 HU.out)
 obtain ⟨y0, y1, y2, y3, y4, y5⟩ := bZ.c6
 obtain ⟨z0, z1, z2, z3, z4, z5⟩ := bZ.f6
 have HWA := Lib.hid hwa
 have HZZ := Lib.hid hZ
 have HWN := Lib.hid hwn
 clear hwa hZ hwn XA bZ F8 X8
 replace HE := HE'; replace HBT := HBT'; replace HBY := HBY'; replace HU := HU'
 clear HE' HBT' HBY' HU'
 go_upto_region 5 with (rw [HWA.out, HZZ.out]; clear HWA HZZ)
 rw [HWN.out]
 clear HWN y0 y1 y2 y3 y4 y5 z0 z1 z2 z3 z4 z5
 rcases hat : t.at? p with _ | x2
 ·have HR : Hid (spotP t p = .error 81) := Lib.hid (by unfold spotP; rw [if_neg (by rw [hri]; decide), if_neg hne, hat])
  have hn := need_no 81 w5
  clear hri hne hat
  rw [show (none : Option Nd).isSome = false from rfl]
  go_wp2_with fail
  refine hn.mono ?_
  rintro e u ⟨rfl, rfl⟩
  go_wp2_with fail
  rw [HR.out]
  exact ⟨rfl, HE.out, rfl⟩
 have hxx : x2 = x := by rw [← HXX.out, hat]; rfl
 subst hxx
 have HR : Hid (spotP t p = .ok ⟨x2, p, up, lastN p, (t.at? up).getD Nd.zero⟩) := Lib.hid (by rw [← HUP.out]; unfold spotP; rw [if_neg (by rw [hri]; decide), if_neg hne, hat])
 have hn := need_yes 81 w5
 rw [show (some x2 : Option Nd).isSome = true from rfl]
 clear hri hne hat HXX
 go_wp2_with fail
 refine hn.mono ?_
 clear hn
 rintro e u ⟨he, rfl⟩
 obtain rfl : e = .returned (.tuple #[]) := he
 have hc := at_old t _ up _ w w5 HE.out HT.out (RdS.of_owns HU.out)
 obtain ⟨t0, t1, t2, t3, t4, t5⟩ := HBT.out.c6
 go_wp2_with fail
 refine hc.mono ?_
 clear hc t0 t1 t2 t3 t4 t5
 rintro e w6 ⟨r, rfl, ⟨v, rfl, hv⟩, hE⟩
 have HE' := Lib.hid (HE.out.trans hE)
 have HBT' := Lib.hid (HBT.out.ext hE)
 have HBY' := Lib.hid (HBY.out.ext hE)
 have HBZx' := Lib.hid (HBZx.out.ext hE)
 obtain ⟨yA, yc, yK, yd, rfl⟩ := rd_open6 hv
 have HU' := Lib.hid (owns_ext hE HU.out)
 have HY := Lib.hid hv
 clear hE hv
 replace HE := HE'; replace HBT := HBT'; replace HBY := HBY'; replace HBZx := HBZx'; replace HU := HU'
 clear HE' HBT' HBY' HBZx' HU'
 obtain ⟨y, hy⟩ : ∃ y, (t.at? up).getD Nd.zero = y := ⟨_, rfl⟩
 rw [hy] at HY HR ⊢
 clear hy
 obtain ⟨w7a, hwa⟩ : ∃ q, w6.alloc (.cells #[.int .u64 0, .bool false, .string ⟨#[]⟩, .slice none 0 0, .string ⟨#[]⟩, .slice none 0 0] 26) = q := ⟨_, rfl⟩
 obtain ⟨Zy, hZ⟩ : ∃ q, w6.heap.size = q := ⟨_, rfl⟩
 have XA : Ext w6 w7a := by rw [← hwa]; exact (Ext.refl _).alloc _
 have bZ : NBox w7a Zy 26 #[.int .u64 0, .bool false, .string ⟨#[]⟩, .slice none 0 0, .string ⟨#[]⟩, .slice none 0 0] := by rw [← hwa, ← hZ]; exact NBox.new _ _ _
 obtain ⟨w7, hwn⟩ : ∃ q, (World.setCell (World.setCell (World.setCell (World.setCell (World.setCell (World.setCell w7a ⟨Zy, 0, none⟩ (.int .u64 y.id)) ⟨Zy, 1, none⟩ (.bool y.leaf)) ⟨Zy, 2, none⟩ (.string y.label)) ⟨Zy, 3, none⟩ (.slice yA y.attrs.length yc)) ⟨Zy, 4, none⟩ (.string y.text)) ⟨Zy, 5, none⟩ (.slice yK y.kids.length yd)) = q := ⟨_, rfl⟩
 have F8 : Fr w7a w7 (fun k => k = Zy) := by rw [← hwn]; exact Fr.six _ _ _ _ _ _ _ _
 have X8 : Ext w6 w7 := Fr.ext XA F8 (fun q hq => by rw [show q = Zy from hq, hZ]; exact Nat.le_refl _)
 have HBZy := Lib.hid (show NBox w7 Zy 26 #[.int .u64 y.id, .bool y.leaf, .string y.label, .slice yA y.attrs.length yc, .string y.text, .slice yK y.kids.length yd] from by rw [← hwn]; exact bZ.six _ _ _ _ _ _)
 have HE' := Lib.hid (HE.out.trans X8)
 have HBT' := Lib.hid (HBT.out.ext X8)
 have HBY' := Lib.hid (HBY.out.ext X8)
 have HBZx' := Lib.hid (HBZx.out.ext X8)
 have HU' := Lib.hid (owns_ext X8 HU.out)
 obtain ⟨y0, y1, y2, y3, y4, y5⟩ := bZ.c6
 obtain ⟨z0, z1, z2, z3, z4, z5⟩ := bZ.f6
 have HWA := Lib.hid hwa
 have HZZ := Lib.hid hZ
 have HWN := Lib.hid hwn
 clear hwa hZ hwn XA bZ F8 X8
 replace HE := HE'; replace HBT := HBT'; replace HBY := HBY'; replace HBZx := HBZx'; replace HU := HU'
 clear HE' HBT' HBY' HBZx' HU'
 go_upto_region 7 with (rw [HWA.out, HZZ.out]; clear HWA HZZ)
 rw [HWN.out]
 clear HWN y0 y1 y2 y3 y4 y5 z0 z1 z2 z3 z4 z5
 obtain ⟨c0, hc0⟩ : ∃ c0, w7.drew = c0 := ⟨_, rfl⟩
 have XC : Ext w7 c0 := by rw [← hc0]; exact (Ext.refl _).drew
 have HE' := Lib.hid (HE.out.trans XC)
 have HBY' := Lib.hid (HBY.out.ext XC)
 have HBZx' := Lib.hid (HBZx.out.ext XC)
 have HBZy' := Lib.hid (HBZy.out.ext XC)
 have HU' := Lib.hid (owns_ext XC HU.out)
 clear XC
 replace HE := HE'; replace HBY := HBY'; replace HBZx := HBZx'; replace HBZy := HBZy'; replace HU := HU'
 clear HE' HBY' HBZx' HBZy' HU'
 have hYx : Y ≠ Zx := NBox.apart HBY.out HBZx.out (by decide)
 have hYy : Y ≠ Zy := NBox.apart HBY.out HBZy.out (by decide)
 refine wp_region_held_drew (S := (fun W => NBox W Zx 26 #[.int .u64 x2.id, .bool x2.leaf, .string x2.label, .slice xA x2.attrs.length xc, .string x2.text, .slice xK x2.kids.length xd] ∧ NBox W Zy 26 #[.int .u64 y.id, .bool y.leaf, .string y.label, .slice yA y.attrs.length yc, .string y.text, .slice yK y.kids.length yd])) (by kernel_rfl) (by rw [hc0]; exact ⟨HBZx.out, HBZy.out⟩) (fun hHeld => ?_)
 rw [hc0] at hHeld ⊢
 clear hc0
 refine tk 0 ?_ rfl (.inl ⟨by rfl, ?_⟩) hHeld ?_
 rotate_left
 ·intro w hSw
  obtain ⟨hS1, hS2⟩ := hSw
  have g0 := NBox.cell hS1 0
  have h0 := NBox.cell hS2 0
  have g1 := NBox.cell hS1 1
  have h1 := NBox.cell hS2 1
  have g2 := NBox.cell hS1 2
  have h2 := NBox.cell hS2 2
  have g3 := NBox.cell hS1 3
  have h3 := NBox.cell hS2 3
  have g4 := NBox.cell hS1 4
  have h4 := NBox.cell hS2 4
  have g5 := NBox.cell hS1 5
  have h5 := NBox.cell hS2 5
  go_simp
  all_goals (first | with_reducible rfl | rw [if_pos (by omega)])
 try simp only [Act.put, aS]
 refine tk 1 ?_ rfl (.inl ⟨by rfl, ?_⟩) hHeld ?_
 rotate_left
 ·intro w hSw
  try dsimp only at hSw
  go_simp
  all_goals (first | with_reducible rfl | rw [if_pos (by omega)])
 try simp only [Act.put, aS]
 refine tk 3 ?_ rfl (.inl ⟨by rfl, ?_⟩) hHeld ?_
 rotate_left
 ·intro w hSw
  try dsimp only at hSw
  go_simp
  all_goals (first | with_reducible rfl | rw [if_pos (by omega)])
 try simp only [Act.put, aS]
 refine tk 4 ?_ rfl (.inl ⟨by rfl, ?_⟩) hHeld ?_
 rotate_left
 ·intro w hSw
  try dsimp only at hSw
  go_simp
  all_goals (first | with_reducible rfl | rw [if_pos (by omega)])
 try simp only [Act.put, aS]
 refine tk 5 ?_ rfl (.inl ⟨by rfl, ?_⟩) hHeld ?_
 rotate_left
 ·intro w hSw
  obtain ⟨hS1, hS2⟩ := hSw
  have g0 := NBox.cell hS1 0
  have h0 := NBox.cell hS2 0
  have g1 := NBox.cell hS1 1
  have h1 := NBox.cell hS2 1
  have g2 := NBox.cell hS1 2
  have h2 := NBox.cell hS2 2
  have g3 := NBox.cell hS1 3
  have h3 := NBox.cell hS2 3
  have g4 := NBox.cell hS1 4
  have h4 := NBox.cell hS2 4
  have g5 := NBox.cell hS1 5
  have h5 := NBox.cell hS2 5
  go_simp
  all_goals (first | with_reducible rfl | rw [if_pos (by omega)])
 try simp only [Act.put, aS]
 refine wpAnyH_ready (rs := [2]) (by kernel_rfl) (by simp) ?_
 refine AllReadyH.cons (o := ⟨_, _, _, _, _, _⟩) rfl (fun K' hK => ?_) AllReadyH.nil
 have hq := clone_any p _ c0 (RdS.ext HE.out HP.out) (by omega)
 go_simp
 go_at_call 41
 refine hq.mono ?_
 clear hq
 rintro e w8 ⟨r, rfl, hO, hE⟩
 have HO := Lib.hid (owns_lo hO HE.out.size)
 obtain ⟨pA, pc, rfl, -⟩ := RdS.of_owns hO
 have HE' := Lib.hid (HE.out.trans hE)
 have HBY' := Lib.hid (HBY.out.ext hE)
 have HU' := Lib.hid (owns_ext hE HU.out)
 refine hK.out _ _ (show _ ∧ _ from ⟨HBZx.out.ext hE, HBZy.out.ext hE⟩) (fun hHeld => ?_)
 clear hK K' hO hE
 try simp only [Act.put, aS]
 replace HE := HE'; replace HBY := HBY'; replace HU := HU'
 clear HE' HBY' HU'
 refine tk 6 ?_ rfl (.inl ⟨by rfl, ?_⟩) hHeld ?_
 rotate_left
 ·intro w hSw
  try dsimp only at hSw
  go_simp
  all_goals (first | with_reducible rfl | rw [if_pos (by omega)])
 try simp only [Act.put, aS]
 refine wpAnyH_ready (rs := [7]) (by kernel_rfl) (by simp) ?_
 refine AllReadyH.cons (o := ⟨_, _, _, _, _, _⟩) rfl (fun K' hK => ?_) (AllReadyH.nil)
 have k0 := HBY.out.cell 0
 have k1 := HBY.out.cell 1
 have k2 := HBY.out.cell 2
 have k3 := HBY.out.cell 3
 have k4 := HBY.out.cell 4
 have k5 := HBY.out.cell 5
 have k6 := HBY.out.cell 6
 have k7 := HBY.out.cell 7
 have k8 := HBY.out.cell 8
 have k9 := HBY.out.cell 9
 have k10 := HBY.out.cell 10
 have k11 := HBY.out.cell 11
 have k12 := HBY.out.cell 12
 have k13 := HBY.out.cell 13
 have k14 := HBY.out.cell 14
 have f0 := HBY.out.frozen 0
 have f1 := HBY.out.frozen 1
 have f2 := HBY.out.frozen 2
 have f3 := HBY.out.frozen 3
 have f4 := HBY.out.frozen 4
 have f5 := HBY.out.frozen 5
 have f6 := HBY.out.frozen 6
 have f7 := HBY.out.frozen 7
 have f8 := HBY.out.frozen 8
 have f9 := HBY.out.frozen 9
 have f10 := HBY.out.frozen 10
 have f11 := HBY.out.frozen 11
 have f12 := HBY.out.frozen 12
 have f13 := HBY.out.frozen 13
 have f14 := HBY.out.frozen 14
 go_simp
 have F9 := Fr.s15 w8 Y (.int .u64 x2.id) (.bool x2.leaf) (.string x2.label) (.slice xA x2.attrs.length xc) (.string x2.text) (.slice xK x2.kids.length xd) (.slice pA p.length pc) (.slice uA up.length uc) (.int .i64 (lastN p)) (.int .u64 y.id) (.bool y.leaf) (.string y.label) (.slice yA y.attrs.length yc) (.string y.text) (.slice yK y.kids.length yd)
 have HB9 := Lib.hid (HBY.out.s15 (.int .u64 x2.id) (.bool x2.leaf) (.string x2.label) (.slice xA x2.attrs.length xc) (.string x2.text) (.slice xK x2.kids.length xd) (.slice pA p.length pc) (.slice uA up.length uc) (.int .i64 (lastN p)) (.int .u64 y.id) (.bool y.leaf) (.string y.label) (.slice yA y.attrs.length yc) (.string y.text) (.slice yK y.kids.length yd))
 refine hK.out _ _ (show _ ∧ _ from ⟨hHeld.1.fr F9 (fun hh => hYx hh.symm), hHeld.2.fr F9 (fun hh => hYy hh.symm)⟩) (fun hHeld => ?_)
 clear hK K' k0 f0 k1 f1 k2 f2 k3 f3 k4 f4 k5 f5 k6 f6 k7 f7 k8 f8 k9 f9 k10 f10 k11 f11 k12 f12 k13 f13 k14 f14
 try simp only [Act.put, aS]
 refine wpAnyH_done (by kernel_rfl) ?_ _
 clear hHeld
 go_wp2_with fail
 refine bodyPost_ret (results_st rfl _ rfl HB9.out Try.underlying52 rfl info52) rfl ?_
 rw [HR.out]
 have hgP : ∀ q, (Value.slice pA p.length pc).ownBlock = some q → q ≠ Y := fun q hq hh => HBY.out.not_own HO.out (by decide) (by rw [hq, hh])
 have hgU : ∀ q, (Value.slice uA up.length uc).ownBlock = some q → q ≠ Y := fun q hq hh => HBY.out.not_own HU.out (by decide) (by rw [hq, hh])
 exact ⟨Fr.ext HE.out F9 (fun q hq => by rw [show q = Y from hq]; exact HwY.out), _, rfl, _, _, _, _, _, _, _, _, _, _, _, _, rfl, HX.out, HY.out, owns_fr F9 HO.out hgP, owns_fr F9 HU.out hgU⟩
/-- What the document's spot tells. -/
def SpotR (w : World) (o : Except Int SpD) (e : Ending) (W' : World) : Prop := Ext w W' ∧ match o with
 | .error k => e = .returned (.tuple #[.agg #[.int .u64 0, .bool false, .string ⟨#[]⟩, .slice none 0 0, .string ⟨#[]⟩, .slice none 0 0, .slice none 0 0, .int .i64 0, .int .u64 0, .bool false, .string ⟨#[]⟩, .slice none 0 0, .string ⟨#[]⟩, .slice none 0 0], .int .i64 k])
 | .ok s => ∃ v, e = .returned (.tuple #[v, .int .i64 0]) ∧ SpR w W' s v
set_option maxRecDepth 100000 in
set_option maxHeartbeats 8000000 in
theorem spot31_any (t : Nd) (p : List Int) (tv pv : Value) (w : World) (ht : t.rd w tv) (hp : RdI w p pv) (hpl : p.length ≤ 100000) : Calls Try.prog 31 #[tv, pv] w (SpotR w (spotP t p)) := by
 obtain ⟨up, hup⟩ : ∃ up, p.dropLast = up := ⟨_, rfl⟩
 have HUP := Lib.hid hup
 have hup2 := Lib.hid (show p.take (p.length - 1) = up from by rw [dropLast_take, hup])
 clear hup
 obtain ⟨tA, tc, tK, td, rfl⟩ := rd_open6 ht
 obtain ⟨w1, hw1⟩ : ∃ W, (w.alloc (.cells #[.int .u64 t.id, .bool t.leaf, .string t.label, .slice tA t.attrs.length tc, .string t.text, .slice tK t.kids.length td] 26)).alloc (.cells #[.int .u64 0, .bool false, .string ⟨#[]⟩, .slice none 0 0, .string ⟨#[]⟩, .slice none 0 0, .slice none 0 0, .int .i64 0, .int .u64 0, .bool false, .string ⟨#[]⟩, .slice none 0 0, .string ⟨#[]⟩, .slice none 0 0] 58) = W := ⟨_, rfl⟩
 obtain ⟨T, hT⟩ : ∃ T, w.heap.size = T := ⟨_, rfl⟩
 have s1 : (w.alloc (.cells #[.int .u64 t.id, .bool t.leaf, .string t.label, .slice tA t.attrs.length tc, .string t.text, .slice tK t.kids.length td] 26)).heap.size = T + 1 := by rw [World.size_alloc, hT]
 have E1 : Ext w w1 := by rw [← hw1]; exact ((Ext.refl w).alloc _).alloc _
 have bT : NBox w1 T 26 #[.int .u64 t.id, .bool t.leaf, .string t.label, .slice tA t.attrs.length tc, .string t.text, .slice tK t.kids.length td] := by rw [← hw1, ← hT]; exact (NBox.new w 26 _).ext ((Ext.refl _).alloc _)
 obtain ⟨Y, hY⟩ : ∃ Y, T + 1 = Y := ⟨_, rfl⟩
 have bY : NBox w1 Y 58 #[.int .u64 0, .bool false, .string ⟨#[]⟩, .slice none 0 0, .string ⟨#[]⟩, .slice none 0 0, .slice none 0 0, .int .i64 0, .int .u64 0, .bool false, .string ⟨#[]⟩, .slice none 0 0, .string ⟨#[]⟩, .slice none 0 0] := by rw [← hw1, ← hY, ← s1]; exact NBox.new _ _ _
 have HE := Lib.hid E1
 have HT := Lib.hid ht
 have HP := Lib.hid hp
 have HBT := Lib.hid bT
 have HBY := Lib.hid bY
 have HW1 := Lib.hid hw1
 have HTT := Lib.hid hT
 have HYY := Lib.hid hY
 have HwY := Lib.hid (show w.heap.size ≤ Y by omega)
 have HTL := Lib.hid (show T < Y by omega)
 have hc := rrightTop_any t _ w1 (Nd.rd_ext E1 ht)
 obtain ⟨t0, t1, t2, t3, t4, t5⟩ := bT.c6
 obtain ⟨aA, ac, rfl, -⟩ := hp
 clear hw1 hT s1 E1 bT bY ht hY
 go_enter Try.func31, Try.ntmps31
 go_upto_region 1 with fail
 rw [HW1.out, HTT.out]
 try rw [HYY.out]
 clear HW1
 go_wp2_with fail
 refine hc.mono ?_
 clear hc t0 t1 t2 t3 t4 t5
 rintro e w2 ⟨r, rfl, rfl, hE⟩
 have HE' := Lib.hid (HE.out.trans hE)
 have HBT' := Lib.hid (HBT.out.ext hE)
 have HBY' := Lib.hid (HBY.out.ext hE)
 clear hE
 replace HE := HE'; replace HBT := HBT'; replace HBY := HBY'
 clear HE' HBT' HBY'
 cases hri : t.right with
 | false =>
  have HR : Hid (spotP t p = .error 2) := Lib.hid (by unfold spotP; rw [if_pos hri])
  clear hri
  have k0 := HBY.out.cell 0
  have k1 := HBY.out.cell 1
  have k2 := HBY.out.cell 2
  have k3 := HBY.out.cell 3
  have k4 := HBY.out.cell 4
  have k5 := HBY.out.cell 5
  have k6 := HBY.out.cell 6
  have k7 := HBY.out.cell 7
  have k8 := HBY.out.cell 8
  have k9 := HBY.out.cell 9
  have k10 := HBY.out.cell 10
  have k11 := HBY.out.cell 11
  have k12 := HBY.out.cell 12
  have k13 := HBY.out.cell 13
  have f0 := HBY.out.frozen 0
  have f1 := HBY.out.frozen 1
  have f2 := HBY.out.frozen 2
  have f3 := HBY.out.frozen 3
  have f4 := HBY.out.frozen 4
  have f5 := HBY.out.frozen 5
  have f6 := HBY.out.frozen 6
  have f7 := HBY.out.frozen 7
  have f8 := HBY.out.frozen 8
  have f9 := HBY.out.frozen 9
  have f10 := HBY.out.frozen 10
  have f11 := HBY.out.frozen 11
  have f12 := HBY.out.frozen 12
  have f13 := HBY.out.frozen 13
  have F9 := Fr.s14 w2 Y (.int .u64 0) (.bool false) (.string ⟨#[]⟩) (.slice none 0 0) (.string ⟨#[]⟩) (.slice none 0 0) (.slice none 0 0) (.int .i64 0) (.int .u64 0) (.bool false) (.string ⟨#[]⟩) (.slice none 0 0) (.string ⟨#[]⟩) (.slice none 0 0)
  have HB9 := Lib.hid (HBY.out.s14 (.int .u64 0) (.bool false) (.string ⟨#[]⟩) (.slice none 0 0) (.string ⟨#[]⟩) (.slice none 0 0) (.slice none 0 0) (.int .i64 0) (.int .u64 0) (.bool false) (.string ⟨#[]⟩) (.slice none 0 0) (.string ⟨#[]⟩) (.slice none 0 0))
  go_wp2_with fail
  refine bodyPost_ret (results_nd rfl rfl rfl HB9.out Try.underlying58 rfl info58) rfl ?_
  rw [HR.out]
  exact ⟨Fr.ext HE.out F9 (fun q hq => by rw [show q = Y from hq]; exact HwY.out), rfl⟩
 | true =>
 rcases Nat.eq_zero_or_pos p.length with hz | hpos
 ·have HR : Hid (spotP t p = .error 82) := Lib.hid (by unfold spotP; rw [if_neg (by rw [hri]; decide), if_pos (List.length_eq_zero_iff.1 hz)])
  have z1 : (p.length == 0) = true := by rw [beq_iff_eq]; exact hz
  have z2 : ((p.length : Int) == 0) = true := by rw [beq_iff_eq]; omega
  clear hri hz
  have k0 := HBY.out.cell 0
  have k1 := HBY.out.cell 1
  have k2 := HBY.out.cell 2
  have k3 := HBY.out.cell 3
  have k4 := HBY.out.cell 4
  have k5 := HBY.out.cell 5
  have k6 := HBY.out.cell 6
  have k7 := HBY.out.cell 7
  have k8 := HBY.out.cell 8
  have k9 := HBY.out.cell 9
  have k10 := HBY.out.cell 10
  have k11 := HBY.out.cell 11
  have k12 := HBY.out.cell 12
  have k13 := HBY.out.cell 13
  have f0 := HBY.out.frozen 0
  have f1 := HBY.out.frozen 1
  have f2 := HBY.out.frozen 2
  have f3 := HBY.out.frozen 3
  have f4 := HBY.out.frozen 4
  have f5 := HBY.out.frozen 5
  have f6 := HBY.out.frozen 6
  have f7 := HBY.out.frozen 7
  have f8 := HBY.out.frozen 8
  have f9 := HBY.out.frozen 9
  have f10 := HBY.out.frozen 10
  have f11 := HBY.out.frozen 11
  have f12 := HBY.out.frozen 12
  have f13 := HBY.out.frozen 13
  have F9 := Fr.s14 w2 Y (.int .u64 0) (.bool false) (.string ⟨#[]⟩) (.slice none 0 0) (.string ⟨#[]⟩) (.slice none 0 0) (.slice none 0 0) (.int .i64 0) (.int .u64 0) (.bool false) (.string ⟨#[]⟩) (.slice none 0 0) (.string ⟨#[]⟩) (.slice none 0 0)
  have HB9 := Lib.hid (HBY.out.s14 (.int .u64 0) (.bool false) (.string ⟨#[]⟩) (.slice none 0 0) (.string ⟨#[]⟩) (.slice none 0 0) (.slice none 0 0) (.int .i64 0) (.int .u64 0) (.bool false) (.string ⟨#[]⟩) (.slice none 0 0) (.string ⟨#[]⟩) (.slice none 0 0))
  go_wp2_with fail
  refine bodyPost_ret (results_nd rfl rfl rfl HB9.out Try.underlying58 rfl info58) rfl ?_
  rw [HR.out]
  exact ⟨Fr.ext HE.out F9 (fun q hq => by rw [show q = Y from hq]; exact HwY.out), rfl⟩
 have hne : p ≠ [] := List.length_pos_iff.1 hpos
 have z1 : (p.length == 0) = false := by rw [beq_eq_false_iff_ne]; omega
 have z2 : ((p.length : Int) == 0) = false := by rw [beq_eq_false_iff_ne]; omega
 have hc := rat_old t _ p _ w w2 HE.out HT.out (RdS.ext HE.out HP.out)
 obtain ⟨t0, t1, t2, t3, t4, t5⟩ := HBT.out.c6
 go_wp2_with fail
 refine hc.mono ?_
 clear hc t0 t1 t2 t3 t4 t5
 rintro e w4 ⟨r, rfl, ⟨v, rfl, hv⟩, hE⟩
 have HE' := Lib.hid (HE.out.trans hE)
 have HBT' := Lib.hid (HBT.out.ext hE)
 have HBY' := Lib.hid (HBY.out.ext hE)
 obtain ⟨xA, xc, xK, xd, rfl⟩ := rd_open6 hv
 have HX := Lib.hid hv
 clear hE hv
 replace HE := HE'; replace HBT := HBT'; replace HBY := HBY'
 clear HE' HBT' HBY'
 obtain ⟨x, hx⟩ : ∃ x, (t.at? p).getD Nd.zero = x := ⟨_, rfl⟩
 have HXX := Lib.hid hx
 rw [hx] at HX ⊢
 clear hx
 obtain ⟨w5a, hwa⟩ : ∃ q, w4.alloc (.cells #[.int .u64 0, .bool false, .string ⟨#[]⟩, .slice none 0 0, .string ⟨#[]⟩, .slice none 0 0] 26) = q := ⟨_, rfl⟩
 obtain ⟨Zx, hZ⟩ : ∃ q, w4.heap.size = q := ⟨_, rfl⟩
 have XA : Ext w4 w5a := by rw [← hwa]; exact (Ext.refl _).alloc _
 have bZ : NBox w5a Zx 26 #[.int .u64 0, .bool false, .string ⟨#[]⟩, .slice none 0 0, .string ⟨#[]⟩, .slice none 0 0] := by rw [← hwa, ← hZ]; exact NBox.new _ _ _
 obtain ⟨w5, hwn⟩ : ∃ q, (World.setCell (World.setCell (World.setCell (World.setCell (World.setCell (World.setCell w5a ⟨Zx, 0, none⟩ (.int .u64 x.id)) ⟨Zx, 1, none⟩ (.bool x.leaf)) ⟨Zx, 2, none⟩ (.string x.label)) ⟨Zx, 3, none⟩ (.slice xA x.attrs.length xc)) ⟨Zx, 4, none⟩ (.string x.text)) ⟨Zx, 5, none⟩ (.slice xK x.kids.length xd)) = q := ⟨_, rfl⟩
 have F8 : Fr w5a w5 (fun k => k = Zx) := by rw [← hwn]; exact Fr.six _ _ _ _ _ _ _ _
 have X8 : Ext w4 w5 := Fr.ext XA F8 (fun q hq => by rw [show q = Zx from hq, hZ]; exact Nat.le_refl _)
 have HBZx := Lib.hid (show NBox w5 Zx 26 #[.int .u64 x.id, .bool x.leaf, .string x.label, .slice xA x.attrs.length xc, .string x.text, .slice xK x.kids.length xd] from by rw [← hwn]; exact bZ.six _ _ _ _ _ _)
 have HE' := Lib.hid (HE.out.trans X8)
 have HBT' := Lib.hid (HBT.out.ext X8)
 have HBY' := Lib.hid (HBY.out.ext X8)
 obtain ⟨y0, y1, y2, y3, y4, y5⟩ := bZ.c6
 obtain ⟨z0, z1, z2, z3, z4, z5⟩ := bZ.f6
 have HWA := Lib.hid hwa
 have HZZ := Lib.hid hZ
 have HWN := Lib.hid hwn
 clear hwa hZ hwn XA bZ F8 X8
 replace HE := HE'; replace HBT := HBT'; replace HBY := HBY'
 clear HE' HBT' HBY'
 go_upto_region 6 with (rw [HWA.out, HZZ.out]; clear HWA HZZ)
 rw [HWN.out]
 clear HWN y0 y1 y2 y3 y4 y5 z0 z1 z2 z3 z4 z5
 rcases hat : t.at? p with _ | x2
 ·have HR : Hid (spotP t p = .error 81) := Lib.hid (by unfold spotP; rw [if_neg (by rw [hri]; decide), if_neg hne, hat])
  clear hri hne hat
  rw [show (none : Option Nd).isSome = false from rfl]
  have k0 := HBY.out.cell 0
  have k1 := HBY.out.cell 1
  have k2 := HBY.out.cell 2
  have k3 := HBY.out.cell 3
  have k4 := HBY.out.cell 4
  have k5 := HBY.out.cell 5
  have k6 := HBY.out.cell 6
  have k7 := HBY.out.cell 7
  have k8 := HBY.out.cell 8
  have k9 := HBY.out.cell 9
  have k10 := HBY.out.cell 10
  have k11 := HBY.out.cell 11
  have k12 := HBY.out.cell 12
  have k13 := HBY.out.cell 13
  have f0 := HBY.out.frozen 0
  have f1 := HBY.out.frozen 1
  have f2 := HBY.out.frozen 2
  have f3 := HBY.out.frozen 3
  have f4 := HBY.out.frozen 4
  have f5 := HBY.out.frozen 5
  have f6 := HBY.out.frozen 6
  have f7 := HBY.out.frozen 7
  have f8 := HBY.out.frozen 8
  have f9 := HBY.out.frozen 9
  have f10 := HBY.out.frozen 10
  have f11 := HBY.out.frozen 11
  have f12 := HBY.out.frozen 12
  have f13 := HBY.out.frozen 13
  have F9 := Fr.s14 w5 Y (.int .u64 0) (.bool false) (.string ⟨#[]⟩) (.slice none 0 0) (.string ⟨#[]⟩) (.slice none 0 0) (.slice none 0 0) (.int .i64 0) (.int .u64 0) (.bool false) (.string ⟨#[]⟩) (.slice none 0 0) (.string ⟨#[]⟩) (.slice none 0 0)
  have HB9 := Lib.hid (HBY.out.s14 (.int .u64 0) (.bool false) (.string ⟨#[]⟩) (.slice none 0 0) (.string ⟨#[]⟩) (.slice none 0 0) (.slice none 0 0) (.int .i64 0) (.int .u64 0) (.bool false) (.string ⟨#[]⟩) (.slice none 0 0) (.string ⟨#[]⟩) (.slice none 0 0))
  go_wp2_with fail
  refine bodyPost_ret (results_nd rfl rfl rfl HB9.out Try.underlying58 rfl info58) rfl ?_
  rw [HR.out]
  exact ⟨Fr.ext HE.out F9 (fun q hq => by rw [show q = Y from hq]; exact HwY.out), rfl⟩
 have hxx : x2 = x := by rw [← HXX.out, hat]; rfl
 subst hxx
 have HR : Hid (spotP t p = .ok ⟨x2, p, up, lastN p, (t.at? up).getD Nd.zero⟩) := Lib.hid (by rw [← HUP.out]; unfold spotP; rw [if_neg (by rw [hri]; decide), if_neg hne, hat])
 rw [show (some x2 : Option Nd).isSome = true from rfl]
 have HLA := Lib.hid (last_at hne)
 clear hri hne hat HXX
 have hpm := RdS.len_le' HP.out
 have hac : p.length ≤ ac := by
  obtain ⟨A1, c1, e1, -, h, -, -⟩ := HP.out
  simp only [Value.slice.injEq, true_and] at e1
  obtain ⟨-, rfl⟩ := e1
  exact h
 have q1 : (1 : Int) ≤ (p.length : Int) := by omega
 have q2 : (0 : Int) ≤ (p.length : Int) - 1 := by omega
 have q3 : (p.length : Int) - 1 < (p.length : Int) := by omega
 have q4 : ((p.length : Int) - 1).toNat = p.length - 1 := by omega
 have q5 : p.length - 1 ≤ ac := by omega
 have q6 : (p.length : Int) - 1 ≤ (ac : Int) := by omega
 have q7 : IntKind.i64.wrap ((p.length : Int) - 1) = (p.length : Int) - 1 := IntWalk.i64_in _ (by omega)
 have q8 : p.length - 1 < p.length := by omega
 obtain ⟨A0, c0', e0, -, -, -, hcell⟩ := HP.out
 simp only [Value.slice.injEq, true_and] at e0
 obtain ⟨rfl, rfl⟩ := e0
 obtain ⟨ba, oa, rfl, cells⟩ := hcell hpos
 have HLC := Lib.hid (cells (p.length - 1) (.int .i64 (lastN p)) (by rw [List.getElem?_map, HLA.out]; rfl))
 have hc := copied_any up _ w5 (by
  have := RdI.take (RdS.ext HE.out HP.out) (p.length - 1) (by omega)
  rw [hup2.out] at this
  exact this) (by rw [← hup2.out, List.length_take]; omega)
 clear cells hcell
 go_wp2_with fail
 refine hc.mono ?_
 clear hc
 rintro e w6 ⟨uv, rfl, hU, hE⟩
 have HU := Lib.hid (owns_lo hU HE.out.size)
 obtain ⟨uA, uc, rfl, -⟩ := RdS.of_owns hU
 have HE' := Lib.hid (HE.out.trans hE)
 have HBT' := Lib.hid (HBT.out.ext hE)
 have HBY' := Lib.hid (HBY.out.ext hE)
 have HBZx' := Lib.hid (HBZx.out.ext hE)
 clear hE hU
 replace HE := HE'; replace HBT := HBT'; replace HBY := HBY'; replace HBZx := HBZx'
 clear HE' HBT' HBY' HBZx'
 have hc := rat_old t _ up _ w w6 HE.out HT.out (RdS.of_owns HU.out)
 obtain ⟨t0, t1, t2, t3, t4, t5⟩ := HBT.out.c6
 go_wp2_with fail
 refine hc.mono ?_
 clear hc t0 t1 t2 t3 t4 t5
 rintro e w7 ⟨r, rfl, ⟨v, rfl, hv⟩, hE⟩
 have HE' := Lib.hid (HE.out.trans hE)
 have HBT' := Lib.hid (HBT.out.ext hE)
 have HBY' := Lib.hid (HBY.out.ext hE)
 have HBZx' := Lib.hid (HBZx.out.ext hE)
 obtain ⟨yA, yc, yK, yd, rfl⟩ := rd_open6 hv
 have HU' := Lib.hid (owns_ext hE HU.out)
 have HY := Lib.hid hv
 clear hE hv
 replace HE := HE'; replace HBT := HBT'; replace HBY := HBY'; replace HBZx := HBZx'; replace HU := HU'
 clear HE' HBT' HBY' HBZx' HU'
 obtain ⟨y, hy⟩ : ∃ y, (t.at? up).getD Nd.zero = y := ⟨_, rfl⟩
 rw [hy] at HY HR ⊢
 clear hy
 obtain ⟨w8a, hwa⟩ : ∃ q, w7.alloc (.cells #[.int .u64 0, .bool false, .string ⟨#[]⟩, .slice none 0 0, .string ⟨#[]⟩, .slice none 0 0] 26) = q := ⟨_, rfl⟩
 obtain ⟨Zy, hZ⟩ : ∃ q, w7.heap.size = q := ⟨_, rfl⟩
 have XA : Ext w7 w8a := by rw [← hwa]; exact (Ext.refl _).alloc _
 have bZ : NBox w8a Zy 26 #[.int .u64 0, .bool false, .string ⟨#[]⟩, .slice none 0 0, .string ⟨#[]⟩, .slice none 0 0] := by rw [← hwa, ← hZ]; exact NBox.new _ _ _
 obtain ⟨w8, hwn⟩ : ∃ q, (World.setCell (World.setCell (World.setCell (World.setCell (World.setCell (World.setCell w8a ⟨Zy, 0, none⟩ (.int .u64 y.id)) ⟨Zy, 1, none⟩ (.bool y.leaf)) ⟨Zy, 2, none⟩ (.string y.label)) ⟨Zy, 3, none⟩ (.slice yA y.attrs.length yc)) ⟨Zy, 4, none⟩ (.string y.text)) ⟨Zy, 5, none⟩ (.slice yK y.kids.length yd)) = q := ⟨_, rfl⟩
 have F8 : Fr w8a w8 (fun k => k = Zy) := by rw [← hwn]; exact Fr.six _ _ _ _ _ _ _ _
 have X8 : Ext w7 w8 := Fr.ext XA F8 (fun q hq => by rw [show q = Zy from hq, hZ]; exact Nat.le_refl _)
 have HBZy := Lib.hid (show NBox w8 Zy 26 #[.int .u64 y.id, .bool y.leaf, .string y.label, .slice yA y.attrs.length yc, .string y.text, .slice yK y.kids.length yd] from by rw [← hwn]; exact bZ.six _ _ _ _ _ _)
 have HE' := Lib.hid (HE.out.trans X8)
 have HBT' := Lib.hid (HBT.out.ext X8)
 have HBY' := Lib.hid (HBY.out.ext X8)
 have HBZx' := Lib.hid (HBZx.out.ext X8)
 have HU' := Lib.hid (owns_ext X8 HU.out)
 obtain ⟨y0, y1, y2, y3, y4, y5⟩ := bZ.c6
 obtain ⟨z0, z1, z2, z3, z4, z5⟩ := bZ.f6
 have HWA := Lib.hid hwa
 have HZZ := Lib.hid hZ
 have HWN := Lib.hid hwn
 clear hwa hZ hwn XA bZ F8 X8
 replace HE := HE'; replace HBT := HBT'; replace HBY := HBY'; replace HBZx := HBZx'; replace HU := HU'
 clear HE' HBT' HBY' HBZx' HU'
 go_upto_region 10 with (rw [HWA.out, HZZ.out]; clear HWA HZZ)
 rw [HWN.out]
 clear HWN y0 y1 y2 y3 y4 y5 z0 z1 z2 z3 z4 z5
 obtain ⟨c0, hc0⟩ : ∃ c0, w8.drew = c0 := ⟨_, rfl⟩
 have XC : Ext w8 c0 := by rw [← hc0]; exact (Ext.refl _).drew
 have HE' := Lib.hid (HE.out.trans XC)
 have HBY' := Lib.hid (HBY.out.ext XC)
 have HBZx' := Lib.hid (HBZx.out.ext XC)
 have HBZy' := Lib.hid (HBZy.out.ext XC)
 have HU' := Lib.hid (owns_ext XC HU.out)
 clear XC
 replace HE := HE'; replace HBY := HBY'; replace HBZx := HBZx'; replace HBZy := HBZy'; replace HU := HU'
 clear HE' HBY' HBZx' HBZy' HU'
 have hYx : Y ≠ Zx := NBox.apart HBY.out HBZx.out (by decide)
 have hYy : Y ≠ Zy := NBox.apart HBY.out HBZy.out (by decide)
 have hba : ba < w.heap.size := lt_of_cell HLC.out
 have hYb : ba ≠ Y := by have := HwY.out; omega
 refine wp_region_held_drew (S := (fun W => (NBox W Zx 26 #[.int .u64 x2.id, .bool x2.leaf, .string x2.label, .slice xA x2.attrs.length xc, .string x2.text, .slice xK x2.kids.length xd] ∧ NBox W Zy 26 #[.int .u64 y.id, .bool y.leaf, .string y.label, .slice yA y.attrs.length yc, .string y.text, .slice yK y.kids.length yd]) ∧ W.cell? ⟨ba, oa + (p.length - 1), none⟩ = some (.int .i64 (lastN p)))) (by kernel_rfl) (by rw [hc0]; exact ⟨⟨HBZx.out, HBZy.out⟩, HE.out.cell HLC.out⟩) (fun hHeld => ?_)
 rw [hc0] at hHeld ⊢
 clear hc0
 refine tk 0 ?_ rfl (.inl ⟨by rfl, ?_⟩) hHeld ?_
 rotate_left
 ·intro w hSw
  obtain ⟨⟨hS1, hS2⟩, hS3⟩ := hSw
  have g0 := NBox.cell hS1 0
  have h0 := NBox.cell hS2 0
  have g1 := NBox.cell hS1 1
  have h1 := NBox.cell hS2 1
  have g2 := NBox.cell hS1 2
  have h2 := NBox.cell hS2 2
  have g3 := NBox.cell hS1 3
  have h3 := NBox.cell hS2 3
  have g4 := NBox.cell hS1 4
  have h4 := NBox.cell hS2 4
  have g5 := NBox.cell hS1 5
  have h5 := NBox.cell hS2 5
  go_simp
  all_goals (first | with_reducible rfl | rw [if_pos (by omega)])
 try simp only [Act.put, aS]
 refine tk 1 ?_ rfl (.inl ⟨by rfl, ?_⟩) hHeld ?_
 rotate_left
 ·intro w hSw
  try dsimp only at hSw
  go_simp
  all_goals (first | with_reducible rfl | rw [if_pos (by omega)])
 try simp only [Act.put, aS]
 refine tk 2 ?_ rfl (.inl ⟨by rfl, ?_⟩) hHeld ?_
 rotate_left
 ·intro w hSw
  try dsimp only at hSw
  go_simp
  all_goals (first | with_reducible rfl | rw [if_pos (by omega)])
 try simp only [Act.put, aS]
 refine tk 3 ?_ rfl (.inl ⟨by rfl, ?_⟩) hHeld ?_
 rotate_left
 ·intro w hSw
  try dsimp only at hSw
  go_simp
  all_goals (first | with_reducible rfl | rw [if_pos (by omega)])
 try simp only [Act.put, aS]
 refine tk 4 ?_ rfl (.inl ⟨by rfl, ?_⟩) hHeld ?_
 rotate_left
 ·intro w hSw
  try dsimp only at hSw
  go_simp
  all_goals (first | with_reducible rfl | rw [if_pos (by omega)])
 try simp only [Act.put, aS]
 refine tk 5 ?_ rfl (.inl ⟨by rfl, ?_⟩) hHeld ?_
 rotate_left
 ·intro w hSw
  try dsimp only at hSw
  go_simp
  all_goals (first | with_reducible rfl | rw [if_pos (by omega)])
 try simp only [Act.put, aS]
 refine tk 6 ?_ rfl (.inl ⟨by rfl, ?_⟩) hHeld ?_
 rotate_left
 ·intro w hSw
  try dsimp only at hSw
  go_simp
  all_goals (first | with_reducible rfl | rw [if_pos (by omega)])
 try simp only [Act.put, aS]
 refine tk 7 ?_ rfl (.inl ⟨by rfl, ?_⟩) hHeld ?_
 rotate_left
 ·intro w hSw
  obtain ⟨⟨hS1, hS2⟩, hS3⟩ := hSw
  have g0 := NBox.cell hS1 0
  have h0 := NBox.cell hS2 0
  have g1 := NBox.cell hS1 1
  have h1 := NBox.cell hS2 1
  have g2 := NBox.cell hS1 2
  have h2 := NBox.cell hS2 2
  have g3 := NBox.cell hS1 3
  have h3 := NBox.cell hS2 3
  have g4 := NBox.cell hS1 4
  have h4 := NBox.cell hS2 4
  have g5 := NBox.cell hS1 5
  have h5 := NBox.cell hS2 5
  go_simp
  all_goals (first | with_reducible rfl | rw [if_pos (by omega)])
 try simp only [Act.put, aS]
 refine tk 8 ?_ rfl (.inl ⟨by rfl, ?_⟩) hHeld ?_
 rotate_left
 ·intro w hSw
  obtain ⟨⟨hS1, hS2⟩, hS3⟩ := hSw
  have g0 := NBox.cell hS1 0
  have h0 := NBox.cell hS2 0
  have g1 := NBox.cell hS1 1
  have h1 := NBox.cell hS2 1
  have g2 := NBox.cell hS1 2
  have h2 := NBox.cell hS2 2
  have g3 := NBox.cell hS1 3
  have h3 := NBox.cell hS2 3
  have g4 := NBox.cell hS1 4
  have h4 := NBox.cell hS2 4
  have g5 := NBox.cell hS1 5
  have h5 := NBox.cell hS2 5
  go_simp
  all_goals (first | with_reducible rfl | rw [if_pos (by omega)])
 try simp only [Act.put, aS]
 refine tk 9 ?_ rfl (.inl ⟨by rfl, ?_⟩) hHeld ?_
 rotate_left
 ·intro w hSw
  try dsimp only at hSw
  go_simp
  all_goals (first | with_reducible rfl | rw [if_pos (by omega)])
 try simp only [Act.put, aS]
 refine wpAnyH_ready (rs := [10]) (by kernel_rfl) (by simp) ?_
 refine AllReadyH.cons (o := ⟨_, _, _, _, _, _⟩) rfl (fun K' hK => ?_) (AllReadyH.nil)
 have k0 := HBY.out.cell 0
 have k1 := HBY.out.cell 1
 have k2 := HBY.out.cell 2
 have k3 := HBY.out.cell 3
 have k4 := HBY.out.cell 4
 have k5 := HBY.out.cell 5
 have k6 := HBY.out.cell 6
 have k7 := HBY.out.cell 7
 have k8 := HBY.out.cell 8
 have k9 := HBY.out.cell 9
 have k10 := HBY.out.cell 10
 have k11 := HBY.out.cell 11
 have k12 := HBY.out.cell 12
 have k13 := HBY.out.cell 13
 have f0 := HBY.out.frozen 0
 have f1 := HBY.out.frozen 1
 have f2 := HBY.out.frozen 2
 have f3 := HBY.out.frozen 3
 have f4 := HBY.out.frozen 4
 have f5 := HBY.out.frozen 5
 have f6 := HBY.out.frozen 6
 have f7 := HBY.out.frozen 7
 have f8 := HBY.out.frozen 8
 have f9 := HBY.out.frozen 9
 have f10 := HBY.out.frozen 10
 have f11 := HBY.out.frozen 11
 have f12 := HBY.out.frozen 12
 have f13 := HBY.out.frozen 13
 go_simp
 have F9 := Fr.s14 c0 Y (.int .u64 x2.id) (.bool x2.leaf) (.string x2.label) (.slice xA x2.attrs.length xc) (.string x2.text) (.slice xK x2.kids.length xd) (.slice uA up.length uc) (.int .i64 (lastN p)) (.int .u64 y.id) (.bool y.leaf) (.string y.label) (.slice yA y.attrs.length yc) (.string y.text) (.slice yK y.kids.length yd)
 have HB9 := Lib.hid (HBY.out.s14 (.int .u64 x2.id) (.bool x2.leaf) (.string x2.label) (.slice xA x2.attrs.length xc) (.string x2.text) (.slice xK x2.kids.length xd) (.slice uA up.length uc) (.int .i64 (lastN p)) (.int .u64 y.id) (.bool y.leaf) (.string y.label) (.slice yA y.attrs.length yc) (.string y.text) (.slice yK y.kids.length yd))
 refine hK.out _ _ (show (_ ∧ _) ∧ _ from ⟨⟨hHeld.1.1.fr F9 (fun hh => hYx hh.symm), hHeld.1.2.fr F9 (fun hh => hYy hh.symm)⟩, F9.cell hYb hHeld.2⟩) (fun hHeld => ?_)
 clear hK K' k0 f0 k1 f1 k2 f2 k3 f3 k4 f4 k5 f5 k6 f6 k7 f7 k8 f8 k9 f9 k10 f10 k11 f11 k12 f12 k13 f13
 try simp only [Act.put, aS]
 refine tk 11 ?_ rfl (.inl ⟨by rfl, ?_⟩) hHeld ?_
 rotate_left
 ·intro w hSw
  try dsimp only at hSw
  go_simp
  all_goals (first | with_reducible rfl | rw [if_pos (by omega)])
 try simp only [Act.put, aS]
 refine wpAnyH_done (by kernel_rfl) ?_ _
 clear hHeld
 go_wp2_with fail
 refine bodyPost_ret (results_nd rfl rfl rfl HB9.out Try.underlying58 rfl info58) rfl ?_
 rw [HR.out]
 have hgU : ∀ q, (Value.slice uA up.length uc).ownBlock = some q → q ≠ Y := fun q hq hh => HBY.out.not_own HU.out (by decide) (by rw [hq, hh])
 exact ⟨Fr.ext HE.out F9 (fun q hq => by rw [show q = Y from hq]; exact HwY.out), _, rfl, _, _, _, _, _, _, _, _, _, _, rfl, HX.out, HY.out, owns_fr F9 HU.out hgU⟩
end Go.Proofs.Ytofcbclokkjfjaa.Wi
