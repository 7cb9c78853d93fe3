/- Chapter 24: a contract of chapter 06 turned to this seat (BwAt). -/
import Derived.Test.YtofcbclokkjfjaaWiTree
import Derived.Test.YtofcbclokkjfjaaOuRight
import Derived.StillTailTactics
import Derived.BigQuiet
import Derived.Deep.QuietTactic
namespace Go.Proofs.Ytofcbclokkjfjaa.Bw
open Go.RowKit

/-- A result: a node and whether there is one. -/
def RdO (w : World) (o : Option Nd) (r : Value) : Prop := ∃ v, r = .tuple #[v, .bool o.isSome] ∧ (o.getD Nd.zero).rd w v
def zeroV : Value := .agg #[.int .u64 0, .bool false, .string ByteArray.empty, .slice none 0 0, .string ByteArray.empty, .slice none 0 0]
theorem zero_rd (w : World) : Nd.zero.rd w zeroV := by
 unfold Nd.zero Nd.rd
 exact ⟨_, none, 0, rfl, ⟨by omega, by omega⟩, by simp [okStr], by simp [okStr], ⟨none, 0, rfl, by simp, by simp [maxLen], fun h => absurd rfl h⟩, by simp, by simp [maxLen], fun h => absurd rfl h⟩

theorem at_none {t : Nd} {i : Int} {p : List Int} (h : i < 0 ∨ (t.kids.length : Int) ≤ i) : t.at? (i :: p) = none := by rw [Nd.at?, if_pos h]
theorem at_some {t k : Nd} {i : Int} {p : List Int} (h0 : 0 ≤ i) (h : t.kids[i.toNat]? = some k) : t.at? (i :: p) = k.at? p := by
 have := (List.getElem?_eq_some_iff.1 h).1
 rw [Nd.at?, if_neg (by omega), h]
theorem at_nil {t : Nd} : t.at? [] = some t := by rw [Nd.at?]

theorem RdI_get {w : World} {p : List Int} {v : Value} (h : RdS w 1 p.length (p.map (Value.int .i64)) v) {i : Nat} {x : Int} (hx : p[i]? = some x) : ∃ b off c, v = .slice (some ⟨b, off, none⟩) p.length c ∧ w.cell? ⟨b, off + i, none⟩ = some (.int .i64 x) := by
 obtain ⟨A, c, rfl, _, _, _, h5⟩ := h
 have hi := (List.getElem?_eq_some_iff.1 hx).1
 obtain ⟨b, off, rfl, h6⟩ := h5 (by omega)
 exact ⟨b, off, c, rfl, h6 i _ (by rw [List.getElem?_map, hx]; rfl)⟩

theorem NBox.set {W : World} {B : Nat} {t : TypeId} {cs : Array Value} (h : NBox W B t cs) (i : Nat) (u : Value) : NBox (W.setCell ⟨B, i, none⟩ u) B t (cs.setIfInBounds i u) := by
 unfold NBox at h ⊢
 simp [World.setCell, Array.getElem?_modify, h]
theorem NBox.frozen {W : World} {B : Nat} {t : TypeId} {cs : Array Value} (h : NBox W B t cs) (i : Nat) : W.frozen? ⟨B, i, none⟩ = false := by
 unfold NBox at h; simp [World.frozen?, h]
theorem NBox.f6 {W : World} {B : Nat} {t : TypeId} {cs : Array Value} (h : NBox W B t cs) : W.frozen? ⟨B, 0, none⟩ = false ∧ W.frozen? ⟨B, 1, none⟩ = false ∧ W.frozen? ⟨B, 2, none⟩ = false ∧ W.frozen? ⟨B, 3, none⟩ = false ∧ W.frozen? ⟨B, 4, none⟩ = false ∧ W.frozen? ⟨B, 5, none⟩ = false := ⟨h.frozen 0, h.frozen 1, h.frozen 2, h.frozen 3, h.frozen 4, h.frozen 5⟩
theorem NBox.f11 {W : World} {B : Nat} {t : TypeId} {cs : Array Value} (h : NBox W B t cs) : W.frozen? ⟨B, 0, none⟩ = false ∧ W.frozen? ⟨B, 1, none⟩ = false ∧ W.frozen? ⟨B, 2, none⟩ = false ∧ W.frozen? ⟨B, 3, none⟩ = false ∧ W.frozen? ⟨B, 4, none⟩ = false ∧ W.frozen? ⟨B, 5, none⟩ = false ∧ W.frozen? ⟨B, 6, none⟩ = false ∧ W.frozen? ⟨B, 7, none⟩ = false ∧ W.frozen? ⟨B, 8, none⟩ = false ∧ W.frozen? ⟨B, 9, none⟩ = false ∧ W.frozen? ⟨B, 10, none⟩ = false := ⟨h.frozen 0, h.frozen 1, h.frozen 2, h.frozen 3, h.frozen 4, h.frozen 5, h.frozen 6, h.frozen 7, h.frozen 8, h.frozen 9, h.frozen 10⟩
theorem NBox.other {W : World} {B : Nat} {t : TypeId} {cs : Array Value} (h : NBox W B t cs) {p : Addr} (hp : B ≠ p.block) (u : Value) : NBox (W.setCell p u) B t cs :=
 (Below.heap_setCell W p u B hp).trans h
theorem NBox.lt {W : World} {B : Nat} {t : TypeId} {cs : Array Value} (h : NBox W B t cs) : B < W.heap.size := (Array.getElem?_eq_some_iff.1 h).1

theorem results_node {P : Program} {fn : Func} {p u : Tmp} {ty : TypeId} (h : fn.results = #[.cell p ty, .tmp u]) {tmps : Array Value} {w : World} {g : Nat} {cs : Array Value} {d : TypeDesc} {b : Bool}
  (hp : tmps.getD p undef = .pointer (some ⟨g, 0, none⟩)) (hu' : tmps.getD u undef = .bool b) (hg : NBox w g ty cs)
  (hu : P.underlying ty = some d) (hd : (match d with | .struct _ | .array _ _ => true | _ => false) = true) (hi : (P.info? ty).map (·.size) = some cs.size) :
  (results fn tmps).run P w = .ok (.tuple #[.agg cs, .bool b]) w := by
 rw [results_cell_tmp h, hp, hu']
 simp [asAddr, run_loadVar_row w g ty ty cs (0, 0) d hg hu hd hi, Result.andThen]
theorem Ext.set6 {w W : World} (h : Ext w W) {B : Nat} (hB : w.heap.size ≤ B) (a b c d e f : Value) :
  Ext w ((((((W.setCell ⟨B, 0, none⟩ a).setCell ⟨B, 1, none⟩ b).setCell ⟨B, 2, none⟩ c).setCell ⟨B, 3, none⟩ d).setCell ⟨B, 4, none⟩ e).setCell ⟨B, 5, none⟩ f) :=
 Below.setCell (Below.setCell (Below.setCell (Below.setCell (Below.setCell (Below.setCell h (p := ⟨B, 0, none⟩) hB _) (p := ⟨B, 1, none⟩) hB _) (p := ⟨B, 2, none⟩) hB _) (p := ⟨B, 3, none⟩) hB _) (p := ⟨B, 4, none⟩) hB _) (p := ⟨B, 5, none⟩) hB _
theorem NBox.set6 {W : World} {B : Nat} {t : TypeId} {x0 x1 x2 x3 x4 x5 : Value} (h : NBox W B t #[x0, x1, x2, x3, x4, x5]) (a b c d e f : Value) :
  NBox ((((((W.setCell ⟨B, 0, none⟩ a).setCell ⟨B, 1, none⟩ b).setCell ⟨B, 2, none⟩ c).setCell ⟨B, 3, none⟩ d).setCell ⟨B, 4, none⟩ e).setCell ⟨B, 5, none⟩ f) B t #[a, b, c, d, e, f] := by
 have := (((((h.set 0 a).set 1 b).set 2 c).set 3 d).set 4 e).set 5 f
 simpa using this
theorem NBox.far6 {W : World} {B B' : Nat} {t : TypeId} {cs : Array Value} (h : NBox W B t cs) (hne : B ≠ B') (a b c d e f : Value) :
  NBox ((((((W.setCell ⟨B', 0, none⟩ a).setCell ⟨B', 1, none⟩ b).setCell ⟨B', 2, none⟩ c).setCell ⟨B', 3, none⟩ d).setCell ⟨B', 4, none⟩ e).setCell ⟨B', 5, none⟩ f) B t cs :=
 (((((h.other (p := ⟨B', 0, none⟩) hne a).other (p := ⟨B', 1, none⟩) hne b).other (p := ⟨B', 2, none⟩) hne c).other (p := ⟨B', 3, none⟩) hne d).other (p := ⟨B', 4, none⟩) hne e).other (p := ⟨B', 5, none⟩) hne f
theorem info26 : (Try.prog.info? 26).map (·.size) = some 6 := by kernel_rfl

set_option maxRecDepth 100000 in
set_option maxHeartbeats 2000000 in
theorem at_any (t : Nd) (v : Value) (p : List Int) (q : Value) (w : World) (hr : t.rd w v) (hq : RdS w 1 p.length (p.map (Value.int .i64)) q) : Calls Try.prog 56 #[v, q] w (Ret w fun r w' => RdO w' (t.at? p) r) := by
 obtain ⟨A, qc, rfl, _, q2, q3, q4⟩ := hq
 have hq : RdS w 1 p.length (p.map (Value.int .i64)) (.slice A p.length qc) := ⟨A, qc, rfl, by simp, q2, q3, q4⟩
 obtain ⟨av, kv, rfl, i0, i1, hl, ht, hA, hK⟩ := Nd.rd_open hr
 unfold maxLen at q3
 obtain ⟨w1, hw1⟩ : ∃ w1, w.alloc (.cells #[.int .u64 t.id, .bool t.leaf, .string t.label, av, .string t.text, kv] 26) = w1 := ⟨_, rfl⟩
 obtain ⟨w0, hw0⟩ : ∃ w0, w1.alloc (.cells #[.int .u64 0, .bool false, .string ⟨#[]⟩, .slice none 0 0, .string ⟨#[]⟩, .slice none 0 0] 26) = w0 := ⟨_, rfl⟩
 have hE0 : Ext w w0 := by rw [← hw0, ← hw1]; exact ((Ext.refl w).alloc _).alloc _
 have hs1 : w1.heap.size = w.heap.size + 1 := by rw [← hw1]; simp
 have hb1 : NBox w0 w.heap.size 26 #[.int .u64 t.id, .bool t.leaf, .string t.label, av, .string t.text, kv] := by rw [← hw0, ← hw1]; exact (NBox.new w _ _).ext ((Ext.refl _).alloc _)
 have hb2 : NBox w0 (w.heap.size + 1) 26 #[.int .u64 0, .bool false, .string ⟨#[]⟩, .slice none 0 0, .string ⟨#[]⟩, .slice none 0 0] := by rw [← hw0, ← hs1]; exact NBox.new w1 _ _
 have H0 := Lib.hid (show (w.alloc (.cells #[.int .u64 t.id, .bool t.leaf, .string t.label, av, .string t.text, kv] 26)).alloc (.cells #[.int .u64 0, .bool false, .string ⟨#[]⟩, .slice none 0 0, .string ⟨#[]⟩, .slice none 0 0] 26) = w0 by rw [hw1, hw0])
 clear hw0 hw1 hs1
 obtain ⟨aA, ac, rfl, _⟩ := hA
 obtain ⟨kA, kc, rfl, _⟩ := hK
 go_enter Try.func56, Try.ntmps56
 go_wp2_with fail
 rw [H0.out]
 go_loopw [10] (fun s10 wr => ∃ (i : Nat) (k : Nd) (aA : Option Addr) (ac : Nat) (kA : Option Addr) (kc : Nat), s10 = .int .i64 i ∧ i ≤ p.length ∧ Hid (k.at? (p.drop i) = t.at? p) ∧ Ext w wr ∧
  k.rd w (.agg #[.int .u64 k.id, .bool k.leaf, .string k.label, .slice aA k.attrs.length ac, .string k.text, .slice kA k.kids.length kc]) ∧
  NBox wr w.heap.size 26 #[.int .u64 k.id, .bool k.leaf, .string k.label, .slice aA k.attrs.length ac, .string k.text, .slice kA k.kids.length kc] ∧
  NBox wr (w.heap.size + 1) 26 #[.int .u64 0, .bool false, .string ⟨#[]⟩, .slice none 0 0, .string ⟨#[]⟩, .slice none 0 0]) (fun i _ => p.length - (intOf i).toNat)
 case atStart => exact ⟨0, t, aA, ac, kA, kc, rfl, Nat.zero_le _, rfl, hE0, hr, hb1, hb2⟩
 case round =>
  clear hr hb1 hb2 hE0 i0 i1 hl ht
  obtain ⟨i, k, aA', ac', kA', kc', rfl, hi, HW, hE, hk, hb1, hb2⟩ := hrel
  obtain ⟨_, _, he, i0, i1, hl, ht, hA, ⟨_, _, he2, k1, k2, k3⟩⟩ := Nd.rd_open hk
  simp only [Value.agg.injEq, Array.mk.injEq, List.cons.injEq, and_true, true_and] at he
  obtain ⟨rfl, rfl⟩ := he
  simp only [Value.slice.injEq, true_and] at he2
  obtain ⟨rfl, rfl⟩ := he2
  have d0 : wr.cell? ⟨w.heap.size, 0, none⟩ = some (.int .u64 k.id) := hb1.cell 0
  have d1 : wr.cell? ⟨w.heap.size, 1, none⟩ = some (.bool k.leaf) := hb1.cell 1
  have d2 : wr.cell? ⟨w.heap.size, 2, none⟩ = some (.string k.label) := hb1.cell 2
  have d3 : wr.cell? ⟨w.heap.size, 3, none⟩ = some (.slice aA' k.attrs.length ac') := hb1.cell 3
  have d4 : wr.cell? ⟨w.heap.size, 4, none⟩ = some (.string k.text) := hb1.cell 4
  have d5 : wr.cell? ⟨w.heap.size, 5, none⟩ = some (.slice kA' k.kids.length kc') := hb1.cell 5
  have df0 := hb1.frozen 0; have df1 := hb1.frozen 1; have df2 := hb1.frozen 2; have df3 := hb1.frozen 3; have df4 := hb1.frozen 4; have df5 := hb1.frozen 5
  have g0 : wr.cell? ⟨w.heap.size + 1, 0, none⟩ = some (.int .u64 0) := hb2.cell 0
  have g1 : wr.cell? ⟨w.heap.size + 1, 1, none⟩ = some (.bool false) := hb2.cell 1
  have g2 : wr.cell? ⟨w.heap.size + 1, 2, none⟩ = some (.string ⟨#[]⟩) := hb2.cell 2
  have g3 : wr.cell? ⟨w.heap.size + 1, 3, none⟩ = some (.slice none 0 0) := hb2.cell 3
  have g4 : wr.cell? ⟨w.heap.size + 1, 4, none⟩ = some (.string ⟨#[]⟩) := hb2.cell 4
  have g5 : wr.cell? ⟨w.heap.size + 1, 5, none⟩ = some (.slice none 0 0) := hb2.cell 5
  have gf0 := hb2.frozen 0; have gf1 := hb2.frozen 1; have gf2 := hb2.frozen 2; have gf3 := hb2.frozen 3; have gf4 := hb2.frozen 4; have gf5 := hb2.frozen 5
  unfold maxLen at k2
  rcases Nat.lt_or_ge i p.length with hlt | hlt
  ·obtain ⟨x, hx⟩ : ∃ x, p[i]? = some x := ⟨_, List.getElem?_eq_getElem hlt⟩
   obtain ⟨b, off, _, he, hc⟩ := RdI_get hq hx
   simp only [Value.slice.injEq, true_and] at he
   obtain ⟨rfl, rfl⟩ := he
   replace hc := hE.cell hc
   have HD := Lib.hid (drop_at hx)
   have hx' := Lib.hid hx
   clear hx
   rcases Int.lt_or_le x 0 with hn | hn
   ·have HG : Hid (t.at? p = none) := by rw [← HW.out, HD.out, at_none (.inl hn)]; rfl
    clear HW HD
    go_wp2_with fail
    exact bodyPost_ret (results_node rfl rfl rfl (NBox.set6 hb2 _ _ _ _ _ _) Try.underlying26 rfl info26) rfl ⟨_, rfl, ⟨zeroV, by rw [HG.out]; rfl, by rw [HG.out]; exact zero_rd _⟩, hE.set6 (by omega) _ _ _ _ _ _⟩
   rcases Int.lt_or_le x k.kids.length with hn2 | hn2
   ·obtain ⟨m, rfl⟩ := Int.eq_ofNat_of_zero_le hn
    obtain ⟨kid, hy⟩ : ∃ y, k.kids[m]? = some y := ⟨_, List.getElem?_eq_getElem (by omega)⟩
    obtain ⟨kb, ko, rfl, ra⟩ := k3 (by intro h; rw [h] at hn2; simp at hn2; omega)
    obtain ⟨yA, ya, yK, yk, f0, f1, f2, f3, f4, f5, hY⟩ := rdKids_get ra hy
    replace f0 := hE.cell f0; replace f1 := hE.cell f1; replace f2 := hE.cell f2; replace f3 := hE.cell f3; replace f4 := hE.cell f4; replace f5 := hE.cell f5
    have HN : Hid (kid.at? (p.drop (i + 1)) = t.at? p) := by rw [← HW.out, HD.out, at_some (by omega) (by rw [Int.toNat_natCast]; exact hy)]; rfl
    clear HW HD hy ra
    go_wp2_with fail
    go_roundw
    case rel => exact ⟨i + 1, kid, yA, ya, yK, yk, by go_num, by omega, HN, hE.set6 (Nat.le_refl _) _ _ _ _ _ _, hY, NBox.set6 hb1 _ _ _ _ _ _, hb2.far6 (by omega) _ _ _ _ _ _⟩
    case measure => simp [intOf]; omega
   ·have HG : Hid (t.at? p = none) := by rw [← HW.out, HD.out, at_none (.inr hn2)]; rfl
    clear HW HD
    go_wp2_with fail
    exact bodyPost_ret (results_node rfl rfl rfl (NBox.set6 hb2 _ _ _ _ _ _) Try.underlying26 rfl info26) rfl ⟨_, rfl, ⟨zeroV, by rw [HG.out]; rfl, by rw [HG.out]; exact zero_rd _⟩, hE.set6 (by omega) _ _ _ _ _ _⟩
  ·have HG : Hid (t.at? p = some k) := by rw [← HW.out, List.drop_eq_nil_of_le hlt, at_nil]; rfl
   clear HW
   go_wp2_with fail
   exact bodyPost_ret (results_node rfl rfl rfl (NBox.set6 hb2 _ _ _ _ _ _) Try.underlying26 rfl info26) rfl ⟨_, rfl, ⟨_, by rw [HG.out]; rfl, by rw [HG.out]; exact Nd.rd_ext (hE.set6 (by omega) _ _ _ _ _ _) hk⟩, hE.set6 (by omega) _ _ _ _ _ _⟩
set_option maxRecDepth 100000 in
set_option maxHeartbeats 2000000 in
theorem at_old (t : Nd) (v : Value) (p : List Int) (q : Value) (wo w : World) (hWo : Ext wo w) (hr : t.rd wo v) (hq : RdS w 1 p.length (p.map (Value.int .i64)) q) : Calls Try.prog 56 #[v, q] w (Ret w fun r _ => RdO wo (t.at? p) r) := by
 obtain ⟨A, qc, rfl, _, q2, q3, q4⟩ := hq
 have hq : RdS w 1 p.length (p.map (Value.int .i64)) (.slice A p.length qc) := ⟨A, qc, rfl, by simp, q2, q3, q4⟩
 obtain ⟨av, kv, rfl, i0, i1, hl, ht, hA, hK⟩ := Nd.rd_open hr
 unfold maxLen at q3
 obtain ⟨w1, hw1⟩ : ∃ w1, w.alloc (.cells #[.int .u64 t.id, .bool t.leaf, .string t.label, av, .string t.text, kv] 26) = w1 := ⟨_, rfl⟩
 obtain ⟨w0, hw0⟩ : ∃ w0, w1.alloc (.cells #[.int .u64 0, .bool false, .string ⟨#[]⟩, .slice none 0 0, .string ⟨#[]⟩, .slice none 0 0] 26) = w0 := ⟨_, rfl⟩
 have hE0 : Ext w w0 := by rw [← hw0, ← hw1]; exact ((Ext.refl w).alloc _).alloc _
 have hs1 : w1.heap.size = w.heap.size + 1 := by rw [← hw1]; simp
 have hb1 : NBox w0 w.heap.size 26 #[.int .u64 t.id, .bool t.leaf, .string t.label, av, .string t.text, kv] := by rw [← hw0, ← hw1]; exact (NBox.new w _ _).ext ((Ext.refl _).alloc _)
 have hb2 : NBox w0 (w.heap.size + 1) 26 #[.int .u64 0, .bool false, .string ⟨#[]⟩, .slice none 0 0, .string ⟨#[]⟩, .slice none 0 0] := by rw [← hw0, ← hs1]; exact NBox.new w1 _ _
 have H0 := Lib.hid (show (w.alloc (.cells #[.int .u64 t.id, .bool t.leaf, .string t.label, av, .string t.text, kv] 26)).alloc (.cells #[.int .u64 0, .bool false, .string ⟨#[]⟩, .slice none 0 0, .string ⟨#[]⟩, .slice none 0 0] 26) = w0 by rw [hw1, hw0])
 clear hw0 hw1 hs1
 obtain ⟨aA, ac, rfl, _⟩ := hA
 obtain ⟨kA, kc, rfl, _⟩ := hK
 go_enter Try.func56, Try.ntmps56
 go_wp2_with fail
 rw [H0.out]
 go_loopw [10] (fun s10 wr => ∃ (i : Nat) (k : Nd) (aA : Option Addr) (ac : Nat) (kA : Option Addr) (kc : Nat), s10 = .int .i64 i ∧ i ≤ p.length ∧ Hid (k.at? (p.drop i) = t.at? p) ∧ Ext w wr ∧
  k.rd wo (.agg #[.int .u64 k.id, .bool k.leaf, .string k.label, .slice aA k.attrs.length ac, .string k.text, .slice kA k.kids.length kc]) ∧
  NBox wr w.heap.size 26 #[.int .u64 k.id, .bool k.leaf, .string k.label, .slice aA k.attrs.length ac, .string k.text, .slice kA k.kids.length kc] ∧
  NBox wr (w.heap.size + 1) 26 #[.int .u64 0, .bool false, .string ⟨#[]⟩, .slice none 0 0, .string ⟨#[]⟩, .slice none 0 0]) (fun i _ => p.length - (intOf i).toNat)
 case atStart => exact ⟨0, t, aA, ac, kA, kc, rfl, Nat.zero_le _, rfl, hE0, hr, hb1, hb2⟩
 case round =>
  clear hr hb1 hb2 hE0 i0 i1 hl ht
  obtain ⟨i, k, aA', ac', kA', kc', rfl, hi, HW, hE, hk, hb1, hb2⟩ := hrel
  obtain ⟨_, _, he, i0, i1, hl, ht, hA, ⟨_, _, he2, k1, k2, k3⟩⟩ := Nd.rd_open hk
  simp only [Value.agg.injEq, Array.mk.injEq, List.cons.injEq, and_true, true_and] at he
  obtain ⟨rfl, rfl⟩ := he
  simp only [Value.slice.injEq, true_and] at he2
  obtain ⟨rfl, rfl⟩ := he2
  have d0 : wr.cell? ⟨w.heap.size, 0, none⟩ = some (.int .u64 k.id) := hb1.cell 0
  have d1 : wr.cell? ⟨w.heap.size, 1, none⟩ = some (.bool k.leaf) := hb1.cell 1
  have d2 : wr.cell? ⟨w.heap.size, 2, none⟩ = some (.string k.label) := hb1.cell 2
  have d3 : wr.cell? ⟨w.heap.size, 3, none⟩ = some (.slice aA' k.attrs.length ac') := hb1.cell 3
  have d4 : wr.cell? ⟨w.heap.size, 4, none⟩ = some (.string k.text) := hb1.cell 4
  have d5 : wr.cell? ⟨w.heap.size, 5, none⟩ = some (.slice kA' k.kids.length kc') := hb1.cell 5
  have df0 := hb1.frozen 0; have df1 := hb1.frozen 1; have df2 := hb1.frozen 2; have df3 := hb1.frozen 3; have df4 := hb1.frozen 4; have df5 := hb1.frozen 5
  have g0 : wr.cell? ⟨w.heap.size + 1, 0, none⟩ = some (.int .u64 0) := hb2.cell 0
  have g1 : wr.cell? ⟨w.heap.size + 1, 1, none⟩ = some (.bool false) := hb2.cell 1
  have g2 : wr.cell? ⟨w.heap.size + 1, 2, none⟩ = some (.string ⟨#[]⟩) := hb2.cell 2
  have g3 : wr.cell? ⟨w.heap.size + 1, 3, none⟩ = some (.slice none 0 0) := hb2.cell 3
  have g4 : wr.cell? ⟨w.heap.size + 1, 4, none⟩ = some (.string ⟨#[]⟩) := hb2.cell 4
  have g5 : wr.cell? ⟨w.heap.size + 1, 5, none⟩ = some (.slice none 0 0) := hb2.cell 5
  have gf0 := hb2.frozen 0; have gf1 := hb2.frozen 1; have gf2 := hb2.frozen 2; have gf3 := hb2.frozen 3; have gf4 := hb2.frozen 4; have gf5 := hb2.frozen 5
  unfold maxLen at k2
  rcases Nat.lt_or_ge i p.length with hlt | hlt
  ·obtain ⟨x, hx⟩ : ∃ x, p[i]? = some x := ⟨_, List.getElem?_eq_getElem hlt⟩
   obtain ⟨b, off, _, he, hc⟩ := RdI_get hq hx
   simp only [Value.slice.injEq, true_and] at he
   obtain ⟨rfl, rfl⟩ := he
   replace hc := hE.cell hc
   have HD := Lib.hid (drop_at hx)
   have hx' := Lib.hid hx
   clear hx
   rcases Int.lt_or_le x 0 with hn | hn
   ·have HG : Hid (t.at? p = none) := by rw [← HW.out, HD.out, at_none (.inl hn)]; rfl
    clear HW HD
    go_wp2_with fail
    exact bodyPost_ret (results_node rfl rfl rfl (NBox.set6 hb2 _ _ _ _ _ _) Try.underlying26 rfl info26) rfl ⟨_, rfl, ⟨zeroV, by rw [HG.out]; rfl, by rw [HG.out]; exact zero_rd _⟩, hE.set6 (by omega) _ _ _ _ _ _⟩
   rcases Int.lt_or_le x k.kids.length with hn2 | hn2
   ·obtain ⟨m, rfl⟩ := Int.eq_ofNat_of_zero_le hn
    obtain ⟨kid, hy⟩ : ∃ y, k.kids[m]? = some y := ⟨_, List.getElem?_eq_getElem (by omega)⟩
    obtain ⟨kb, ko, rfl, ra⟩ := k3 (by intro h; rw [h] at hn2; simp at hn2; omega)
    obtain ⟨yA, ya, yK, yk, f0, f1, f2, f3, f4, f5, hY⟩ := rdKids_get ra hy
    replace f0 := (hWo.trans hE).cell f0; replace f1 := (hWo.trans hE).cell f1; replace f2 := (hWo.trans hE).cell f2; replace f3 := (hWo.trans hE).cell f3; replace f4 := (hWo.trans hE).cell f4; replace f5 := (hWo.trans hE).cell f5
    have HN : Hid (kid.at? (p.drop (i + 1)) = t.at? p) := by rw [← HW.out, HD.out, at_some (by omega) (by rw [Int.toNat_natCast]; exact hy)]; rfl
    clear HW HD hy ra
    go_wp2_with fail
    go_roundw
    case rel => exact ⟨i + 1, kid, yA, ya, yK, yk, by go_num, by omega, HN, hE.set6 (Nat.le_refl _) _ _ _ _ _ _, hY, NBox.set6 hb1 _ _ _ _ _ _, hb2.far6 (by omega) _ _ _ _ _ _⟩
    case measure => simp [intOf]; omega
   ·have HG : Hid (t.at? p = none) := by rw [← HW.out, HD.out, at_none (.inr hn2)]; rfl
    clear HW HD
    go_wp2_with fail
    exact bodyPost_ret (results_node rfl rfl rfl (NBox.set6 hb2 _ _ _ _ _ _) Try.underlying26 rfl info26) rfl ⟨_, rfl, ⟨zeroV, by rw [HG.out]; rfl, by rw [HG.out]; exact zero_rd _⟩, hE.set6 (by omega) _ _ _ _ _ _⟩
  ·have HG : Hid (t.at? p = some k) := by rw [← HW.out, List.drop_eq_nil_of_le hlt, at_nil]; rfl
   clear HW
   go_wp2_with fail
   exact bodyPost_ret (results_node rfl rfl rfl (NBox.set6 hb2 _ _ _ _ _ _) Try.underlying26 rfl info26) rfl ⟨_, rfl, ⟨_, by rw [HG.out]; rfl, by rw [HG.out]; exact hk⟩, hE.set6 (by omega) _ _ _ _ _ _⟩
end Go.Proofs.Ytofcbclokkjfjaa.Bw
namespace Go.Proofs.Ytofcbclokkjfjaa.Bw
open Go.RowKit
theorem NBox.drew {W : World} {B : Nat} {t : TypeId} {cs : Array Value} (h : NBox W B t cs) : NBox W.drew B t cs := h
theorem NBox.drewN {W : World} {B : Nat} {t : TypeId} {cs : Array Value} (h : NBox W B t cs) (n : Nat) : NBox (W.drewN n) B t cs := h

set_option maxRecDepth 100000 in
set_option maxHeartbeats 2000000 in
theorem rat_old (t : Nd) (v : Value) (p : List Int) (q : Value) (wo w : World) (hWo : Ext wo w) (hr : t.rd wo v) (hq : RdS w 1 p.length (p.map (Value.int .i64)) q) : Calls Try.prog 49 #[v, q] w (Ret w fun r _ => RdO wo (t.at? p) r) := by
 obtain ⟨A, qc, rfl, _, q2, q3, q4⟩ := hq
 have hq : RdS w 1 p.length (p.map (Value.int .i64)) (.slice A p.length qc) := ⟨A, qc, rfl, by simp, q2, q3, q4⟩
 obtain ⟨av, kv, rfl, i0, i1, hl, ht, hA, hK⟩ := Nd.rd_open hr
 unfold maxLen at q3
 obtain ⟨w1, hw1⟩ : ∃ w1, w.alloc (.cells #[.int .u64 t.id, .bool t.leaf, .string t.label, av, .string t.text, kv] 26) = w1 := ⟨_, rfl⟩
 obtain ⟨w0, hw0⟩ : ∃ w0, w1.alloc (.cells #[.int .u64 0, .bool false, .string ⟨#[]⟩, .slice none 0 0, .string ⟨#[]⟩, .slice none 0 0] 26) = w0 := ⟨_, rfl⟩
 have hE0 : Ext w w0 := by rw [← hw0, ← hw1]; exact ((Ext.refl w).alloc _).alloc _
 have hs1 : w1.heap.size = w.heap.size + 1 := by rw [← hw1]; simp
 have hb1 : NBox w0 w.heap.size 26 #[.int .u64 t.id, .bool t.leaf, .string t.label, av, .string t.text, kv] := by rw [← hw0, ← hw1]; exact (NBox.new w _ _).ext ((Ext.refl _).alloc _)
 have hb2 : NBox w0 (w.heap.size + 1) 26 #[.int .u64 0, .bool false, .string ⟨#[]⟩, .slice none 0 0, .string ⟨#[]⟩, .slice none 0 0] := by rw [← hw0, ← hs1]; exact NBox.new w1 _ _
 have H0 := Lib.hid (show (w.alloc (.cells #[.int .u64 t.id, .bool t.leaf, .string t.label, av, .string t.text, kv] 26)).alloc (.cells #[.int .u64 0, .bool false, .string ⟨#[]⟩, .slice none 0 0, .string ⟨#[]⟩, .slice none 0 0] 26) = w0 by rw [hw1, hw0])
 clear hw0 hw1 hs1
 obtain ⟨aA, ac, rfl, _⟩ := hA
 obtain ⟨kA, kc, rfl, _⟩ := hK
 go_enter Try.func49, Try.ntmps49
 go_wp2_with fail
 rw [H0.out]
 go_loopw [6] (fun s6 wr => ∃ (i : Nat) (k : Nd) (aA : Option Addr) (ac : Nat) (kA : Option Addr) (kc : Nat), s6 = .int .i64 i ∧ i ≤ p.length ∧ Hid (k.at? (p.drop i) = t.at? p) ∧ Ext w wr ∧
  k.rd wo (.agg #[.int .u64 k.id, .bool k.leaf, .string k.label, .slice aA k.attrs.length ac, .string k.text, .slice kA k.kids.length kc]) ∧
  NBox wr w.heap.size 26 #[.int .u64 k.id, .bool k.leaf, .string k.label, .slice aA k.attrs.length ac, .string k.text, .slice kA k.kids.length kc] ∧
  NBox wr (w.heap.size + 1) 26 #[.int .u64 0, .bool false, .string ⟨#[]⟩, .slice none 0 0, .string ⟨#[]⟩, .slice none 0 0]) (fun i _ => p.length - (intOf i).toNat)
 case atStart => exact ⟨0, t, aA, ac, kA, kc, rfl, Nat.zero_le _, rfl, hE0, hr, hb1, hb2⟩
 case round =>
  clear hr hb1 hb2 hE0 i0 i1 hl ht
  obtain ⟨i, k, aA', ac', kA', kc', rfl, hi, HW, hE, hk, hb1, hb2⟩ := hrel
  obtain ⟨_, _, he, i0, i1, hl, ht, hA, ⟨_, _, he2, k1, k2, k3⟩⟩ := Nd.rd_open hk
  simp only [Value.agg.injEq, Array.mk.injEq, List.cons.injEq, and_true, true_and] at he
  obtain ⟨rfl, rfl⟩ := he
  simp only [Value.slice.injEq, true_and] at he2
  obtain ⟨rfl, rfl⟩ := he2
  have d0 : wr.cell? ⟨w.heap.size, 0, none⟩ = some (.int .u64 k.id) := hb1.cell 0
  have d1 : wr.cell? ⟨w.heap.size, 1, none⟩ = some (.bool k.leaf) := hb1.cell 1
  have d2 : wr.cell? ⟨w.heap.size, 2, none⟩ = some (.string k.label) := hb1.cell 2
  have d3 : wr.cell? ⟨w.heap.size, 3, none⟩ = some (.slice aA' k.attrs.length ac') := hb1.cell 3
  have d4 : wr.cell? ⟨w.heap.size, 4, none⟩ = some (.string k.text) := hb1.cell 4
  have d5 : wr.cell? ⟨w.heap.size, 5, none⟩ = some (.slice kA' k.kids.length kc') := hb1.cell 5
  have df0 := hb1.frozen 0; have df1 := hb1.frozen 1; have df2 := hb1.frozen 2; have df3 := hb1.frozen 3; have df4 := hb1.frozen 4; have df5 := hb1.frozen 5
  have g0 : wr.cell? ⟨w.heap.size + 1, 0, none⟩ = some (.int .u64 0) := hb2.cell 0
  have g1 : wr.cell? ⟨w.heap.size + 1, 1, none⟩ = some (.bool false) := hb2.cell 1
  have g2 : wr.cell? ⟨w.heap.size + 1, 2, none⟩ = some (.string ⟨#[]⟩) := hb2.cell 2
  have g3 : wr.cell? ⟨w.heap.size + 1, 3, none⟩ = some (.slice none 0 0) := hb2.cell 3
  have g4 : wr.cell? ⟨w.heap.size + 1, 4, none⟩ = some (.string ⟨#[]⟩) := hb2.cell 4
  have g5 : wr.cell? ⟨w.heap.size + 1, 5, none⟩ = some (.slice none 0 0) := hb2.cell 5
  have gf0 := hb2.frozen 0; have gf1 := hb2.frozen 1; have gf2 := hb2.frozen 2; have gf3 := hb2.frozen 3; have gf4 := hb2.frozen 4; have gf5 := hb2.frozen 5
  unfold maxLen at k2
  rcases Nat.lt_or_ge i p.length with hlt | hlt
  ·obtain ⟨x, hx⟩ : ∃ x, p[i]? = some x := ⟨_, List.getElem?_eq_getElem hlt⟩
   obtain ⟨b, off, _, he, hc⟩ := RdI_get hq hx
   simp only [Value.slice.injEq, true_and] at he
   obtain ⟨rfl, rfl⟩ := he
   replace hc := hE.cell hc
   have HD := Lib.hid (drop_at hx)
   have hx' := Lib.hid hx
   have q1 : (0 : Int) ≤ (i : Int) := by omega
   have q2 : (i : Int) < (p.length : Int) := by omega
   clear hx
   rcases Int.lt_or_le x 0 with hn | hn
   ·have HG : Hid (t.at? p = none) := by rw [← HW.out, HD.out, at_none (.inl hn)]; rfl
    clear HW HD
    go_wp2_with fail
    go_quiet (fail)
    go_wp2_with fail
    exact bodyPost_ret (results_node rfl rfl rfl (NBox.set6 (NBox.drewN hb2 _) _ _ _ _ _ _) Try.underlying26 rfl info26) rfl ⟨_, rfl, ⟨zeroV, by rw [HG.out]; rfl, by rw [HG.out]; exact zero_rd _⟩, (hE.drewN _).set6 (by omega) _ _ _ _ _ _⟩
   rcases Int.lt_or_le x k.kids.length with hn2 | hn2
   ·obtain ⟨m, rfl⟩ := Int.eq_ofNat_of_zero_le hn
    obtain ⟨kid, hy⟩ : ∃ y, k.kids[m]? = some y := ⟨_, List.getElem?_eq_getElem (by omega)⟩
    obtain ⟨kb, ko, rfl, ra⟩ := k3 (by intro h; rw [h] at hn2; simp at hn2; omega)
    obtain ⟨yA, ya, yK, yk, f0, f1, f2, f3, f4, f5, hY⟩ := rdKids_get ra hy
    replace f0 := (hWo.trans hE).cell f0; replace f1 := (hWo.trans hE).cell f1; replace f2 := (hWo.trans hE).cell f2; replace f3 := (hWo.trans hE).cell f3; replace f4 := (hWo.trans hE).cell f4; replace f5 := (hWo.trans hE).cell f5
    have HN : Hid (kid.at? (p.drop (i + 1)) = t.at? p) := by rw [← HW.out, HD.out, at_some (by omega) (by rw [Int.toNat_natCast]; exact hy)]; rfl
    have q3 : (m : Int) < (k.kids.length : Int) := by omega
    clear HW HD hy ra
    go_wp2_with fail
    go_quiet (fail)
    go_wp2_with fail
    generalize hw4 : wr.drewN _ = w4
    have E4 : Ext wr w4 := by rw [← hw4]; exact (Ext.refl _).drewN _
    replace hE := hE.trans E4; replace hb1 := hb1.ext E4; replace hb2 := hb2.ext E4
    replace d0 := E4.cell d0; replace d1 := E4.cell d1; replace d2 := E4.cell d2; replace d3 := E4.cell d3; replace d4 := E4.cell d4; replace d5 := E4.cell d5
    replace f0 := E4.cell f0; replace f1 := E4.cell f1; replace f2 := E4.cell f2; replace f3 := E4.cell f3; replace f4 := E4.cell f4; replace f5 := E4.cell f5; replace hc := E4.cell hc
    replace df0 := hb1.frozen 0; replace df1 := hb1.frozen 1; replace df2 := hb1.frozen 2; replace df3 := hb1.frozen 3; replace df4 := hb1.frozen 4; replace df5 := hb1.frozen 5
    clear hw4 E4
    go_still_tail 8, (by kernel_rfl)
    change wpList _ _ _ _ _ w4.drew
    go_wp2_with fail
    go_roundw
    case rel => exact ⟨i + 1, kid, yA, ya, yK, yk, by go_num, by omega, HN, (hE.set6 (Nat.le_refl _) _ _ _ _ _ _).drew, hY, (NBox.set6 hb1 _ _ _ _ _ _).drew, (hb2.far6 (by omega) _ _ _ _ _ _).drew⟩
    case measure => simp [intOf]; omega
   ·have HG : Hid (t.at? p = none) := by rw [← HW.out, HD.out, at_none (.inr hn2)]; rfl
    clear HW HD
    go_wp2_with fail
    go_quiet (fail)
    go_wp2_with fail
    exact bodyPost_ret (results_node rfl rfl rfl (NBox.set6 (NBox.drewN hb2 _) _ _ _ _ _ _) Try.underlying26 rfl info26) rfl ⟨_, rfl, ⟨zeroV, by rw [HG.out]; rfl, by rw [HG.out]; exact zero_rd _⟩, (hE.drewN _).set6 (by omega) _ _ _ _ _ _⟩
  ·have HG : Hid (t.at? p = some k) := by rw [← HW.out, List.drop_eq_nil_of_le hlt, at_nil]; rfl
   clear HW
   go_wp2_with fail
   exact bodyPost_ret (results_node rfl rfl rfl (NBox.set6 hb2 _ _ _ _ _ _) Try.underlying26 rfl info26) rfl ⟨_, rfl, ⟨_, by rw [HG.out]; rfl, by rw [HG.out]; exact hk⟩, hE.set6 (by omega) _ _ _ _ _ _⟩

end Go.Proofs.Ytofcbclokkjfjaa.Bw
