/- Chapter 10: LxBoth turned to this seat. (Printed by gsyport.py.) -/
import Derived.Test.YtkimbpeapolcbaaSyLxRun
import Derived.Test.YtkimbpeapolcbaaSyLxLast
import Derived.WalkLawsBesides
import Derived.StillTailTactics
namespace Go.Proofs.Ytkimbpeapolcbaa.Sy
open Go.RowKit Go.Proofs.Ytkimbpeapolcbaa.Bw Go.Proofs.Ytkimbpeapolcbaa.Bs

def bN : List Pc → List Pc → Int
 | [], b => rN b
 | a, [] => rN a
 | a, b => min (rN a) (rN b)
def bSome (a b : List Pc) : Bool := decide (0 < a.length) || decide (0 < b.length)
theorem bN_nil (b : List Pc) : bN [] b = rN b := by cases b <;> rfl
theorem bN_nil' (a : List Pc) : bN a [] = rN a := by cases a <;> rfl
theorem bN_cons (p q : Pc) (r s : List Pc) : bN (p :: r) (q :: s) = min (rN (p :: r)) (rN (q :: s)) := rfl
theorem bN_le {a b : List Pc} {C : Nat} (ha : RB C a) (hb : RB C b) : 0 ≤ bN a b ∧ bN a b ≤ (C : Int) ∧ (a ≠ [] → bN a b ≤ rN a) ∧ (b ≠ [] → bN a b ≤ rN b) := by
 have h1 := ha.n
 have h2 := hb.n
 cases a with
 | nil => rw [bN_nil]; exact ⟨h2.1, h2.2, fun h => absurd rfl h, fun _ => Int.le_refl _⟩
 | cons p r =>
  cases b with
  | nil => rw [bN_nil']; exact ⟨h1.1, h1.2, fun _ => Int.le_refl _, fun h => absurd rfl h⟩
  | cons q s => rw [bN_cons]; exact ⟨by omega, by omega, fun _ => by omega, fun _ => by omega⟩
theorem RB.take' {C : Nat} {n : Int} {l : List Pc} (h : RB C l) (h0 : 0 ≤ n) (hn : l ≠ [] → n ≤ rN l) : RB C (rTake n l) := by
 cases l with
 | nil => exact h
 | cons p r => exact h.take h0 (hn (by simp))
theorem results_tmp4 {fn : Func} {t u v x : Tmp} (h : fn.results = #[.tmp t, .tmp u, .tmp v, .tmp x]) (tmps : Array Value) (P : Program) (w : World) :
  (results fn tmps).run P w = .ok (.tuple #[tmps.getD t undef, tmps.getD u undef, tmps.getD v undef, tmps.getD x undef]) w := by
 simp [results, h]
end Go.Proofs.Ytkimbpeapolcbaa.Sy
namespace Go.Proofs.Ytkimbpeapolcbaa.Sy
open Go.RowKit Go.Proofs.Ytkimbpeapolcbaa.Bw Go.Proofs.Ytkimbpeapolcbaa.Bs

theorem onLast_snoc (f : Pc → Pc) : ∀ (l : List Pc) (p : Pc), onLast f (l ++ [p]) = l ++ [f p]
 | [], p => rfl
 | [x], p => rfl
 | x :: y :: r, p => by
  show x :: onLast f ((y :: r) ++ [p]) = _
  rw [onLast_snoc f (y :: r) p]; rfl
theorem owns_set3 {W : World} {base e size g n cap : Nat} {xs : List Value} (h : W.ownsRow base e size (.slice (some ⟨g, 0, none⟩) n cap) n xs) (i : Nat) (u : Value) : (W.setCell ⟨g, i, none⟩ u).ownsRow base e size (.slice (some ⟨g, 0, none⟩) n cap) n (xs.set i u) := by
 refine ⟨by simpa using h.1, ?_⟩
 rcases h.2 with ⟨h1, _⟩ | ⟨g', cap', cur, hv, hb, hg, h4, h5, h6, h7⟩
 ·cases h1
 ·have hv0 := hv
  simp only [Value.slice.injEq, Option.some.injEq, Addr.mk.injEq, true_and, and_true] at hv0
  obtain ⟨rfl, rfl⟩ := hv0
  refine .inr ⟨g, cap, cur.setIfInBounds i u, rfl, hb, ?_, h4, h5, by simpa using h6, ?_⟩
  ·simp [World.setCell, Array.getElem?_modify, hg]
  ·rw [Array.toList_setIfInBounds, List.take_set, h7]
theorem owns_cell3 {W : World} {base e size g n cap : Nat} {xs : List Value} (h : W.ownsRow base e size (.slice (some ⟨g, 0, none⟩) n cap) n xs) {i : Nat} {u : Value} (hu : xs[i]? = some u) : W.cell? ⟨g, i, none⟩ = some u ∧ W.frozen? ⟨g, i, none⟩ = false := by
 refine ⟨by have := h.cells (g := g) rfl i u hu; rwa [Addr.add_lit, Nat.zero_add] at this, ?_⟩
 rcases h.2 with ⟨h1, _⟩ | ⟨g', cap', cur, hv, _, hg, _⟩
 ·cases h1
 ·simp only [Value.slice.injEq, Option.some.injEq, Addr.mk.injEq, true_and, and_true] at hv
  obtain ⟨rfl, rfl⟩ := hv
  simp [World.frozen?, hg]
theorem vals_last (l : List Pc) (p : Pc) (j : Nat) (hj : j < 3) : (pcVals (l ++ [p]))[l.length * 3 + j]? = (Pc.vals p)[j]? := by
 rw [pcVals_append, List.getElem?_append_right (by rw [pcVals_len]; omega), pcVals_len]
 have e : l.length * 3 + j - l.length * 3 = j := by omega
 rw [e]
 simp [pcVals]
theorem vals_set (l : List Pc) (p q : Pc) (j : Nat) (u : Value) (h : (Pc.vals p).set j u = Pc.vals q) : (pcVals (l ++ [p])).set (l.length * 3 + j) u = pcVals (l ++ [q]) := by
 rw [pcVals_append, pcVals_append, List.set_append_right _ _ (by rw [pcVals_len]; omega), pcVals_len]
 congr 1
 have e : l.length * 3 + j - l.length * 3 = j := by omega
 rw [e]
 simpa [pcVals] using h
theorem last_drops {m : Mk} {C : Int} (hC : 0 ≤ C) (h : ∀ p ∈ m.l, 0 ≤ p.drop ∧ p.drop ≤ C) : ∀ p ∈ m.last.l, 0 ≤ p.drop ∧ p.drop ≤ C := by
 unfold Mk.last
 split
 ·intro p hp
  rcases List.mem_append.1 hp with h1 | h1
  ·exact h p h1
  ·obtain rfl := List.mem_singleton.1 h1
   exact ⟨Int.le_refl _, hC⟩
 ·exact h
set_option maxRecDepth 100000 in
set_option maxHeartbeats 2000000 in
theorem drop_any (m : Mk) (B base : Nat) (lv : Value) (n : Int) (w : World) (h : MkAt w B base m lv) (hlen : m.l.length ≤ 1000000) (hd : ∀ p ∈ m.l, 0 ≤ p.drop ∧ p.drop ≤ 1000000000000) (hn0 : n ≤ 1000000000000) : Calls Try.prog 62 #[.pointer (some ⟨B, 0, none⟩), .int .i64 n] w fun e w' => ∃ lv', e = .returned (.tuple #[]) ∧ MkAt w' B base (m.drop n) lv' ∧ Fr w w' (fun k => k = B ∨ lv.ownBlock = some k) ∧ (∀ k, lv'.ownBlock = some k → lv.ownBlock = some k ∨ w.heap.size ≤ k) := by
 rcases Int.lt_or_le 0 n with hn | hn
 ·have t1 : decide (0 < n) = true := decide_eq_true hn
  have hc := last_any m B base lv w h hlen
  have hdl := last_drops (by omega) hd
  have e0 : m.drop n = ⟨onLast (fun p => { p with drop := p.drop + n }) m.last.l, m.last.keep⟩ := if_pos hn
  rw [e0]
  obtain ⟨l', p, hlp⟩ : ∃ l' p, m.last.l = l' ++ [p] := ⟨_, _, (List.dropLast_concat_getLast (Mk.last_ne m)).symm⟩
  obtain ⟨p0, p1⟩ := hdl p (by rw [hlp]; simp)
  rw [hlp, onLast_snoc]
  generalize hmk : m.last = M at *
  clear e0 hdl hd h
  have HLP := Lib.hid hlp
  have hll : (M.l.length - 1) * 3 = l'.length * 3 := by rw [hlp]; simp
  have HLL := Lib.hid hll
  clear hlp hll
  go_enter Try.func62, Try.ntmps62
  go_wp2_with fail
  refine hc.mono ?_
  clear hc
  rintro e w1 ⟨g, lv', rfl, ⟨N1, O1, hB, hbs⟩, hob, hgn, F1⟩
  rw [HLL.out]
  obtain ⟨g', cap, rfl, hgb, _⟩ := World.ownsRow.form O1 (by rw [HLP.out]; simp)
  obtain rfl : g' = g := by simpa [Value.ownBlock] using hob
  rw [HLP.out] at O1
  obtain ⟨c1, c2⟩ := owns_cell3 O1 (i := l'.length * 3 + 1) (u := .int .i64 p.drop) (by rw [vals_last _ _ _ (by omega)]; rfl)
  go_wp2_with fail
  refine bodyPost_end (results_none rfl _ _ _) rfl ?_
  have O2 := owns_set3 O1 (l'.length * 3 + 1) (.int .i64 (p.drop + n))
  rw [vals_set l' p { p with drop := p.drop + n } 1 _ rfl] at O2
  refine ⟨_, rfl, ⟨(Below.heap_setCell w1 ⟨g', l'.length * 3 + 1, none⟩ _ B (by show B ≠ g'; omega)).trans N1, ?_, hB, by simpa using hbs⟩, ?_, fun k h => by rw [← Option.some.inj h]; exact hgn⟩
  ·have el : ((l' ++ [{ p with drop := p.drop + n }] : List Pc)).length = (l' ++ [p]).length := by simp
   rw [el, ← HLP.out]
   rw [← HLP.out] at O2
   exact O2
  ·refine Fr.new (F1.mono (fun k h => .inl h) |>.trans ((Fr.setCell w1 g' _ _).mono (fun k h => ?_)))
   subst h
   exact hgn.elim (fun h => .inl (.inr h)) (fun h => .inr h)
 ·have t1 : decide (0 < n) = false := decide_eq_false (by omega)
  have e : m.drop n = m := if_neg (by omega)
  rw [e]
  go_enter Try.func62, Try.ntmps62
  go_wp2_with fail
  refine bodyPost_end (results_none rfl _ _ _) rfl ?_
  exact ⟨lv, rfl, h, Fr.refl _ _, fun k h => .inl h⟩
theorem last_puts {m : Mk} {C : Nat} (h : ∀ p ∈ m.l, p.put.size ≤ C) : ∀ p ∈ m.last.l, p.put.size ≤ C := by
 unfold Mk.last
 split
 ·intro p hp
  rcases List.mem_append.1 hp with h1 | h1
  ·exact h p h1
  ·obtain rfl := List.mem_singleton.1 h1
   exact Nat.zero_le _
 ·exact h
set_option maxRecDepth 100000 in
set_option maxHeartbeats 2000000 in
theorem put_any (m : Mk) (B base : Nat) (lv : Value) (s : ByteArray) (w : World) (h : MkAt w B base m lv) (hlen : m.l.length ≤ 1000000) (hd : ∀ p ∈ m.l, p.put.size ≤ 1000000000000) (hs : s.size ≤ 1000000000000) : Calls Try.prog 58 #[.pointer (some ⟨B, 0, none⟩), .string s] w fun e w' => ∃ lv', e = .returned (.tuple #[]) ∧ MkAt w' B base (m.put s) lv' ∧ Fr w w' (fun k => k = B ∨ lv.ownBlock = some k) ∧ (∀ k, lv'.ownBlock = some k → lv.ownBlock = some k ∨ w.heap.size ≤ k) := by
 rcases Nat.eq_zero_or_pos s.size with hn | hn
 ·have hl := str_empty hn
  have e : m.put s = m := if_neg (by omega)
  rw [e]
  go_enter Try.func58, Try.ntmps58
  go_wp2_with fail
  refine bodyPost_end (results_none rfl _ _ _) rfl ?_
  exact ⟨lv, rfl, h, Fr.refl _ _, fun k h => .inl h⟩
 ·have hl := str_some hn
  have hc := last_any m B base lv w h hlen
  have hdl := last_puts hd
  have e0 : m.put s = ⟨onLast (fun p => { p with put := p.put ++ s }) m.last.l, m.last.keep⟩ := if_pos hn
  rw [e0]
  obtain ⟨l', p, hlp⟩ : ∃ l' p, m.last.l = l' ++ [p] := ⟨_, _, (List.dropLast_concat_getLast (Mk.last_ne m)).symm⟩
  have p0 := hdl p (by rw [hlp]; simp)
  rw [hlp, onLast_snoc]
  generalize hmk : m.last = M at *
  clear e0 hdl hd h
  have HLP := Lib.hid hlp
  have hll : (M.l.length - 1) * 3 = l'.length * 3 := by rw [hlp]; simp
  have HLL := Lib.hid hll
  clear hlp hll
  go_enter Try.func58, Try.ntmps58
  go_wp2_with fail
  refine hc.mono ?_
  clear hc
  rintro e w1 ⟨g, lv', rfl, ⟨N1, O1, hB, hbs⟩, hob, hgn, F1⟩
  rw [HLL.out]
  obtain ⟨g', cap, rfl, hgb, _⟩ := World.ownsRow.form O1 (by rw [HLP.out]; simp)
  obtain rfl : g' = g := by simpa [Value.ownBlock] using hob
  rw [HLP.out] at O1
  obtain ⟨c1, c2⟩ := owns_cell3 O1 (i := l'.length * 3 + 2) (u := .string p.put) (by rw [vals_last _ _ _ (by omega)]; rfl)
  go_wp2_with fail
  refine bodyPost_end (results_none rfl _ _ _) rfl ?_
  have O2 := owns_set3 O1 (l'.length * 3 + 2) (.string (p.put ++ s))
  rw [vals_set l' p { p with put := p.put ++ s } 2 _ rfl] at O2
  refine ⟨_, rfl, ⟨(Below.heap_setCell w1 ⟨g', l'.length * 3 + 2, none⟩ _ B (by show B ≠ g'; omega)).trans N1, ?_, hB, by simpa using hbs⟩, ?_, fun k h => by rw [← Option.some.inj h]; exact hgn⟩
  ·have el : ((l' ++ [{ p with put := p.put ++ s }] : List Pc)).length = (l' ++ [p]).length := by simp
   rw [el, ← HLP.out]
   rw [← HLP.out] at O2
   exact O2
  ·refine Fr.new (F1.mono (fun k h => .inl h) |>.trans ((Fr.setCell w1 g' _ _).mono (fun k h => ?_)))
   subst h
   exact hgn.elim (fun h => .inl (.inr h)) (fun h => .inr h)
end Go.Proofs.Ytkimbpeapolcbaa.Sy
namespace Go.Proofs.Ytkimbpeapolcbaa.Sy
open Go.RowKit Go.Proofs.Ytkimbpeapolcbaa.Bw Go.Proofs.Ytkimbpeapolcbaa.Bs

/-- Bounds of a maker's row. -/
def Bnd (C : Nat) (l : List Pc) : Prop := ∀ p ∈ l, p.put.size ≤ C ∧ 0 ≤ p.drop ∧ p.drop ≤ (C : Int)
theorem onLast_len (f : Pc → Pc) : ∀ l : List Pc, (onLast f l).length = l.length
 | [] => rfl
 | [_] => rfl
 | x :: y :: r => by
  show (onLast f (y :: r)).length + 1 = _
  rw [onLast_len f (y :: r)]; rfl
theorem onLast_all {P : Pc → Prop} {f : Pc → Pc} (hf : ∀ p, P p → P (f p)) : ∀ l : List Pc, (∀ p ∈ l, P p) → ∀ p ∈ onLast f l, P p
 | [], _ => fun p hp => absurd hp List.not_mem_nil
 | [x], h => fun p hp => by obtain rfl := List.mem_singleton.1 hp; exact hf x (h x (List.mem_singleton.2 rfl))
 | x :: y :: r, h => fun p hp => by
  rcases List.mem_cons.1 hp with h1 | h1
  ·rw [h1]; exact h x List.mem_cons_self
  ·exact onLast_all hf (y :: r) (fun q hq => h q (List.mem_cons_of_mem _ hq)) p h1
theorem Mk.last_len (m : Mk) : m.last.l.length ≤ m.l.length + 1 := by
 unfold Mk.last
 split
 ·simp
 ·simp
theorem Mk.put_len (m : Mk) (s : ByteArray) : (m.put s).l.length ≤ m.l.length + 1 := by
 unfold Mk.put
 split
 ·show (onLast _ _).length ≤ _
  rw [onLast_len]; exact m.last_len
 ·exact Nat.le_succ _
theorem put_drops {m : Mk} {C : Int} (s : ByteArray) (hC : 0 ≤ C) (h : ∀ p ∈ m.l, 0 ≤ p.drop ∧ p.drop ≤ C) : ∀ p ∈ (m.put s).l, 0 ≤ p.drop ∧ p.drop ≤ C := by
 unfold Mk.put
 split
 ·exact onLast_all (P := fun p => 0 ≤ p.drop ∧ p.drop ≤ C) (f := fun p => { p with put := p.put ++ s }) (fun p hp => hp) _ (last_drops hC h)
 ·exact h
set_option maxRecDepth 100000 in
set_option maxHeartbeats 2000000 in
theorem piece_any (m : Mk) (B base : Nat) (lv : Value) (p : Pc) (w : World) (h : MkAt w B base m lv) (hlen : m.l.length ≤ 100000) (hd : Bnd 1000000000000 m.l) (hs : p.put.size ≤ 1000000000000) (hn0 : p.drop ≤ 1000000000000) (hk : 0 ≤ m.keep ∧ m.keep ≤ 1000000000000) (hk2 : 0 ≤ p.keep ∧ p.keep ≤ 1000000000000) (hall : m.keep + p.keep ≤ 1000000000000) : Calls Try.prog 79 #[.pointer (some ⟨B, 0, none⟩), .agg #[.int .i64 p.keep, .int .i64 p.drop, .string p.put]] w fun e w' => ∃ lv', e = .returned (.tuple #[]) ∧ MkAt w' B base (m.piece p) lv' ∧ Fr w w' (fun k => k = B ∨ lv.ownBlock = some k) ∧ (∀ k, lv'.ownBlock = some k → lv.ownBlock = some k ∨ w.heap.size ≤ k) := by
 obtain ⟨hN, hO, hB, hbs⟩ := h
 have hlt : ∀ g, lv.ownBlock = some g → g < w.heap.size := fun g hg => (hO.lt g hg).2
 have c0 := hN.cell 0
 have c1 := hN.cell 1
 have f1 := hN.frozen 1
 go_enter Try.func79, Try.ntmps79
 go_wp2_with fail
 obtain ⟨w1, hw1⟩ : ∃ W, w.alloc (.cells #[.int .i64 p.keep, .int .i64 p.drop, .string p.put] 35) = W := ⟨_, rfl⟩
 have E1 : Ext w w1 := by rw [← hw1]; exact (Ext.refl w).alloc _
 have P1 : NBox w1 w.heap.size 35 #[.int .i64 p.keep, .int .i64 p.drop, .string p.put] := by rw [← hw1]; exact NBox.new w 35 _
 have N1 := NBox.ext E1 hN
 have O1 := owns_ext E1 hO
 have b1 := N1.cell 1
 have g1 := N1.frozen 1
 have p0 := P1.cell 0
 have p1 := P1.cell 1
 have p2 := P1.cell 2
 rw [hw1]
 clear hw1 c0 c1 f1 hN hO
 have wK : IntKind.i64.wrap (m.keep + p.keep) = m.keep + p.keep := by rw [IntKind.wrap_i64]; omega
 go_still_tail 9, (by kernel_rfl)
 change wpList _ _ _ _ _ w1.drew
 obtain ⟨w2, hw2⟩ : ∃ W, w1.drew = W := ⟨_, rfl⟩
 have E2 : Ext w w2 := by rw [← hw2]; exact E1.drew
 have hd2 : Ext w1 w2 := by rw [← hw2]; exact (Ext.refl w1).drew
 replace N1 := N1.ext hd2
 replace P1 := P1.ext hd2
 replace O1 := owns_ext hd2 O1
 have b1 := N1.cell 1
 have g1 := N1.frozen 1
 have p0 := P1.cell 0
 have p1 := P1.cell 1
 have p2 := P1.cell 2
 rw [hw2]
 clear hw2 hd2
 have hBB : ¬ w.heap.size = B := by omega
 go_wp2_with fail
 obtain ⟨w3, hw3⟩ : ∃ W, w2.setCell ⟨B, 1, none⟩ (.int .i64 (m.keep + p.keep)) = W := ⟨_, rfl⟩
 have F3 : Fr w w3 (fun k => k = B ∨ lv.ownBlock = some k) := (Fr.of_ext E2 _).trans (by rw [← hw3]; exact (Fr.setCell w2 B _ _).mono (fun k h => .inl h))
 have N3 : NBox w3 B 76 #[lv, .int .i64 (m.keep + p.keep)] := by rw [← hw3]; exact N1.set 1 _
 have f23 : Fr w2 w3 (fun k => k = B) := by rw [← hw3]; exact Fr.setCell w2 B _ _
 have O3 := owns_fr f23 O1 (fun g hg h0 => absurd (owns_base O1 g hg) (by omega))
 have P3 := P1.fr f23 (by omega)
 have s3 := f23.size
 have s2 := E2.size
 have hc := put_any ⟨m.l, m.keep + p.keep⟩ B base lv p.put w3 ⟨N3, O3, hB, by omega⟩ (by show m.l.length ≤ _; omega) (fun q hq => (hd q hq).1) hs
 have q2 := P3.cell 2
 rw [hw3]
 clear hw3 p0 p1 p2 b1 g1
 go_wp2_with fail
 go_at_call 58
 refine hc.mono ?_
 clear hc
 rintro e w4 ⟨lv4, rfl, ⟨N4, O4, hB4, hs4⟩, F4, G4⟩
 have P4 := P3.fr F4 (fun h0 => h0.elim hBB (fun h1 => Nat.lt_irrefl _ (hlt _ h1)))
 have hc := drop_any (Mk.put ⟨m.l, m.keep + p.keep⟩ p.put) B base lv4 p.drop w4 ⟨N4, O4, hB4, hs4⟩ (by have := Mk.put_len ⟨m.l, m.keep + p.keep⟩ p.put; simp only at this; omega) (put_drops p.put (by omega) (fun q hq => (hd q hq).2)) hn0
 have q1 := P4.cell 1
 have s4 := F4.size
 clear q2
 go_wp2_with fail
 go_at_call 62
 refine hc.mono ?_
 clear hc
 rintro e w5 ⟨lv5, rfl, M5, F5, G5⟩
 go_wp2_with fail
 refine bodyPost_end (results_none rfl _ _ _) rfl ?_
 refine ⟨lv5, rfl, M5, ?_, ?_⟩
 ·refine Fr.new ((F3.trans F4).mono (fun k h => .inl h) |>.trans (F5.mono (fun k h => ?_)))
  rcases h with h | h
  ·exact .inl (.inl h)
  ·rcases G4 k h with h | h
   ·exact .inl (.inr h)
   ·exact .inr (by omega)
 ·intro k h
  rcases G5 k h with h | h
  ·rcases G4 k h with h | h
   ·exact .inl h
   ·exact .inr (by omega)
  ·exact .inr (by omega)
end Go.Proofs.Ytkimbpeapolcbaa.Sy
namespace Go.Proofs.Ytkimbpeapolcbaa.Sy
open Go.RowKit Go.Proofs.Ytkimbpeapolcbaa.Bw Go.Proofs.Ytkimbpeapolcbaa.Bs

/-- What a maker has at most. -/
structure MB (n C : Nat) (m : Mk) : Prop where
 len : m.l.length ≤ n
 bnd : Bnd C m.l
 k0 : 0 ≤ m.keep
 k1 : m.keep ≤ (C : Int)
theorem MB.zero : MB 0 0 ⟨[], 0⟩ := ⟨Nat.le_refl _, fun _ hp => absurd hp List.not_mem_nil, Int.le_refl _, Int.le_refl _⟩
theorem MB.mono {n C n' C' : Nat} {m : Mk} (h : MB n C m) (hn : n ≤ n') (hC : C ≤ C') : MB n' C' m := ⟨Nat.le_trans h.len hn, fun p hp => by obtain ⟨a, b, c⟩ := h.bnd p hp; exact ⟨Nat.le_trans a hC, b, by omega⟩, h.k0, by have := h.k1; omega⟩
theorem Mk.last_keep (m : Mk) (h : 0 ≤ m.keep) : 0 ≤ m.last.keep ∧ m.last.keep ≤ m.keep := by
 unfold Mk.last
 split
 ·exact ⟨Int.le_refl _, h⟩
 ·exact ⟨h, Int.le_refl _⟩
theorem Mk.last_bnd {m : Mk} {C : Nat} (h : Bnd C m.l) : Bnd C m.last.l := fun p hp => ⟨last_puts (fun q hq => (h q hq).1) p hp, last_drops (by omega) (fun q hq => (h q hq).2) p hp⟩
theorem Mk.drop_len (m : Mk) (n : Int) : (m.drop n).l.length ≤ m.l.length + 1 := by
 unfold Mk.drop
 split
 ·show (onLast _ _).length ≤ _
  rw [onLast_len]; exact m.last_len
 ·exact Nat.le_succ _
theorem MB.piece {n C K : Nat} {m : Mk} (h : MB n C m) {p : Pc} (p1 : 0 ≤ p.keep) (p2 : p.keep ≤ (K : Int)) (_p3 : 0 ≤ p.drop) (p4 : p.drop ≤ (K : Int)) (hs : p.put.size ≤ K) : MB (n + 2) (C + K) (m.piece p) := by
 obtain ⟨h1, h2, h3, h4⟩ := h
 -- behind the put: still with the old drops
 have hput : Bnd (C + K) (Mk.put ⟨m.l, m.keep + p.keep⟩ p.put).l ∧ (∀ q ∈ (Mk.put ⟨m.l, m.keep + p.keep⟩ p.put).l, q.drop ≤ (C : Int)) ∧ 0 ≤ (Mk.put ⟨m.l, m.keep + p.keep⟩ p.put).keep ∧ (Mk.put ⟨m.l, m.keep + p.keep⟩ p.put).keep ≤ m.keep + p.keep := by
  unfold Mk.put
  split
  ·refine ⟨?_, ?_, ?_⟩
   ·have hb := Mk.last_bnd (m := ⟨m.l, m.keep + p.keep⟩) (C := C) h2
    intro q hq
    have := onLast_all (P := fun _ => True) (f := fun p' => { p' with put := p'.put ++ p.put }) (fun _ _ => trivial) _ (fun _ _ => trivial) q hq
    clear this
    have key : ∀ (l : List Pc), Bnd (C) l → Bnd (C + K) (onLast (fun p' => { p' with put := p'.put ++ p.put }) l) := by
     intro l
     induction l with
     | nil => intro _ q hq; exact absurd hq List.not_mem_nil
     | cons x r ih =>
      intro hl
      cases r with
      | nil =>
       intro q hq
       obtain rfl := List.mem_singleton.1 hq
       obtain ⟨a, b, c⟩ := hl x (List.mem_singleton.2 rfl)
       exact ⟨by show (x.put ++ p.put).size ≤ _; rw [ByteArray.size_append]; omega, b, by show x.drop ≤ _; omega⟩
      | cons y r =>
       intro q hq
       rcases List.mem_cons.1 hq with e | e
       ·rw [e]
        obtain ⟨a, b, c⟩ := hl x List.mem_cons_self
        exact ⟨by omega, b, by omega⟩
       ·exact ih (fun q hq => hl q (List.mem_cons_of_mem _ hq)) q e
    exact key _ hb q hq
   ·exact onLast_all (P := fun q => q.drop ≤ (C : Int)) (f := fun p' => { p' with put := p'.put ++ p.put }) (fun _ h => h) _ (fun q hq => ((Mk.last_bnd (m := ⟨m.l, m.keep + p.keep⟩) (C := C) h2) q hq).2.2)
   ·exact Mk.last_keep ⟨m.l, m.keep + p.keep⟩ (by show 0 ≤ m.keep + p.keep; omega)
  ·exact ⟨fun q hq => by obtain ⟨a, b, c⟩ := h2 q hq; exact ⟨by omega, b, by omega⟩, fun q hq => (h2 q hq).2.2, by show 0 ≤ m.keep + p.keep; omega, Int.le_refl _⟩
 obtain ⟨q1, q2, q3, q4⟩ := hput
 have hl1 := Mk.put_len ⟨m.l, m.keep + p.keep⟩ p.put
 have hl2 := Mk.drop_len (Mk.put ⟨m.l, m.keep + p.keep⟩ p.put) p.drop
 refine ⟨?_, ?_, ?_, ?_⟩
 ·show (Mk.drop (Mk.put ⟨m.l, m.keep + p.keep⟩ p.put) p.drop).l.length ≤ _
  simp only at hl1
  omega
 ·show Bnd _ (Mk.drop (Mk.put ⟨m.l, m.keep + p.keep⟩ p.put) p.drop).l
  generalize Mk.put ⟨m.l, m.keep + p.keep⟩ p.put = M at *
  unfold Mk.drop
  split
  ·intro q hq
   have hb : ∀ q ∈ M.last.l, q.put.size ≤ C + K ∧ 0 ≤ q.drop ∧ q.drop ≤ (C : Int) := fun q hq =>
    ⟨(Mk.last_bnd q1 q hq).1, last_drops (by omega) (fun q hq => ⟨(q1 q hq).2.1, q2 q hq⟩) q hq⟩
   have key : ∀ (l : List Pc), (∀ q ∈ l, q.put.size ≤ C + K ∧ 0 ≤ q.drop ∧ q.drop ≤ (C : Int)) → Bnd (C + K) (onLast (fun p' => { p' with drop := p'.drop + p.drop }) l) := by
    intro l
    induction l with
    | nil => intro _ q hq; exact absurd hq List.not_mem_nil
    | cons x r ih =>
     intro hl
     cases r with
     | nil =>
      intro q hq
      obtain rfl := List.mem_singleton.1 hq
      obtain ⟨a, b, c⟩ := hl x (List.mem_singleton.2 rfl)
      exact ⟨by show x.put.size ≤ _; omega, by show 0 ≤ x.drop + p.drop; omega, by show x.drop + p.drop ≤ _; omega⟩
     | cons y r =>
      intro q hq
      rcases List.mem_cons.1 hq with e | e
      ·rw [e]
       obtain ⟨a, b, c⟩ := hl x List.mem_cons_self
       exact ⟨by omega, b, by omega⟩
      ·exact ih (fun q hq => hl q (List.mem_cons_of_mem _ hq)) q e
   exact key _ hb q hq
  ·intro q hq
   obtain ⟨a, b, c⟩ := q1 q hq
   exact ⟨by omega, b, by omega⟩
 ·show 0 ≤ (Mk.drop (Mk.put ⟨m.l, m.keep + p.keep⟩ p.put) p.drop).keep
  unfold Mk.drop
  split
  ·exact (Mk.last_keep _ q3).1
  ·exact q3
 ·show (Mk.drop (Mk.put ⟨m.l, m.keep + p.keep⟩ p.put) p.drop).keep ≤ _
  unfold Mk.drop
  split
  ·exact Int.le_trans (Mk.last_keep _ q3).2 (by omega)
  ·exact Int.le_trans q4 (by omega)
theorem pcsOk_at : ∀ {l : List Pc} {n i : Nat} {p : Pc}, pcsOk n l = true → l[i]? = some p → pcOk p = true ∧ p.put.size ≤ 1048576
 | [], _, _, _, _, h => by simp at h
 | x :: r, n, 0, p, hr, h => by
  simp at h; obtain rfl := h
  simp only [pcsOk, Bool.and_eq_true, decide_eq_true_eq] at hr
  exact ⟨hr.1.1, by omega⟩
 | x :: r, n, i + 1, p, hr, h => by
  simp only [pcsOk, Bool.and_eq_true, decide_eq_true_eq] at hr
  exact pcsOk_at hr.2 (by simpa using h)
theorem right_at {l : List Pc} (h : pcsRight l = true) : l.length ≤ 4096 ∧ ∀ {i : Nat} {p : Pc}, l[i]? = some p → pcOk p = true ∧ p.put.size ≤ 1048576 := by
 simp only [pcsRight, Bool.and_eq_true, decide_eq_true_eq] at h
 exact ⟨h.1, fun hp => pcsOk_at h.2 hp⟩
theorem owns_mono {W : World} {base base' e size n : Nat} {v : Value} {xs : List Value} (h : W.ownsRow base e size v n xs) (hb : base' ≤ base) : W.ownsRow base' e size v n xs := by
 refine ⟨h.1, ?_⟩
 rcases h.2 with h2 | ⟨g, cap, cur, h1, h2, r⟩
 ·exact .inl h2
 ·exact .inr ⟨g, cap, cur, h1, Nat.le_trans hb h2, r⟩
theorem pieces_at (m : Mk) {l : List Pc} {i : Nat} {p : Pc} (h : l[i]? = some p) : m.pieces (l.drop i) = (m.piece p).pieces (l.drop (i + 1)) := by
 rw [drop_at h]; rfl
set_option maxRecDepth 100000 in
set_option maxHeartbeats 2000000 in
theorem norm_any (l : List Pc) (v : Value) (w : World) (h : RdP w l v) (hok : pcsRight l = true) : Calls Try.prog 47 #[v] w fun e w' => ∃ v', e = .returned v' ∧ w'.ownsRow w.heap.size 35 3 v' (normL l).length (pcVals (normL l)) ∧ Ext w w' := by
 obtain ⟨hlen, hat⟩ := right_at hok
 obtain ⟨A, c, rfl, a1, a2, a3⟩ := h
 unfold maxLen at a2
 go_enter Try.func47, Try.ntmps47
 go_wp2_with fail
 obtain ⟨w1, hw1⟩ : ∃ W, w.alloc (.cells #[.slice none 0 0, .int .i64 0] 76) = W := ⟨_, rfl⟩
 have E1 : Ext w w1 := by rw [← hw1]; exact (Ext.refl w).alloc _
 have N1 : NBox w1 w.heap.size 76 #[.slice none 0 0, .int .i64 0] := by rw [← hw1]; exact NBox.new w 76 _
 have z1 : w.heap.size + 1 ≤ w1.heap.size := by have := N1.lt; omega
 rw [hw1]
 clear hw1
 go_loopw [8] (fun s8 wr => ∃ (i : Nat) (m : Mk) (lv : Value), s8 = .int .i64 i ∧ i ≤ l.length ∧ MkAt wr w.heap.size (w.heap.size + 1) m lv ∧ MB (i * 2) (i * 1048576) m ∧ Hid (m.pieces (l.drop i) = Mk.pieces ⟨[], 0⟩ l) ∧ Ext w wr) (fun i _ => l.length - (intOf i).toNat)
 case atStart => exact ⟨0, ⟨[], 0⟩, .slice none 0 0, rfl, Nat.zero_le _, ⟨N1, ⟨rfl, .inl ⟨rfl, rfl⟩⟩, Nat.lt_succ_self _, z1⟩, MB.zero, Lib.hid rfl, E1⟩
 case round =>
  obtain ⟨i, m, lv, rfl, hi, hM, hB, HW, hE⟩ := hrel
  rcases Nat.lt_or_ge i l.length with hlt | hlt
  ·obtain ⟨p, hp⟩ : ∃ p, l[i]? = some p := ⟨_, List.getElem?_eq_getElem hlt⟩
   obtain ⟨ba, oa, rfl, ra⟩ := a3 (by omega)
   obtain ⟨e1, e2, e3, e4⟩ := rdPcs_at (rdPcs_ext hE ra) hp
   obtain ⟨k1, k2⟩ := hat hp
   have HD := Lib.hid (HW.out.symm.trans (pieces_at m hp))
   have q1 : (0 : Int) ≤ (i : Int) := by omega
   have q2 : (i : Int) < (l.length : Int) := by omega
   unfold maxLen at e4
   simp only [pcOk, Bool.and_eq_true, decide_eq_true_eq] at k1
   obtain ⟨⟨⟨p1, p2⟩, p3⟩, p4⟩ := k1
   have hB' := hB.piece (K := 1048576) p1 p2 p3 p4 k2
   have hb1 := hB.len
   have hb2 := hB.bnd
   have hb3 := hB.k0
   have hb4 := hB.k1
   obtain ⟨N0, O0, x0, x1⟩ := hM
   clear hp ra a3 HW
   go_wp2_with fail
   have fe : Fr wr (wr.alloc (.cells #[.int .i64 p.keep, .int .i64 p.drop, .string p.put] 35)) (fun _ => False) := Fr.of_ext ((Ext.refl wr).alloc _) _
   refine (piece_any m _ _ lv p _ ⟨N0.fr fe (by simp), owns_fr fe O0 (by simp), x0, Nat.le_trans x1 fe.size⟩ (by omega) (fun q hq => by obtain ⟨a, b, c⟩ := hb2 q hq; exact ⟨by omega, b, by omega⟩) (by omega) (by omega) ⟨hb3, by omega⟩ ⟨p1, by omega⟩ (by omega)).mono ?_
   rintro e w3 ⟨lv3, rfl, M3, F3, G3⟩
   go_wp2_with fail
   go_roundw
   case rel => exact ⟨i + 1, _, lv3, by go_num, by omega, M3, hB'.mono (by omega) (by omega), Lib.hid HD.out.symm, Fr.ext (hE.alloc _) F3 (fun k hk => by
    rcases hk with hk | hk
    ·omega
    ·have := owns_base O0 k hk; omega)⟩
   case measure => simp [intOf]; omega
  ·have HF : Hid (m = Mk.pieces ⟨[], 0⟩ l) := by rw [← HW.out, List.drop_eq_nil_of_le hlt]; exact Lib.hid rfl
   obtain ⟨N0, O0, x0, x1⟩ := hM
   have n0 := N0.cell 0
   clear HW
   go_wp2_with fail
   go_ret
   have e0 : normL l = m.l := by rw [HF.out]; rfl
   rw [e0]
   exact ⟨lv, rfl, owns_mono O0 (Nat.le_succ _), hE⟩
end Go.Proofs.Ytkimbpeapolcbaa.Sy
