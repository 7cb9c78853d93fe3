/- Chapter 10: LxBoth turned to this seat. (Printed by gsyport.py.) -/
import Derived.Test.YtkimbpeapolcbaaSyLxRun
import Derived.Test.YtkimbpeapolcbaaSyLxLast
import Derived.WalkLawsBesides
namespace Go.Proofs.Ytkimbpeapolcbaa.Sy
open Go.RowKit Go.Proofs.Ytkimbpeapolcbaa.Bw Go.Proofs.Ytkimbpeapolcbaa.Bs

def bN : List Pc → List Pc → Int
  | [], b => rN b
  | a, [] => rN a
  | a, b => min (rN a) (rN b)
def bSome (a b : List Pc) : Bool := decide (0 < a.length) || decide (0 < b.length)
theorem bN_nil (b : List Pc) : bN [] b = rN b := by cases b <;> rfl
theorem bN_nil' (a : List Pc) : bN a [] = rN a := by cases a <;> rfl
theorem bN_cons (p q : Pc) (r s : List Pc) : bN (p :: r) (q :: s) = min (rN (p :: r)) (rN (q :: s)) := rfl
theorem bN_le {a b : List Pc} {C : Nat} (ha : RB C a) (hb : RB C b) : 0 ≤ bN a b ∧ bN a b ≤ (C : Int) ∧ (a ≠ [] → bN a b ≤ rN a) ∧ (b ≠ [] → bN a b ≤ rN b) := by
  have h1 := ha.n
  have h2 := hb.n
  cases a with
  | nil => rw [bN_nil]; exact ⟨h2.1, h2.2, fun h => absurd rfl h, fun _ => Int.le_refl _⟩
  | cons p r =>
    cases b with
    | nil => rw [bN_nil']; exact ⟨h1.1, h1.2, fun _ => Int.le_refl _, fun h => absurd rfl h⟩
    | cons q s => rw [bN_cons]; exact ⟨by omega, by omega, fun _ => by omega, fun _ => by omega⟩
theorem RB.take' {C : Nat} {n : Int} {l : List Pc} (h : RB C l) (h0 : 0 ≤ n) (hn : l ≠ [] → n ≤ rN l) : RB C (rTake n l) := by
  cases l with
  | nil => exact h
  | cons p r => exact h.take h0 (hn (by simp))
theorem results_tmp4 {fn : Func} {t u v x : Tmp} (h : fn.results = #[.tmp t, .tmp u, .tmp v, .tmp x]) (tmps : Array Value) (P : Program) (w : World) :
    (results fn tmps).run P w = .ok (.tuple #[tmps.getD t undef, tmps.getD u undef, tmps.getD v undef, tmps.getD x undef]) w := by
  simp [results, h]
end Go.Proofs.Ytkimbpeapolcbaa.Sy
namespace Go.Proofs.Ytkimbpeapolcbaa.Sy
open Go.RowKit Go.Proofs.Ytkimbpeapolcbaa.Bw Go.Proofs.Ytkimbpeapolcbaa.Bs

theorem onLast_snoc (f : Pc → Pc) : ∀ (l : List Pc) (p : Pc), onLast f (l ++ [p]) = l ++ [f p]
  | [], p => rfl
  | [x], p => rfl
  | x :: y :: r, p => by
    show x :: onLast f ((y :: r) ++ [p]) = _
    rw [onLast_snoc f (y :: r) p]; rfl
theorem owns_set3 {W : World} {base e size g n cap : Nat} {xs : List Value} (h : W.ownsRow base e size (.slice (some ⟨g, 0, none⟩) n cap) n xs) (i : Nat) (u : Value) : (W.setCell ⟨g, i, none⟩ u).ownsRow base e size (.slice (some ⟨g, 0, none⟩) n cap) n (xs.set i u) := by
  refine ⟨by simpa using h.1, ?_⟩
  rcases h.2 with ⟨h1, _⟩ | ⟨g', cap', cur, hv, hb, hg, h4, h5, h6, h7⟩
  · cases h1
  · have hv0 := hv
    simp only [Value.slice.injEq, Option.some.injEq, Addr.mk.injEq, true_and, and_true] at hv0
    obtain ⟨rfl, rfl⟩ := hv0
    refine .inr ⟨g, cap, cur.setIfInBounds i u, rfl, hb, ?_, h4, h5, by simpa using h6, ?_⟩
    · simp [World.setCell, Array.getElem?_modify, hg]
    · rw [Array.toList_setIfInBounds, List.take_set, h7]
theorem owns_cell3 {W : World} {base e size g n cap : Nat} {xs : List Value} (h : W.ownsRow base e size (.slice (some ⟨g, 0, none⟩) n cap) n xs) {i : Nat} {u : Value} (hu : xs[i]? = some u) : W.cell? ⟨g, i, none⟩ = some u ∧ W.frozen? ⟨g, i, none⟩ = false := by
  refine ⟨by have := h.cells (g := g) rfl i u hu; rwa [Addr.add_lit, Nat.zero_add] at this, ?_⟩
  rcases h.2 with ⟨h1, _⟩ | ⟨g', cap', cur, hv, _, hg, _⟩
  · cases h1
  · simp only [Value.slice.injEq, Option.some.injEq, Addr.mk.injEq, true_and, and_true] at hv
    obtain ⟨rfl, rfl⟩ := hv
    simp [World.frozen?, hg]
theorem vals_last (l : List Pc) (p : Pc) (j : Nat) (hj : j < 3) : (pcVals (l ++ [p]))[l.length * 3 + j]? = (Pc.vals p)[j]? := by
  rw [pcVals_append, List.getElem?_append_right (by rw [pcVals_len]; omega), pcVals_len]
  have e : l.length * 3 + j - l.length * 3 = j := by omega
  rw [e]
  simp [pcVals]
theorem vals_set (l : List Pc) (p q : Pc) (j : Nat) (u : Value) (h : (Pc.vals p).set j u = Pc.vals q) : (pcVals (l ++ [p])).set (l.length * 3 + j) u = pcVals (l ++ [q]) := by
  rw [pcVals_append, pcVals_append, List.set_append_right _ _ (by rw [pcVals_len]; omega), pcVals_len]
  congr 1
  have e : l.length * 3 + j - l.length * 3 = j := by omega
  rw [e]
  simpa [pcVals] using h
theorem last_drops {m : Mk} {C : Int} (hC : 0 ≤ C) (h : ∀ p ∈ m.l, 0 ≤ p.drop ∧ p.drop ≤ C) : ∀ p ∈ m.last.l, 0 ≤ p.drop ∧ p.drop ≤ C := by
  unfold Mk.last
  split
  · intro p hp
    rcases List.mem_append.1 hp with h1 | h1
    · exact h p h1
    · obtain rfl := List.mem_singleton.1 h1
      exact ⟨Int.le_refl _, hC⟩
  · exact h
set_option maxRecDepth 100000 in
set_option maxHeartbeats 2000000 in
theorem drop_any (m : Mk) (B base : Nat) (lv : Value) (n : Int) (w : World) (h : MkAt w B base m lv) (hlen : m.l.length ≤ 1000000) (hd : ∀ p ∈ m.l, 0 ≤ p.drop ∧ p.drop ≤ 1000000000000) (hn0 : n ≤ 1000000000000) : Calls Try.prog 62 #[.pointer (some ⟨B, 0, none⟩), .int .i64 n] w fun e w' => ∃ lv', e = .returned (.tuple #[]) ∧ MkAt w' B base (m.drop n) lv' ∧ Fr w w' (fun k => k = B ∨ lv.ownBlock = some k) ∧ (∀ k, lv'.ownBlock = some k → lv.ownBlock = some k ∨ w.heap.size ≤ k) := by
  rcases Int.lt_or_le 0 n with hn | hn
  · have t1 : decide (0 < n) = true := decide_eq_true hn
    have hc := last_any m B base lv w h hlen
    have hdl := last_drops (by omega) hd
    have e0 : m.drop n = ⟨onLast (fun p => { p with drop := p.drop + n }) m.last.l, m.last.keep⟩ := if_pos hn
    rw [e0]
    obtain ⟨l', p, hlp⟩ : ∃ l' p, m.last.l = l' ++ [p] := ⟨_, _, (List.dropLast_concat_getLast (Mk.last_ne m)).symm⟩
    obtain ⟨p0, p1⟩ := hdl p (by rw [hlp]; simp)
    rw [hlp, onLast_snoc]
    generalize hmk : m.last = M at *
    clear e0 hdl hd h
    have HLP := Lib.hid hlp
    have hll : (M.l.length - 1) * 3 = l'.length * 3 := by rw [hlp]; simp
    have HLL := Lib.hid hll
    clear hlp hll
    go_enter Try.func62, Try.ntmps62
    go_wp2_with fail
    refine hc.mono ?_
    clear hc
    rintro e w1 ⟨g, lv', rfl, ⟨N1, O1, hB, hbs⟩, hob, hgn, F1⟩
    rw [HLL.out]
    obtain ⟨g', cap, rfl, hgb, _⟩ := World.ownsRow.form O1 (by rw [HLP.out]; simp)
    obtain rfl : g' = g := by simpa [Value.ownBlock] using hob
    rw [HLP.out] at O1
    obtain ⟨c1, c2⟩ := owns_cell3 O1 (i := l'.length * 3 + 1) (u := .int .i64 p.drop) (by rw [vals_last _ _ _ (by omega)]; rfl)
    go_wp2_with fail
    refine bodyPost_end (results_none rfl _ _ _) rfl ?_
    have O2 := owns_set3 O1 (l'.length * 3 + 1) (.int .i64 (p.drop + n))
    rw [vals_set l' p { p with drop := p.drop + n } 1 _ rfl] at O2
    refine ⟨_, rfl, ⟨(Below.heap_setCell w1 ⟨g', l'.length * 3 + 1, none⟩ _ B (by show B ≠ g'; omega)).trans N1, ?_, hB, by simpa using hbs⟩, ?_, fun k h => by rw [← Option.some.inj h]; exact hgn⟩
    · have el : ((l' ++ [{ p with drop := p.drop + n }] : List Pc)).length = (l' ++ [p]).length := by simp
      rw [el, ← HLP.out]
      rw [← HLP.out] at O2
      exact O2
    · refine Fr.new (F1.mono (fun k h => .inl h) |>.trans ((Fr.setCell w1 g' _ _).mono (fun k h => ?_)))
      subst h
      exact hgn.elim (fun h => .inl (.inr h)) (fun h => .inr h)
  · have t1 : decide (0 < n) = false := decide_eq_false (by omega)
    have e : m.drop n = m := if_neg (by omega)
    rw [e]
    go_enter Try.func62, Try.ntmps62
    go_wp2_with fail
    refine bodyPost_end (results_none rfl _ _ _) rfl ?_
    exact ⟨lv, rfl, h, Fr.refl _ _, fun k h => .inl h⟩
theorem last_puts {m : Mk} {C : Nat} (h : ∀ p ∈ m.l, p.put.size ≤ C) : ∀ p ∈ m.last.l, p.put.size ≤ C := by
  unfold Mk.last
  split
  · intro p hp
    rcases List.mem_append.1 hp with h1 | h1
    · exact h p h1
    · obtain rfl := List.mem_singleton.1 h1
      exact Nat.zero_le _
  · exact h
set_option maxRecDepth 100000 in
set_option maxHeartbeats 2000000 in
theorem put_any (m : Mk) (B base : Nat) (lv : Value) (s : ByteArray) (w : World) (h : MkAt w B base m lv) (hlen : m.l.length ≤ 1000000) (hd : ∀ p ∈ m.l, p.put.size ≤ 1000000000000) (hs : s.size ≤ 1000000000000) : Calls Try.prog 58 #[.pointer (some ⟨B, 0, none⟩), .string s] w fun e w' => ∃ lv', e = .returned (.tuple #[]) ∧ MkAt w' B base (m.put s) lv' ∧ Fr w w' (fun k => k = B ∨ lv.ownBlock = some k) ∧ (∀ k, lv'.ownBlock = some k → lv.ownBlock = some k ∨ w.heap.size ≤ k) := by
  rcases Nat.eq_zero_or_pos s.size with hn | hn
  · have hl := str_empty hn
    have e : m.put s = m := if_neg (by omega)
    rw [e]
    go_enter Try.func58, Try.ntmps58
    go_wp2_with fail
    refine bodyPost_end (results_none rfl _ _ _) rfl ?_
    exact ⟨lv, rfl, h, Fr.refl _ _, fun k h => .inl h⟩
  · have hl := str_some hn
    have hc := last_any m B base lv w h hlen
    have hdl := last_puts hd
    have e0 : m.put s = ⟨onLast (fun p => { p with put := p.put ++ s }) m.last.l, m.last.keep⟩ := if_pos hn
    rw [e0]
    obtain ⟨l', p, hlp⟩ : ∃ l' p, m.last.l = l' ++ [p] := ⟨_, _, (List.dropLast_concat_getLast (Mk.last_ne m)).symm⟩
    have p0 := hdl p (by rw [hlp]; simp)
    rw [hlp, onLast_snoc]
    generalize hmk : m.last = M at *
    clear e0 hdl hd h
    have HLP := Lib.hid hlp
    have hll : (M.l.length - 1) * 3 = l'.length * 3 := by rw [hlp]; simp
    have HLL := Lib.hid hll
    clear hlp hll
    go_enter Try.func58, Try.ntmps58
    go_wp2_with fail
    refine hc.mono ?_
    clear hc
    rintro e w1 ⟨g, lv', rfl, ⟨N1, O1, hB, hbs⟩, hob, hgn, F1⟩
    rw [HLL.out]
    obtain ⟨g', cap, rfl, hgb, _⟩ := World.ownsRow.form O1 (by rw [HLP.out]; simp)
    obtain rfl : g' = g := by simpa [Value.ownBlock] using hob
    rw [HLP.out] at O1
    obtain ⟨c1, c2⟩ := owns_cell3 O1 (i := l'.length * 3 + 2) (u := .string p.put) (by rw [vals_last _ _ _ (by omega)]; rfl)
    go_wp2_with fail
    refine bodyPost_end (results_none rfl _ _ _) rfl ?_
    have O2 := owns_set3 O1 (l'.length * 3 + 2) (.string (p.put ++ s))
    rw [vals_set l' p { p with put := p.put ++ s } 2 _ rfl] at O2
    refine ⟨_, rfl, ⟨(Below.heap_setCell w1 ⟨g', l'.length * 3 + 2, none⟩ _ B (by show B ≠ g'; omega)).trans N1, ?_, hB, by simpa using hbs⟩, ?_, fun k h => by rw [← Option.some.inj h]; exact hgn⟩
    · have el : ((l' ++ [{ p with put := p.put ++ s }] : List Pc)).length = (l' ++ [p]).length := by simp
      rw [el, ← HLP.out]
      rw [← HLP.out] at O2
      exact O2
    · refine Fr.new (F1.mono (fun k h => .inl h) |>.trans ((Fr.setCell w1 g' _ _).mono (fun k h => ?_)))
      subst h
      exact hgn.elim (fun h => .inl (.inr h)) (fun h => .inr h)
end Go.Proofs.Ytkimbpeapolcbaa.Sy
