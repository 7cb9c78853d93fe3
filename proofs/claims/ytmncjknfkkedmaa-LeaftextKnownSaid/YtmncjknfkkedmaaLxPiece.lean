/- Chapter 05: a maker puts, and drops. -/
import Derived.Test.YtmncjknfkkedmaaLxLast
import Derived.WalkLawsBesides
import Derived.StillTailTactics
namespace Go.Proofs.Ytmncjknfkkedmaa.Lx
open Go.RowKit Go.Proofs.Ytmncjknfkkedmaa.Bw Go.Proofs.Ytmncjknfkkedmaa.Bs

theorem onLast_snoc (f : Pc → Pc) : ∀ (l : List Pc) (p : Pc), onLast f (l ++ [p]) = l ++ [f p]
  | [], p => rfl
  | [x], p => rfl
  | x :: y :: r, p => by
    show x :: onLast f ((y :: r) ++ [p]) = _
    rw [onLast_snoc f (y :: r) p]; rfl
theorem owns_set3 {W : World} {base e size g n cap : Nat} {xs : List Value} (h : W.ownsRow base e size (.slice (some ⟨g, 0, none⟩) n cap) n xs) (i : Nat) (u : Value) : (W.setCell ⟨g, i, none⟩ u).ownsRow base e size (.slice (some ⟨g, 0, none⟩) n cap) n (xs.set i u) := by
  refine ⟨by simpa using h.1, ?_⟩
  rcases h.2 with ⟨h1, _⟩ | ⟨g', cap', cur, hv, hb, hg, h4, h5, h6, h7⟩
  · cases h1
  · have hv0 := hv
    simp only [Value.slice.injEq, Option.some.injEq, Addr.mk.injEq, true_and, and_true] at hv0
    obtain ⟨rfl, rfl⟩ := hv0
    refine .inr ⟨g, cap, cur.setIfInBounds i u, rfl, hb, ?_, h4, h5, by simpa using h6, ?_⟩
    · simp [World.setCell, Array.getElem?_modify, hg]
    · rw [Array.toList_setIfInBounds, List.take_set, h7]
theorem owns_cell3 {W : World} {base e size g n cap : Nat} {xs : List Value} (h : W.ownsRow base e size (.slice (some ⟨g, 0, none⟩) n cap) n xs) {i : Nat} {u : Value} (hu : xs[i]? = some u) : W.cell? ⟨g, i, none⟩ = some u ∧ W.frozen? ⟨g, i, none⟩ = false := by
  refine ⟨by have := h.cells (g := g) rfl i u hu; rwa [Addr.add_lit, Nat.zero_add] at this, ?_⟩
  rcases h.2 with ⟨h1, _⟩ | ⟨g', cap', cur, hv, _, hg, _⟩
  · cases h1
  · simp only [Value.slice.injEq, Option.some.injEq, Addr.mk.injEq, true_and, and_true] at hv
    obtain ⟨rfl, rfl⟩ := hv
    simp [World.frozen?, hg]
theorem vals_last (l : List Pc) (p : Pc) (j : Nat) (hj : j < 3) : (pcVals (l ++ [p]))[l.length * 3 + j]? = (Pc.vals p)[j]? := by
  rw [pcVals_append, List.getElem?_append_right (by rw [pcVals_len]; omega), pcVals_len]
  have e : l.length * 3 + j - l.length * 3 = j := by omega
  rw [e]
  simp [pcVals]
theorem vals_set (l : List Pc) (p q : Pc) (j : Nat) (u : Value) (h : (Pc.vals p).set j u = Pc.vals q) : (pcVals (l ++ [p])).set (l.length * 3 + j) u = pcVals (l ++ [q]) := by
  rw [pcVals_append, pcVals_append, List.set_append_right _ _ (by rw [pcVals_len]; omega), pcVals_len]
  congr 1
  have e : l.length * 3 + j - l.length * 3 = j := by omega
  rw [e]
  simpa [pcVals] using h

theorem last_drops {m : Mk} {C : Int} (hC : 0 ≤ C) (h : ∀ p ∈ m.l, 0 ≤ p.drop ∧ p.drop ≤ C) : ∀ p ∈ m.last.l, 0 ≤ p.drop ∧ p.drop ≤ C := by
  unfold Mk.last
  split
  · intro p hp
    rcases List.mem_append.1 hp with h1 | h1
    · exact h p h1
    · obtain rfl := List.mem_singleton.1 h1
      exact ⟨Int.le_refl _, hC⟩
  · exact h

set_option maxRecDepth 100000 in
set_option maxHeartbeats 2000000 in
theorem drop_any (m : Mk) (B base : Nat) (lv : Value) (n : Int) (w : World) (h : MkAt w B base m lv) (hlen : m.l.length ≤ 1000000) (hd : ∀ p ∈ m.l, 0 ≤ p.drop ∧ p.drop ≤ 1000000000000) (hn0 : n ≤ 1000000000000) : Calls Try.prog 37 #[.pointer (some ⟨B, 0, none⟩), .int .i64 n] w fun e w' => ∃ lv', e = .returned (.tuple #[]) ∧ MkAt w' B base (m.drop n) lv' ∧ Fr w w' (fun k => k = B ∨ lv.ownBlock = some k) ∧ (∀ k, lv'.ownBlock = some k → lv.ownBlock = some k ∨ w.heap.size ≤ k) := by
  rcases Int.lt_or_le 0 n with hn | hn
  · have t1 : decide (0 < n) = true := decide_eq_true hn
    have hc := last_any m B base lv w h hlen
    have hdl := last_drops (by omega) hd
    have e0 : m.drop n = ⟨onLast (fun p => { p with drop := p.drop + n }) m.last.l, m.last.keep⟩ := if_pos hn
    rw [e0]
    obtain ⟨l', p, hlp⟩ : ∃ l' p, m.last.l = l' ++ [p] := ⟨_, _, (List.dropLast_concat_getLast (Mk.last_ne m)).symm⟩
    obtain ⟨p0, p1⟩ := hdl p (by rw [hlp]; simp)
    rw [hlp, onLast_snoc]
    generalize hmk : m.last = M at *
    clear e0 hdl hd h
    have HLP := Lib.hid hlp
    have hll : (M.l.length - 1) * 3 = l'.length * 3 := by rw [hlp]; simp
    have HLL := Lib.hid hll
    clear hlp hll
    go_enter Try.func37, Try.ntmps37
    go_wp2_with fail
    refine hc.mono ?_
    clear hc
    rintro e w1 ⟨g, lv', rfl, ⟨N1, O1, hB, hbs⟩, hob, hgn, F1⟩
    rw [HLL.out]
    obtain ⟨g', cap, rfl, hgb, _⟩ := World.ownsRow.form O1 (by rw [HLP.out]; simp)
    obtain rfl : g' = g := by simpa [Value.ownBlock] using hob
    rw [HLP.out] at O1
    obtain ⟨c1, c2⟩ := owns_cell3 O1 (i := l'.length * 3 + 1) (u := .int .i64 p.drop) (by rw [vals_last _ _ _ (by omega)]; rfl)
    go_wp2_with fail
    refine bodyPost_end (results_none rfl _ _ _) rfl ?_
    have O2 := owns_set3 O1 (l'.length * 3 + 1) (.int .i64 (p.drop + n))
    rw [vals_set l' p { p with drop := p.drop + n } 1 _ rfl] at O2
    refine ⟨_, rfl, ⟨(Below.heap_setCell w1 ⟨g', l'.length * 3 + 1, none⟩ _ B (by show B ≠ g'; omega)).trans N1, ?_, hB, by simpa using hbs⟩, ?_, fun k h => by rw [← Option.some.inj h]; exact hgn⟩
    · have el : ((l' ++ [{ p with drop := p.drop + n }] : List Pc)).length = (l' ++ [p]).length := by simp
      rw [el, ← HLP.out]
      rw [← HLP.out] at O2
      exact O2
    · refine Fr.new (F1.mono (fun k h => .inl h) |>.trans ((Fr.setCell w1 g' _ _).mono (fun k h => ?_)))
      subst h
      exact hgn.elim (fun h => .inl (.inr h)) (fun h => .inr h)
  · have t1 : decide (0 < n) = false := decide_eq_false (by omega)
    have e : m.drop n = m := if_neg (by omega)
    rw [e]
    go_enter Try.func37, Try.ntmps37
    go_wp2_with fail
    refine bodyPost_end (results_none rfl _ _ _) rfl ?_
    exact ⟨lv, rfl, h, Fr.refl _ _, fun k h => .inl h⟩

theorem last_puts {m : Mk} {C : Nat} (h : ∀ p ∈ m.l, p.put.size ≤ C) : ∀ p ∈ m.last.l, p.put.size ≤ C := by
  unfold Mk.last
  split
  · intro p hp
    rcases List.mem_append.1 hp with h1 | h1
    · exact h p h1
    · obtain rfl := List.mem_singleton.1 h1
      exact Nat.zero_le _
  · exact h

set_option maxRecDepth 100000 in
set_option maxHeartbeats 2000000 in
theorem put_any (m : Mk) (B base : Nat) (lv : Value) (s : ByteArray) (w : World) (h : MkAt w B base m lv) (hlen : m.l.length ≤ 1000000) (hd : ∀ p ∈ m.l, p.put.size ≤ 1000000000000) (hs : s.size ≤ 1000000000000) : Calls Try.prog 35 #[.pointer (some ⟨B, 0, none⟩), .string s] w fun e w' => ∃ lv', e = .returned (.tuple #[]) ∧ MkAt w' B base (m.put s) lv' ∧ Fr w w' (fun k => k = B ∨ lv.ownBlock = some k) ∧ (∀ k, lv'.ownBlock = some k → lv.ownBlock = some k ∨ w.heap.size ≤ k) := by
  rcases Nat.eq_zero_or_pos s.size with hn | hn
  · have hl := str_empty hn
    have e : m.put s = m := if_neg (by omega)
    rw [e]
    go_enter Try.func35, Try.ntmps35
    go_wp2_with fail
    refine bodyPost_end (results_none rfl _ _ _) rfl ?_
    exact ⟨lv, rfl, h, Fr.refl _ _, fun k h => .inl h⟩
  · have hl := str_some hn
    have hc := last_any m B base lv w h hlen
    have hdl := last_puts hd
    have e0 : m.put s = ⟨onLast (fun p => { p with put := p.put ++ s }) m.last.l, m.last.keep⟩ := if_pos hn
    rw [e0]
    obtain ⟨l', p, hlp⟩ : ∃ l' p, m.last.l = l' ++ [p] := ⟨_, _, (List.dropLast_concat_getLast (Mk.last_ne m)).symm⟩
    have p0 := hdl p (by rw [hlp]; simp)
    rw [hlp, onLast_snoc]
    generalize hmk : m.last = M at *
    clear e0 hdl hd h
    have HLP := Lib.hid hlp
    have hll : (M.l.length - 1) * 3 = l'.length * 3 := by rw [hlp]; simp
    have HLL := Lib.hid hll
    clear hlp hll
    go_enter Try.func35, Try.ntmps35
    go_wp2_with fail
    refine hc.mono ?_
    clear hc
    rintro e w1 ⟨g, lv', rfl, ⟨N1, O1, hB, hbs⟩, hob, hgn, F1⟩
    rw [HLL.out]
    obtain ⟨g', cap, rfl, hgb, _⟩ := World.ownsRow.form O1 (by rw [HLP.out]; simp)
    obtain rfl : g' = g := by simpa [Value.ownBlock] using hob
    rw [HLP.out] at O1
    obtain ⟨c1, c2⟩ := owns_cell3 O1 (i := l'.length * 3 + 2) (u := .string p.put) (by rw [vals_last _ _ _ (by omega)]; rfl)
    go_wp2_with fail
    refine bodyPost_end (results_none rfl _ _ _) rfl ?_
    have O2 := owns_set3 O1 (l'.length * 3 + 2) (.string (p.put ++ s))
    rw [vals_set l' p { p with put := p.put ++ s } 2 _ rfl] at O2
    refine ⟨_, rfl, ⟨(Below.heap_setCell w1 ⟨g', l'.length * 3 + 2, none⟩ _ B (by show B ≠ g'; omega)).trans N1, ?_, hB, by simpa using hbs⟩, ?_, fun k h => by rw [← Option.some.inj h]; exact hgn⟩
    · have el : ((l' ++ [{ p with put := p.put ++ s }] : List Pc)).length = (l' ++ [p]).length := by simp
      rw [el, ← HLP.out]
      rw [← HLP.out] at O2
      exact O2
    · refine Fr.new (F1.mono (fun k h => .inl h) |>.trans ((Fr.setCell w1 g' _ _).mono (fun k h => ?_)))
      subst h
      exact hgn.elim (fun h => .inl (.inr h)) (fun h => .inr h)
end Go.Proofs.Ytmncjknfkkedmaa.Lx
namespace Go.Proofs.Ytmncjknfkkedmaa.Lx
open Go.RowKit Go.Proofs.Ytmncjknfkkedmaa.Bw Go.Proofs.Ytmncjknfkkedmaa.Bs

/-- Bounds of a maker's row. -/
def Bnd (C : Nat) (l : List Pc) : Prop := ∀ p ∈ l, p.put.size ≤ C ∧ 0 ≤ p.drop ∧ p.drop ≤ (C : Int)

theorem onLast_len (f : Pc → Pc) : ∀ l : List Pc, (onLast f l).length = l.length
  | [] => rfl
  | [_] => rfl
  | x :: y :: r => by
    show (onLast f (y :: r)).length + 1 = _
    rw [onLast_len f (y :: r)]; rfl
theorem onLast_all {P : Pc → Prop} {f : Pc → Pc} (hf : ∀ p, P p → P (f p)) : ∀ l : List Pc, (∀ p ∈ l, P p) → ∀ p ∈ onLast f l, P p
  | [], _ => fun p hp => absurd hp List.not_mem_nil
  | [x], h => fun p hp => by obtain rfl := List.mem_singleton.1 hp; exact hf x (h x (List.mem_singleton.2 rfl))
  | x :: y :: r, h => fun p hp => by
    rcases List.mem_cons.1 hp with h1 | h1
    · rw [h1]; exact h x List.mem_cons_self
    · exact onLast_all hf (y :: r) (fun q hq => h q (List.mem_cons_of_mem _ hq)) p h1
theorem Mk.last_len (m : Mk) : m.last.l.length ≤ m.l.length + 1 := by
  unfold Mk.last
  split
  · simp
  · simp
theorem Mk.put_len (m : Mk) (s : ByteArray) : (m.put s).l.length ≤ m.l.length + 1 := by
  unfold Mk.put
  split
  · show (onLast _ _).length ≤ _
    rw [onLast_len]; exact m.last_len
  · exact Nat.le_succ _
theorem put_drops {m : Mk} {C : Int} (s : ByteArray) (hC : 0 ≤ C) (h : ∀ p ∈ m.l, 0 ≤ p.drop ∧ p.drop ≤ C) : ∀ p ∈ (m.put s).l, 0 ≤ p.drop ∧ p.drop ≤ C := by
  unfold Mk.put
  split
  · exact onLast_all (P := fun p => 0 ≤ p.drop ∧ p.drop ≤ C) (f := fun p => { p with put := p.put ++ s }) (fun p hp => hp) _ (last_drops hC h)
  · exact h

set_option maxRecDepth 100000 in
set_option maxHeartbeats 2000000 in
theorem piece_any (m : Mk) (B base : Nat) (lv : Value) (p : Pc) (w : World) (h : MkAt w B base m lv) (hlen : m.l.length ≤ 100000) (hd : Bnd 1000000000000 m.l) (hs : p.put.size ≤ 1000000000000) (hn0 : p.drop ≤ 1000000000000) (hk : 0 ≤ m.keep ∧ m.keep ≤ 1000000000000) (hk2 : 0 ≤ p.keep ∧ p.keep ≤ 1000000000000) (hall : m.keep + p.keep ≤ 1000000000000) : Calls Try.prog 41 #[.pointer (some ⟨B, 0, none⟩), .agg #[.int .i64 p.keep, .int .i64 p.drop, .string p.put]] w fun e w' => ∃ lv', e = .returned (.tuple #[]) ∧ MkAt w' B base (m.piece p) lv' ∧ Fr w w' (fun k => k = B ∨ lv.ownBlock = some k) ∧ (∀ k, lv'.ownBlock = some k → lv.ownBlock = some k ∨ w.heap.size ≤ k) := by
  obtain ⟨hN, hO, hB, hbs⟩ := h
  have hlt : ∀ g, lv.ownBlock = some g → g < w.heap.size := fun g hg => (hO.lt g hg).2
  have c0 := hN.cell 0
  have c1 := hN.cell 1
  have f1 := hN.frozen 1
  go_enter Try.func41, Try.ntmps41
  go_wp2_with fail
  obtain ⟨w1, hw1⟩ : ∃ W, w.alloc (.cells #[.int .i64 p.keep, .int .i64 p.drop, .string p.put] 29) = W := ⟨_, rfl⟩
  have E1 : Ext w w1 := by rw [← hw1]; exact (Ext.refl w).alloc _
  have P1 : NBox w1 w.heap.size 29 #[.int .i64 p.keep, .int .i64 p.drop, .string p.put] := by rw [← hw1]; exact NBox.new w 29 _
  have N1 := NBox.ext E1 hN
  have O1 := owns_ext E1 hO
  have b1 := N1.cell 1
  have g1 := N1.frozen 1
  have p0 := P1.cell 0
  have p1 := P1.cell 1
  have p2 := P1.cell 2
  rw [hw1]
  clear hw1 c0 c1 f1 hN hO
  have wK : IntKind.i64.wrap (m.keep + p.keep) = m.keep + p.keep := by rw [IntKind.wrap_i64]; omega
  go_still_tail 9, (by kernel_rfl)
  change wpList _ _ _ _ _ w1.drew
  obtain ⟨w2, hw2⟩ : ∃ W, w1.drew = W := ⟨_, rfl⟩
  have E2 : Ext w w2 := by rw [← hw2]; exact E1.drew
  have hd2 : Ext w1 w2 := by rw [← hw2]; exact (Ext.refl w1).drew
  replace N1 := N1.ext hd2
  replace P1 := P1.ext hd2
  replace O1 := owns_ext hd2 O1
  have b1 := N1.cell 1
  have g1 := N1.frozen 1
  have p0 := P1.cell 0
  have p1 := P1.cell 1
  have p2 := P1.cell 2
  rw [hw2]
  clear hw2 hd2
  have hBB : ¬ w.heap.size = B := by omega
  go_wp2_with fail
  obtain ⟨w3, hw3⟩ : ∃ W, w2.setCell ⟨B, 1, none⟩ (.int .i64 (m.keep + p.keep)) = W := ⟨_, rfl⟩
  have F3 : Fr w w3 (fun k => k = B ∨ lv.ownBlock = some k) := (Fr.of_ext E2 _).trans (by rw [← hw3]; exact (Fr.setCell w2 B _ _).mono (fun k h => .inl h))
  have N3 : NBox w3 B 57 #[lv, .int .i64 (m.keep + p.keep)] := by rw [← hw3]; exact N1.set 1 _
  have f23 : Fr w2 w3 (fun k => k = B) := by rw [← hw3]; exact Fr.setCell w2 B _ _
  have O3 := owns_fr f23 O1 (fun g hg h0 => absurd (owns_base O1 g hg) (by omega))
  have P3 := P1.fr f23 (by omega)
  have s3 := f23.size
  have s2 := E2.size
  have hc := put_any ⟨m.l, m.keep + p.keep⟩ B base lv p.put w3 ⟨N3, O3, hB, by omega⟩ (by show m.l.length ≤ _; omega) (fun q hq => (hd q hq).1) hs
  have q2 := P3.cell 2
  rw [hw3]
  clear hw3 p0 p1 p2 b1 g1
  go_wp2_with fail
  go_at_call 35
  refine hc.mono ?_
  clear hc
  rintro e w4 ⟨lv4, rfl, ⟨N4, O4, hB4, hs4⟩, F4, G4⟩
  have P4 := P3.fr F4 (fun h0 => h0.elim hBB (fun h1 => Nat.lt_irrefl _ (hlt _ h1)))
  have hc := drop_any (Mk.put ⟨m.l, m.keep + p.keep⟩ p.put) B base lv4 p.drop w4 ⟨N4, O4, hB4, hs4⟩ (by have := Mk.put_len ⟨m.l, m.keep + p.keep⟩ p.put; simp only at this; omega) (put_drops p.put (by omega) (fun q hq => (hd q hq).2)) hn0
  have q1 := P4.cell 1
  have s4 := F4.size
  clear q2
  go_wp2_with fail
  go_at_call 37
  refine hc.mono ?_
  clear hc
  rintro e w5 ⟨lv5, rfl, M5, F5, G5⟩
  go_wp2_with fail
  refine bodyPost_end (results_none rfl _ _ _) rfl ?_
  refine ⟨lv5, rfl, M5, ?_, ?_⟩
  · refine Fr.new ((F3.trans F4).mono (fun k h => .inl h) |>.trans (F5.mono (fun k h => ?_)))
    rcases h with h | h
    · exact .inl (.inl h)
    · rcases G4 k h with h | h
      · exact .inl (.inr h)
      · exact .inr (by omega)
  · intro k h
    rcases G5 k h with h | h
    · rcases G4 k h with h | h
      · exact .inl h
      · exact .inr (by omega)
    · exact .inr (by omega)
end Go.Proofs.Ytmncjknfkkedmaa.Lx
