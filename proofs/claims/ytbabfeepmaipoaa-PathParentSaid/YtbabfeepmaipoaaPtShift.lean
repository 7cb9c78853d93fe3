/- Chapter 04: a path shifted; the shift between two. -/
import Derived.Test.YtbabfeepmaipoaaPtFloat
import Derived.Test.YtbabfeepmaipoaaBsGoto
import Derived.Deep.RegionHeld3
namespace Go.Proofs.Ytbabfeepmaipoaa.Pt
open Go.RowKit Go.Proofs.Ytbabfeepmaipoaa.Bw Go.Proofs.Ytbabfeepmaipoaa.Bs

theorem cell_of_blk {W : World} {b i : Nat} {c : Array Value} {t : TypeId} {fz : Nat × Nat} (h : W.heap[b]? = some (.cells c t fz)) : W.cell? ⟨b, i, none⟩ = c[i]? := by
  simp [World.cell?, h]
/-- A cell of a row that the call owns. -/
theorem owns_cell {W : World} {base e g n cap : Nat} {xs : List Value} (h : W.ownsRow base e 1 (.slice (some ⟨g, 0, none⟩) n cap) n xs) {i : Nat} {u : Value} (hu : xs[i]? = some u) : W.cell? ⟨g, i, none⟩ = some u ∧ W.frozen? ⟨g, i, none⟩ = false := by
  refine ⟨by have := h.cells (g := g) rfl i u hu; rwa [Addr.add_lit, Nat.zero_add] at this, ?_⟩
  rcases h.2 with ⟨h1, _⟩ | ⟨g', cap', cur, hv, _, hg, _⟩
  · cases h1
  · simp only [Value.slice.injEq, Option.some.injEq, Addr.mk.injEq, true_and, and_true] at hv
    obtain ⟨rfl, rfl⟩ := hv
    simp [World.frozen?, hg]
/-- One of it, set. -/
theorem owns_setAt {W : World} {base e g n cap : Nat} {xs : List Value} (h : W.ownsRow base e 1 (.slice (some ⟨g, 0, none⟩) n cap) n xs) (i : Nat) (u : Value) : (W.setCell ⟨g, i, none⟩ u).ownsRow base e 1 (.slice (some ⟨g, 0, none⟩) n cap) n (xs.set i u) := by
  refine ⟨by simpa using h.1, ?_⟩
  rcases h.2 with ⟨h1, _⟩ | ⟨g', cap', cur, hv, hb, hg, h4, h5, h6, h7⟩
  · cases h1
  · have hv0 := hv
    simp only [Value.slice.injEq, Option.some.injEq, Addr.mk.injEq, true_and, and_true] at hv0
    obtain ⟨rfl, rfl⟩ := hv0
    refine .inr ⟨g, cap, cur.setIfInBounds i u, rfl, hb, ?_, h4, h5, by simpa using h6, ?_⟩
    · simp [World.setCell, Array.getElem?_modify, hg]
    · rw [Array.toList_setIfInBounds, List.take_set, h7]

set_option maxRecDepth 100000 in
set_option maxHeartbeats 2000000 in
theorem shift_yes (p : List Int) (v : Value) (re im n : Nat) (m x : Int) (w : World) (h : RdI w p v) (hok : pOk re im = true) (hn : fint im = some (n : Int)) (hm : fint re = some m) (hmay : may p = true) (hx : p[n]? = some x) (h0 : 0 ≤ x + m) (h1 : x + m < 1048576) :
    Calls Try.prog 32 #[v, .complex .f64 re im] w (Ret w fun r w' => ∃ r', r = .tuple #[r', .int .i64 0] ∧ w'.ownsRow w.heap.size 3 1 r' p.length ((p.set n (x + m)).map (Value.int .i64))) := by
  have hlen : p.length ≤ 64 := by rw [may, Bool.and_eq_true, decide_eq_true_eq] at hmay; exact hmay.1
  have hnl : n < p.length := (List.getElem?_eq_some_iff.1 hx).1
  have hp0 := h
  obtain ⟨A, c, rfl, _, a1, a2, a3⟩ := hp0
  unfold maxLen at a2
  obtain ⟨b, off, rfl, ra⟩ := a3 (by omega)
  have e0 := ra n (.int .i64 x) (by rw [List.getElem?_map, hx]; rfl)
  have hc40 := fun W => parts_yes re im n m W hok hn hm
  have hc9 : ∀ W, Ext w W → Calls Try.prog 9 #[.slice (some ⟨b, off, none⟩) p.length c] W (Ret W fun r _ => r = .bool true) := fun W hW => by
    have := pathMay_any p _ W (RdS.ext hW h)
    rwa [hmay] at this
  have hc36 : ∀ W, Ext w W → Calls Try.prog 36 #[.slice (some ⟨b, off, none⟩) p.length c] W (Ret W fun r w' => w'.ownsRow W.heap.size 3 1 r p.length (p.map (Value.int .i64))) := fun W hW => clone_any p _ W (RdS.ext hW h) (by omega)
  have hxs : (p.map (Value.int .i64))[n]? = some (.int .i64 x) := by rw [List.getElem?_map, hx]; rfl
  have q1 : (0 : Int) ≤ (n : Int) := by omega
  have q2 : (n : Int) < (p.length : Int) := by omega
  have q3 : decide ((p.length : Int) ≤ (n : Int)) = false := decide_eq_false (by omega)
  have q3' : decide (p.length ≤ n) = false := decide_eq_false (by omega)
  have t1 : decide (x + m < 0) = false := decide_eq_false (by omega)
  have t2 : decide (1048576 ≤ x + m) = false := decide_eq_false (by omega)
  have hset : (p.map (Value.int .i64)).set n (.int .i64 (x + m)) = (p.set n (x + m)).map (Value.int .i64) := by rw [List.map_set]
  have HS := Lib.hid hset
  have HX := Lib.hid hxs
  have E := Ext.refl w
  clear ra a3 h hok hn hm hmay hx hset hxs
  go_enter Try.func32, Try.ntmps32
  go_wp2_with (first | (go_at_call 40; refine (hc40 _).mono ?_; clear hc40; rintro e u1 ⟨r, rfl, rfl, hE⟩; replace E := Ext.trans E hE; have e1 := E.cell e0; clear hE) | (go_at_call 9; refine (hc9 _ E).mono ?_; clear hc9; rintro e u2 ⟨r, rfl, rfl, hE⟩; replace E := Ext.trans E hE; have e2 := E.cell e0; clear hE))
  refine (hc36 _ E).mono ?_
  clear hc36
  rintro e u3 ⟨r, rfl, hown, hE3⟩
  obtain ⟨g, gc, rfl, hgb, _⟩ := World.ownsRow.form hown (by omega)
  obtain ⟨f1, f2⟩ := owns_cell hown HX.out
  have hsz := E.size
  go_wp2_with fail
  go_ret2
  refine ⟨_, rfl, ⟨_, rfl, ?_⟩, Below.setCell (E.trans hE3) (p := ⟨g, n, none⟩) (Nat.le_trans hsz hgb) _⟩
  rw [← HS.out]
  exact owns_mono (owns_setAt hown n _) hsz
end Go.Proofs.Ytbabfeepmaipoaa.Pt
