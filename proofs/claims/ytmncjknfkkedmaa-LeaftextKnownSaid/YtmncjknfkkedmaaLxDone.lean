/- Chapter 05: a maker's edit, if it is right; rows out of what an owner holds. -/
import Derived.Test.YtmncjknfkkedmaaLxPuts
namespace Go.Proofs.Ytmncjknfkkedmaa.Lx
open Go.RowKit Go.Proofs.Ytmncjknfkkedmaa.Bw Go.Proofs.Ytmncjknfkkedmaa.Bs

theorem rdPcs_of_vals {W : World} {g : Nat} : ∀ {l : List Pc} {off : Nat}, (∀ i x, (pcVals l)[i]? = some x → W.cell? ⟨g, off + i, none⟩ = some x) → (∀ p ∈ l, okStr p.put) → rdPcs W g off l
  | [], _, _, _ => trivial
  | p :: r, off, h, hs => by
    have e : pcVals (p :: r) = .int .i64 p.keep :: .int .i64 p.drop :: .string p.put :: pcVals r := rfl
    rw [e] at h
    refine ⟨h 0 _ rfl, h 1 _ rfl, h 2 _ rfl, hs p List.mem_cons_self, rdPcs_of_vals (fun i x hx => ?_) (fun q hq => hs q (List.mem_cons_of_mem _ hq))⟩
    have := h (i + 3) x (by simpa using hx)
    rwa [show off + 3 + i = off + (i + 3) by omega]
theorem RowV.of_owns {W : World} {base : Nat} {l : List Pc} {v : Value} (h : W.ownsRow base 29 3 v l.length (pcVals l)) (hs : ∀ p ∈ l, okStr p.put) : RowV W v.ownBlock l v := by
  have hc := fun g => h.cells (g := g)
  rcases h.2 with ⟨rfl, h0⟩ | ⟨g, cap, cur, rfl, hb, hg, h4, h5, h6, h7⟩
  · exact ⟨none, 0, by rw [h0], by omega, by decide, fun h1 => by omega⟩
  · refine ⟨_, cap, rfl, h4, h5, fun _ => ⟨g, 0, cur, rfl, rfl, hg, rdPcs_of_vals (fun i x hx => ?_) hs⟩⟩
    have := hc g rfl i x hx
    rw [Addr.add_lit] at this
    exact this
theorem RdP.of_owns {W : World} {base : Nat} {l : List Pc} {v : Value} (h : W.ownsRow base 29 3 v l.length (pcVals l)) (hs : ∀ p ∈ l, okStr p.put) : RdP W l v := (RowV.of_owns h hs).rd
theorem RdP.nil (W : World) : RdP W [] (.slice none 0 0) := ⟨none, 0, rfl, Nat.le_refl _, by decide, fun h => absurd h (by simp)⟩
theorem okStr_of {n C : Nat} {m : Mk} (h : MB n C m) (hC : C ≤ 1000000000000) : ∀ p ∈ m.l, okStr p.put := fun p hp => by
  have := (h.bnd p hp).1
  unfold okStr maxLen
  omega

set_option maxRecDepth 100000 in
set_option maxHeartbeats 2000000 in
theorem done_any (m : Mk) (B base : Nat) (lv : Value) (w : World) (h : MkAt w B base m lv) (hs : ∀ p ∈ m.l, okStr p.put) : Calls Try.prog 38 #[.pointer (some ⟨B, 0, none⟩)] w fun e w' => e = .returned (.tuple #[lv, .bool (pcsRight m.l)]) ∧ Ext w w' := by
  have hR := RdP.of_owns h.2.1 hs
  have hR0 := hR
  obtain ⟨A, c, rfl, _⟩ := hR
  have c0 := h.1.cell 0
  go_enter Try.func38, Try.ntmps38
  go_wp2_with fail
  go_region_held3 (fun W => Ext w W ∧ W.cell? ⟨B, 0, none⟩ = some (.slice A m.l.length c)) (first | exact ⟨(Ext.refl w).drew, c0⟩ | exact ⟨E2, E2.cell c0⟩) ((go_at_call 11; have hh := ‹Ext w _ ∧ _›; refine (right_any m.l _ _ (hR0.ext hh.1)).mono ?_; rintro e u ⟨r, rfl, rfl, hE⟩; have E2 := Ext.trans hh.1 hE; clear hE))
  go_wp2_with fail
  go_ret2
  exact ⟨rfl, E2⟩
end Go.Proofs.Ytmncjknfkkedmaa.Lx
