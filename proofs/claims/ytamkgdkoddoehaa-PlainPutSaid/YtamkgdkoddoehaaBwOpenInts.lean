/- A slice of ints among the arguments, opened. -/
import Derived.Test.YtamkgdkoddoehaaBwOpen
import Derived.ChangeSlices
namespace Go.Proofs.Ytamkgdkoddoehaa.Bw
open Go.RowKit Go.ChangeShapes Go.WideShapes

section
variable {H : Type} {enc : TypeId × Value → H} {w : World} {base : Nat} {spare : Nat → Bool} {held : Bool}

theorem cell_plain {a : Addr} {u : Value} (h : w.cell? a = some u) : a = ⟨a.block, a.off, none⟩ := by
  obtain ⟨b, o, sp⟩ := a
  cases sp with
  | none => rfl
  | some s =>
    unfold World.cell? at h
    split at h <;> simp at h

theorem open_path {r : Reach} {b0 : Nat} {v : Value} {d : DataW H} {p : List MemPlace} (hv : Value.okWide Try.prog w r b0 37 v) (h : DataW.Trod enc Try.prog w base spare held 37 v d p) :
    ∃ l : List Int, RdS w 1 l.length (l.map (Value.int .i64)) v := by
  obtain ⟨A, n, c, rfl⟩ := okWide_slice Try.underlying37 hv
  obtain ⟨fuel, hf⟩ := h
  rcases open_ints Try.underlying37 Try.underlying3 cells3 hf with ⟨e, _⟩ | ⟨a, len, cap, zs, e, _, hl, hm, hz, _, hc, _⟩
  · simp [Value.cells] at e
    obtain ⟨rfl, rfl, rfl⟩ := e
    exact ⟨[], RdS.nil_ _ _⟩
  · simp [Value.cells] at e
    obtain ⟨rfl, rfl, rfl⟩ := e
    have hzl : n ≤ zs.length := by split at hz <;> omega
    refine ⟨zs.take n, ?_⟩
    have hlen : (zs.take n).length = n := by simp; omega
    rw [hlen]
    refine ⟨_, _, rfl, by simp; omega, hl, hm, fun h0 => ?_⟩
    have ha := cell_plain (hc 0 (by omega))
    obtain ⟨b, o, sp⟩ := a
    have hs : sp = none := by simpa [Addr.add] using ha
    subst hs
    refine ⟨b, o, rfl, fun j u hj => ?_⟩
    rw [List.getElem?_map] at hj
    have hjn : j < n := by
      rcases Nat.lt_or_ge j n with h | h
      · exact h
      · rw [List.getElem?_eq_none (by omega)] at hj; simp at hj
    have := hc j (by omega)
    rw [Addr.add_lit] at this
    rw [this, ← hj, List.getElem?_take, if_pos hjn, List.getD_eq_getElem?_getD, List.getElem?_eq_getElem (by omega)]
    rfl
end
end Go.Proofs.Ytamkgdkoddoehaa.Bw
