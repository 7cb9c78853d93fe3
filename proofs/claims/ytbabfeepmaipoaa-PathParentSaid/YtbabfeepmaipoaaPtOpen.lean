/- Arguments that come in: a row of ints. -/
import Derived.Test.YtbabfeepmaipoaaPtInts
import Derived.ChangeSame
import Derived.ChangeSlices
import Derived.Deep.Slices
import Derived.OpenShut
import Derived.Carry
namespace Go.Proofs.Ytbabfeepmaipoaa.Pt
open Go.RowKit Go.ChangeShapes Go.WideShapes Go.Proofs.Ytbabfeepmaipoaa.Bw

theorem cells3 : Try.prog.cellsOf 3 = 1 := by kernel_rfl

section
variable {H : Type} {enc : TypeId × Value → H} {w : World} {base : Nat} {spare : Nat → Bool} {held : Bool}

theorem add_zero_ (a : Addr) : a.add 0 = a := rfl
theorem cell_plain {a : Addr} {u : Value} (h : w.cell? a = some u) : a = ⟨a.block, a.off, none⟩ := by
  obtain ⟨b, o, sp⟩ := a
  cases sp with
  | none => rfl
  | some s =>
    unfold World.cell? at h
    split at h <;> simp at h

theorem ints_trod {fuel : Nat} {cs : List Value} {x : DataW H × List MemPlace} (hf : DataW.trod enc Try.prog w base spare held fuel 22 cs = some x) : ∃ (v : Value) (l : List Int), cs = [v] ∧ RdI w l v := by
  rcases open_ints Try.underlying22 Try.underlying3 cells3 hf with ⟨rfl, _⟩ | ⟨a, n, c, zs, rfl, _, hl, hm, hz, _, hc, _⟩
  · exact ⟨_, [], rfl, RdS.nil_ _ _⟩
  · have hzl : n ≤ zs.length := by split at hz <;> omega
    refine ⟨_, zs.take n, rfl, ?_⟩
    have hlen : (zs.take n).length = n := by simp; omega
    rw [RdI, hlen]
    refine ⟨_, _, rfl, by simp; omega, hl, hm, fun h0 => ?_⟩
    have ha := cell_plain (hc 0 (by omega))
    obtain ⟨b, o, sp⟩ := a
    have hs : sp = none := by simpa [Addr.add] using ha
    subst hs
    refine ⟨b, o, rfl, fun j u hj => ?_⟩
    rw [List.getElem?_map] at hj
    have hjn : j < n := by
      rcases Nat.lt_or_ge j n with h | h
      · exact h
      · rw [List.getElem?_eq_none (by omega)] at hj; simp at hj
    have := hc j (by omega)
    rw [Addr.add_lit] at this
    rw [this, ← hj, List.getElem?_take, if_pos hjn, List.getD_eq_getElem?_getD, List.getElem?_eq_getElem (by omega)]
    rfl
theorem open_path {r : Reach} {b0 : Nat} {v : Value} {d : DataW H} {p : List MemPlace} (hv : Value.okWide Try.prog w r b0 22 v) (h : DataW.Trod enc Try.prog w base spare held 22 v d p) : ∃ l : List Int, RdI w l v := by
  obtain ⟨A, n, c, rfl⟩ := okWide_slice Try.underlying22 hv
  obtain ⟨fuel, hf⟩ := h
  obtain ⟨v, l, e, hr⟩ := ints_trod hf
  simp [Value.cells] at e
  exact ⟨l, by rw [e]; exact hr⟩

end
end Go.Proofs.Ytbabfeepmaipoaa.Pt
