/- Chapter 17: bytes that come in. -/
import Derived.Test.YtoplaokimahdiaaWiRowKit
import Derived.Test.YtoplaokimahdiaaWiPut
namespace Go.Proofs.Ytoplaokimahdiaa.Wi
open Go.RowKit Go.ChangeShapes Go.WideShapes Go.Proofs.Ytoplaokimahdiaa.Bw

section
variable {H : Type} {enc : TypeId × Value → H} {w : World} {base : Nat} {spare : Nat → Bool} {held : Bool}
set_option maxRecDepth 100000 in
theorem open_bytes {r : Reach} {b0 : Nat} {v : Value} {d : DataW H} {p : List MemPlace} (hv : Value.okWide Try.prog w r b0 25 v) (h : DataW.Trod enc Try.prog w base spare held 25 v d p) : ∃ bs : List UInt8, RdS w 1 bs.length (u8s bs) v := by
  obtain ⟨A, n, c, rfl⟩ := okWide_slice Try.underlying25 hv
  obtain ⟨fuel, hf⟩ := h
  rcases open_ints Try.underlying25 Try.underlying5 cells5 hf with ⟨e, _⟩ | ⟨a, n', c', zs, e, _, hl, hm, hz, _, hc, hw⟩
  · simp [Value.cells] at e
    obtain ⟨rfl, rfl, rfl⟩ := e
    exact ⟨[], RdS.nil_ _ _⟩
  · simp [Value.cells] at e
    obtain ⟨rfl, rfl, rfl⟩ := e
    have hzl : n ≤ zs.length := by split at hz <;> omega
    have hlen : ((zs.take n).map fun z => UInt8.ofNat z.toNat).length = n := by simp; omega
    refine ⟨(zs.take n).map fun z => UInt8.ofNat z.toNat, ?_⟩
    rw [hlen]
    refine ⟨_, _, rfl, by rw [u8s_len, hlen, Nat.mul_one], hl, hm, fun h0 => ?_⟩
    have ha := cell_plain (hc 0 (by omega))
    obtain ⟨b, o, sp⟩ := a
    have hs : sp = none := by simpa [Addr.add] using ha
    subst hs
    refine ⟨b, o, rfl, fun j u hj => ?_⟩
    have hjn : j < n := by
      have := (List.getElem?_eq_some_iff.1 hj).1
      rwa [u8s_len, hlen] at this
    have h2 := hc j (by omega)
    rw [Addr.add_lit] at h2
    have hb := wf_u8 (hw (zs.getD j 0) (by rw [List.getD_eq_getElem?_getD, List.getElem?_eq_getElem (by omega)]; exact List.getElem_mem _))
    rw [h2]
    unfold u8s at hj
    rw [List.getElem?_map, List.getElem?_map, List.getElem?_take, if_pos hjn, List.getElem?_eq_getElem (by omega)] at hj
    simp only [Option.map_some, Option.some.injEq] at hj
    rw [← hj]
    rw [List.getD_eq_getElem?_getD, List.getElem?_eq_getElem (by omega)] at hb ⊢
    simp only [Option.getD_some] at hb ⊢
    rw [toNat_ofNat (by omega), Int.toNat_of_nonneg hb.1]
end
end Go.Proofs.Ytoplaokimahdiaa.Wi
