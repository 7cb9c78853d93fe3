/- Chapter 05: arguments that come in: pieces. -/
import Derived.Test.YtmncjknfkkedmaaLxData
import Derived.ChangeSame
import Derived.ChangeSlices
import Derived.Deep.Slices
import Derived.OpenShut
import Derived.Carry
namespace Go.Proofs.Ytmncjknfkkedmaa.Lx
open Go.RowKit Go.ChangeShapes Go.WideShapes Go.Proofs.Ytmncjknfkkedmaa.Bw Go.Proofs.Ytmncjknfkkedmaa.Bs

theorem cells29 : Try.prog.cellsOf 29 = 3 := by kernel_rfl
theorem cells3 : Try.prog.cellsOf 3 = 1 := by kernel_rfl
theorem cells9 : Try.prog.cellsOf 9 = 1 := by kernel_rfl

section
variable {H : Type} {enc : TypeId × Value → H} {w : World} {base : Nat} {spare : Nat → Bool} {held : Bool}

theorem list3 {α : Type} {l : List α} (h : l.length = 3) : ∃ a b c, l = [a, b, c] := by
  match l, h with
  | [a, b, c], _ => exact ⟨a, b, c, rfl⟩
theorem add_zero_ (a : Addr) : a.add 0 = a := rfl
theorem spot_none {a : Addr} {n : Nat} {cs : List Value} (h : w.cells? base a (n + 1) = some cs) : a = ⟨a.block, a.off, none⟩ := by
  obtain ⟨_, hl, hc⟩ := World.cells?_some h
  have h0 := hc 0 (by omega)
  have e0 : a.add 0 = a := rfl
  rw [e0, List.getElem?_eq_getElem (by omega)] at h0
  obtain ⟨b, o, sp⟩ := a
  cases sp with
  | none => rfl
  | some s =>
    unfold World.cell? at h0
    split at h0 <;> simp at h0
theorem cell_plain {a : Addr} {u : Value} (h : w.cell? a = some u) : a = ⟨a.block, a.off, none⟩ := by
  obtain ⟨b, o, sp⟩ := a
  cases sp with
  | none => rfl
  | some s =>
    unfold World.cell? at h
    split at h <;> simp at h

/-- Pieces, built up. -/
theorem build_pcs {b : Nat} : ∀ (len off : Nat), (∀ i, i < len → ∃ p : Pc, w.cell? ⟨b, off + i * 3, none⟩ = some (.int .i64 p.keep) ∧ w.cell? ⟨b, off + i * 3 + 1, none⟩ = some (.int .i64 p.drop) ∧ w.cell? ⟨b, off + i * 3 + 2, none⟩ = some (.string p.put) ∧ p.put.size ≤ maxLen) →
    ∃ l : List Pc, l.length = len ∧ rdPcs w b off l
  | 0, _, _ => ⟨[], rfl, trivial⟩
  | len + 1, off, h => by
    obtain ⟨p, h1, h2, h3, h4⟩ := h 0 (by omega)
    obtain ⟨l, hl, hr⟩ := build_pcs len (off + 3) (fun i hi => by
      have := h (i + 1) (by omega)
      rw [show off + (i + 1) * 3 = off + 3 + i * 3 by omega] at this
      exact this)
    exact ⟨p :: l, by simp [hl], by simpa using h1, by simpa using h2, by simpa using h3, h4, hr⟩

theorem pcs_trod {fuel : Nat} {cs : List Value} {x : DataW H × List MemPlace} (h : DataW.trod enc Try.prog w base spare held fuel 22 cs = some x) :
    ∃ (v : Value) (l : List Pc), cs = [v] ∧ RdP w l v := by
  rcases DataW.trod_slice Try.underlying22 h with ⟨rfl, _⟩ | ⟨a, len, cap, elems, rest, n, rfl, rfl, rfl, hb, hl, hm, hlen, hel, _, _⟩
  · exact ⟨_, [], rfl, none, 0, rfl, by simp, by simp [maxLen], fun h => absurd h (by simp)⟩
  · rcases Nat.eq_zero_or_pos len with h0 | h0
    · exact ⟨_, [], rfl, some a, cap, by rw [h0]; rfl, by simp, hm, fun h => absurd h (by simp)⟩
    · rw [cells29] at hel
      have hE : ∀ i, i < len → ∃ p : Pc, a = ⟨a.block, a.off, none⟩ ∧ w.cell? (a.add (i * 3)) = some (.int .i64 p.keep) ∧ w.cell? ((a.add (i * 3)).add 1) = some (.int .i64 p.drop) ∧ w.cell? ((a.add (i * 3)).add 2) = some (.string p.put) ∧ p.put.size ≤ maxLen := by
        intro i hi
        have he := hel i hi
        rw [List.getElem?_eq_getElem (by omega)] at he
        obtain ⟨cs', h1, h2⟩ := Option.bind_eq_some_iff.1 he
        obtain ⟨xs, n', rfl, hx, hcl, hxl, hg⟩ := DataW.trod_struct Try.underlying29 h2
        rw [cells29] at hcl
        obtain ⟨_, _, hc⟩ := World.cells?_some h1
        obtain ⟨c0, c1, c2, rfl⟩ := list3 hcl
        skip
        have g0 : DataW.trod enc Try.prog w base spare held n' 3 (([c0, c1, c2].drop 0).take (Try.prog.cellsOf 3)) = xs[0]? := hg 0 _ rfl
        have g1 : DataW.trod enc Try.prog w base spare held n' 3 (([c0, c1, c2].drop 1).take (Try.prog.cellsOf 3)) = xs[1]? := hg 1 _ rfl
        have g2 : DataW.trod enc Try.prog w base spare held n' 9 (([c0, c1, c2].drop 2).take (Try.prog.cellsOf 9)) = xs[2]? := hg 2 _ rfl
        simp only [cells9, cells3] at g0 g1 g2
        rw [List.getElem?_eq_getElem (by rw [hxl]; decide)] at g0 g1 g2
        obtain ⟨i0, e0, _, _⟩ := DataW.trod_int Try.underlying3 g0
        obtain ⟨i1, e1, _, _⟩ := DataW.trod_int Try.underlying3 g1
        obtain ⟨s2, e2, _, m2⟩ := DataW.trod_string Try.underlying9 g2
        simp at e0 e1 e2
        subst e0 e1 e2
        have d0 := hc 0 (by omega)
        have d1 := hc 1 (by omega)
        have d2 := hc 2 (by omega)
        have ha : a = ⟨a.block, a.off, none⟩ := by
          have hz := hel 0 h0
          rw [List.getElem?_eq_getElem (by omega)] at hz
          obtain ⟨cs0, z1, _⟩ := Option.bind_eq_some_iff.1 hz
          have := spot_none (n := 2) z1
          simpa [add_zero_] using this
        exact ⟨⟨i0, i1, s2⟩, ha, by simpa [add_zero_] using d0, by simpa using d1, by simpa using d2, m2⟩
      obtain ⟨b, o, sp⟩ := a
      have hsp : sp = none := by obtain ⟨_, ha, _⟩ := hE 0 h0; simpa using ha
      subst hsp
      obtain ⟨l, hll, hr⟩ := build_pcs (w := w) (b := b) len o (fun i hi => by
        obtain ⟨p, _, h1, h2, h3, h4⟩ := hE i hi
        refine ⟨p, ?_, ?_, ?_, h4⟩
        · simpa [Addr.add_lit] using h1
        · simpa [Addr.add_lit] using h2
        · simpa [Addr.add_lit] using h3)
      exact ⟨_, l, rfl, some ⟨b, o, none⟩, cap, by rw [hll], by omega, hm, fun _ => ⟨b, o, rfl, hr⟩⟩

/-- Pieces that come in. -/
theorem open_pcs {r : Reach} {b0 : Nat} {v : Value} {d : DataW H} {p : List MemPlace} (hv : Value.okWide Try.prog w r b0 22 v) (h : DataW.Trod enc Try.prog w base spare held 22 v d p) : ∃ l : List Pc, RdP w l v := by
  obtain ⟨A, n, c, rfl⟩ := okWide_slice Try.underlying22 hv
  obtain ⟨fuel, hf⟩ := h
  obtain ⟨v, l, e, hr⟩ := pcs_trod hf
  simp [Value.cells] at e
  exact ⟨l, by rw [e]; exact hr⟩
end
end Go.Proofs.Ytmncjknfkkedmaa.Lx
