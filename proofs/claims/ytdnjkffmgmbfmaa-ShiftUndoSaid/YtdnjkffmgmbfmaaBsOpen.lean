/- Arguments that come in: a row of ints, an operation. -/
import Derived.Test.YtdnjkffmgmbfmaaBsData
import Derived.ChangeSame
import Derived.ChangeSlices
import Derived.Deep.Slices
import Derived.OpenShut
import Derived.Carry
namespace Go.Proofs.Ytdnjkffmgmbfmaa.Bs
open Go.RowKit Go.ChangeShapes Go.WideShapes Go.Proofs.Ytdnjkffmgmbfmaa.Bw

theorem cells26 : Try.prog.cellsOf 26 = 11 := by kernel_rfl
theorem cells61 : Try.prog.cellsOf 61 = 3 := by kernel_rfl
theorem cells3 : Try.prog.cellsOf 3 = 1 := by kernel_rfl
theorem cells4 : Try.prog.cellsOf 4 = 1 := by kernel_rfl
theorem cells5 : Try.prog.cellsOf 5 = 1 := by kernel_rfl
theorem cells9 : Try.prog.cellsOf 9 = 1 := by kernel_rfl
theorem cells22 : Try.prog.cellsOf 22 = 1 := by kernel_rfl
theorem cells23 : Try.prog.cellsOf 23 = 1 := by kernel_rfl
theorem cells24 : Try.prog.cellsOf 24 = 1 := by kernel_rfl

section
variable {H : Type} {enc : TypeId × Value → H} {w : World} {base : Nat} {spare : Nat → Bool} {held : Bool}

theorem list3 {α : Type} {l : List α} (h : l.length = 3) : ∃ a b c, l = [a, b, c] := by
  match l, h with
  | [a, b, c], _ => exact ⟨a, b, c, rfl⟩
theorem list11 {α : Type} {l : List α} (h : l.length = 11) : ∃ a b c d e f g i j k m, l = [a, b, c, d, e, f, g, i, j, k, m] := by
  match l, h with
  | [a, b, c, d, e, f, g, i, j, k, m], _ => exact ⟨a, b, c, d, e, f, g, i, j, k, m, rfl⟩
theorem add_zero_ (a : Addr) : a.add 0 = a := rfl
theorem spot_none {a : Addr} {n : Nat} {cs : List Value} (h : w.cells? base a (n + 1) = some cs) : a = ⟨a.block, a.off, none⟩ := by
  obtain ⟨_, hl, hc⟩ := World.cells?_some h
  have h0 := hc 0 (by omega)
  have e0 : a.add 0 = a := rfl
  rw [e0, List.getElem?_eq_getElem (by omega)] at h0
  obtain ⟨b, o, sp⟩ := a
  cases sp with
  | none => rfl
  | some s =>
    unfold World.cell? at h0
    split at h0 <;> simp at h0
theorem cell_plain {a : Addr} {u : Value} (h : w.cell? a = some u) : a = ⟨a.block, a.off, none⟩ := by
  obtain ⟨b, o, sp⟩ := a
  cases sp with
  | none => rfl
  | some s =>
    unfold World.cell? at h
    split at h <;> simp at h

theorem ints_trod {fuel : Nat} {cs : List Value} {x : DataW H × List MemPlace} (hf : DataW.trod enc Try.prog w base spare held fuel 22 cs = some x) : ∃ (v : Value) (l : List Int), cs = [v] ∧ RdI w l v := by
  rcases open_ints Try.underlying22 Try.underlying3 cells3 hf with ⟨rfl, _⟩ | ⟨a, n, c, zs, rfl, _, hl, hm, hz, _, hc, _⟩
  · exact ⟨_, [], rfl, RdS.nil_ _ _⟩
  · have hzl : n ≤ zs.length := by split at hz <;> omega
    refine ⟨_, zs.take n, rfl, ?_⟩
    have hlen : (zs.take n).length = n := by simp; omega
    rw [RdI, hlen]
    refine ⟨_, _, rfl, by simp; omega, hl, hm, fun h0 => ?_⟩
    have ha := cell_plain (hc 0 (by omega))
    obtain ⟨b, o, sp⟩ := a
    have hs : sp = none := by simpa [Addr.add] using ha
    subst hs
    refine ⟨b, o, rfl, fun j u hj => ?_⟩
    rw [List.getElem?_map] at hj
    have hjn : j < n := by
      rcases Nat.lt_or_ge j n with h | h
      · exact h
      · rw [List.getElem?_eq_none (by omega)] at hj; simp at hj
    have := hc j (by omega)
    rw [Addr.add_lit] at this
    rw [this, ← hj, List.getElem?_take, if_pos hjn, List.getD_eq_getElem?_getD, List.getElem?_eq_getElem (by omega)]
    rfl
theorem open_path {r : Reach} {b0 : Nat} {v : Value} {d : DataW H} {p : List MemPlace} (hv : Value.okWide Try.prog w r b0 22 v) (h : DataW.Trod enc Try.prog w base spare held 22 v d p) : ∃ l : List Int, RdI w l v := by
  obtain ⟨A, n, c, rfl⟩ := okWide_slice Try.underlying22 hv
  obtain ⟨fuel, hf⟩ := h
  obtain ⟨v, l, e, hr⟩ := ints_trod hf
  simp [Value.cells] at e
  exact ⟨l, by rw [e]; exact hr⟩

/-- Pieces, built up. -/
theorem build_pcs {b : Nat} : ∀ (len off : Nat), (∀ i, i < len → ∃ p : Pc, w.cell? ⟨b, off + i * 3, none⟩ = some (.int .i64 p.keep) ∧ w.cell? ⟨b, off + i * 3 + 1, none⟩ = some (.int .i64 p.drop) ∧ w.cell? ⟨b, off + i * 3 + 2, none⟩ = some (.string p.put) ∧ p.put.size ≤ maxLen) →
    ∃ l : List Pc, l.length = len ∧ rdPcs w b off l
  | 0, _, _ => ⟨[], rfl, trivial⟩
  | len + 1, off, h => by
    obtain ⟨p, h1, h2, h3, h4⟩ := h 0 (by omega)
    obtain ⟨l, hl, hr⟩ := build_pcs len (off + 3) (fun i hi => by
      have := h (i + 1) (by omega)
      rw [show off + (i + 1) * 3 = off + 3 + i * 3 by omega] at this
      exact this)
    exact ⟨p :: l, by simp [hl], by simpa using h1, by simpa using h2, by simpa using h3, h4, hr⟩

theorem pcs_trod {fuel : Nat} {cs : List Value} {x : DataW H × List MemPlace} (h : DataW.trod enc Try.prog w base spare held fuel 24 cs = some x) :
    ∃ (v : Value) (l : List Pc), cs = [v] ∧ RdP w l v := by
  rcases DataW.trod_slice Try.underlying24 h with ⟨rfl, _⟩ | ⟨a, len, cap, elems, rest, n, rfl, rfl, rfl, hb, hl, hm, hlen, hel, _, _⟩
  · exact ⟨_, [], rfl, none, 0, rfl, by simp, by simp [maxLen], fun h => absurd h (by simp)⟩
  · rcases Nat.eq_zero_or_pos len with h0 | h0
    · exact ⟨_, [], rfl, some a, cap, by rw [h0]; rfl, by simp, hm, fun h => absurd h (by simp)⟩
    · rw [cells61] at hel
      have hE : ∀ i, i < len → ∃ p : Pc, a = ⟨a.block, a.off, none⟩ ∧ w.cell? (a.add (i * 3)) = some (.int .i64 p.keep) ∧ w.cell? ((a.add (i * 3)).add 1) = some (.int .i64 p.drop) ∧ w.cell? ((a.add (i * 3)).add 2) = some (.string p.put) ∧ p.put.size ≤ maxLen := by
        intro i hi
        have he := hel i hi
        rw [List.getElem?_eq_getElem (by omega)] at he
        obtain ⟨cs', h1, h2⟩ := Option.bind_eq_some_iff.1 he
        obtain ⟨xs, n', rfl, hx, hcl, hxl, hg⟩ := DataW.trod_struct Try.underlying61 h2
        rw [cells61] at hcl
        obtain ⟨_, _, hc⟩ := World.cells?_some h1
        obtain ⟨c0, c1, c2, rfl⟩ := list3 hcl
        skip
        have g0 : DataW.trod enc Try.prog w base spare held n' 3 (([c0, c1, c2].drop 0).take (Try.prog.cellsOf 3)) = xs[0]? := hg 0 _ rfl
        have g1 : DataW.trod enc Try.prog w base spare held n' 3 (([c0, c1, c2].drop 1).take (Try.prog.cellsOf 3)) = xs[1]? := hg 1 _ rfl
        have g2 : DataW.trod enc Try.prog w base spare held n' 9 (([c0, c1, c2].drop 2).take (Try.prog.cellsOf 9)) = xs[2]? := hg 2 _ rfl
        simp only [cells9, cells3] at g0 g1 g2
        rw [List.getElem?_eq_getElem (by rw [hxl]; decide)] at g0 g1 g2
        obtain ⟨i0, e0, _, _⟩ := DataW.trod_int Try.underlying3 g0
        obtain ⟨i1, e1, _, _⟩ := DataW.trod_int Try.underlying3 g1
        obtain ⟨s2, e2, _, m2⟩ := DataW.trod_string Try.underlying9 g2
        simp at e0 e1 e2
        subst e0 e1 e2
        have d0 := hc 0 (by omega)
        have d1 := hc 1 (by omega)
        have d2 := hc 2 (by omega)
        have ha : a = ⟨a.block, a.off, none⟩ := by
          have hz := hel 0 h0
          rw [List.getElem?_eq_getElem (by omega)] at hz
          obtain ⟨cs0, z1, _⟩ := Option.bind_eq_some_iff.1 hz
          have := spot_none (n := 2) z1
          simpa [add_zero_] using this
        exact ⟨⟨i0, i1, s2⟩, ha, by simpa [add_zero_] using d0, by simpa using d1, by simpa using d2, m2⟩
      obtain ⟨b, o, sp⟩ := a
      have hsp : sp = none := by obtain ⟨_, ha, _⟩ := hE 0 h0; simpa using ha
      subst hsp
      obtain ⟨l, hll, hr⟩ := build_pcs (w := w) (b := b) len o (fun i hi => by
        obtain ⟨p, _, h1, h2, h3, h4⟩ := hE i hi
        refine ⟨p, ?_, ?_, ?_, h4⟩
        · simpa [Addr.add_lit] using h1
        · simpa [Addr.add_lit] using h2
        · simpa [Addr.add_lit] using h3)
      exact ⟨_, l, rfl, some ⟨b, o, none⟩, cap, by rw [hll], by omega, hm, fun _ => ⟨b, o, rfl, hr⟩⟩

set_option maxRecDepth 100000 in
theorem op_trod {fuel : Nat} {cs : List Value} {x : DataW H × List MemPlace} (h : DataW.trod enc Try.prog w base spare held fuel 26 cs = some x) : ∃ o : OpD, o.rd w (.agg cs.toArray) := by
  obtain ⟨xs, n, rfl, hx, hcl, hxl, hg⟩ := DataW.trod_struct Try.underlying26 h
  rw [cells26] at hcl
  obtain ⟨c0, c1, c2, c3, c4, c5, c6, c7, c8, c9, c10, rfl⟩ := list11 hcl
  have g0 : DataW.trod enc Try.prog w base spare held n 5 (([c0, c1, c2, c3, c4, c5, c6, c7, c8, c9, c10].drop 0).take (Try.prog.cellsOf 5)) = xs[0]? := hg 0 _ rfl
  have g1 : DataW.trod enc Try.prog w base spare held n 22 (([c0, c1, c2, c3, c4, c5, c6, c7, c8, c9, c10].drop 1).take (Try.prog.cellsOf 22)) = xs[1]? := hg 1 _ rfl
  have g2 : DataW.trod enc Try.prog w base spare held n 3 (([c0, c1, c2, c3, c4, c5, c6, c7, c8, c9, c10].drop 2).take (Try.prog.cellsOf 3)) = xs[2]? := hg 2 _ rfl
  have g3 : DataW.trod enc Try.prog w base spare held n 22 (([c0, c1, c2, c3, c4, c5, c6, c7, c8, c9, c10].drop 3).take (Try.prog.cellsOf 22)) = xs[3]? := hg 3 _ rfl
  have g4 : DataW.trod enc Try.prog w base spare held n 23 (([c0, c1, c2, c3, c4, c5, c6, c7, c8, c9, c10].drop 4).take (Try.prog.cellsOf 23)) = xs[4]? := hg 4 _ rfl
  have g5 : DataW.trod enc Try.prog w base spare held n 4 (([c0, c1, c2, c3, c4, c5, c6, c7, c8, c9, c10].drop 5).take (Try.prog.cellsOf 4)) = xs[5]? := hg 5 _ rfl
  have g6 : DataW.trod enc Try.prog w base spare held n 9 (([c0, c1, c2, c3, c4, c5, c6, c7, c8, c9, c10].drop 6).take (Try.prog.cellsOf 9)) = xs[6]? := hg 6 _ rfl
  have g7 : DataW.trod enc Try.prog w base spare held n 9 (([c0, c1, c2, c3, c4, c5, c6, c7, c8, c9, c10].drop 7).take (Try.prog.cellsOf 9)) = xs[7]? := hg 7 _ rfl
  have g8 : DataW.trod enc Try.prog w base spare held n 9 (([c0, c1, c2, c3, c4, c5, c6, c7, c8, c9, c10].drop 8).take (Try.prog.cellsOf 9)) = xs[8]? := hg 8 _ rfl
  have g9 : DataW.trod enc Try.prog w base spare held n 4 (([c0, c1, c2, c3, c4, c5, c6, c7, c8, c9, c10].drop 9).take (Try.prog.cellsOf 4)) = xs[9]? := hg 9 _ rfl
  have g10 : DataW.trod enc Try.prog w base spare held n 24 (([c0, c1, c2, c3, c4, c5, c6, c7, c8, c9, c10].drop 10).take (Try.prog.cellsOf 24)) = xs[10]? := hg 10 _ rfl
  simp only [cells3, cells4, cells5, cells9, cells22, cells23, cells24] at g0 g1 g2 g3 g4 g5 g6 g7 g8 g9 g10
  rw [List.getElem?_eq_getElem (by rw [hxl]; decide)] at g0 g1 g2 g3 g4 g5 g6 g7 g8 g9 g10
  obtain ⟨i0, e0, _, _⟩ := DataW.trod_int Try.underlying5 g0
  obtain ⟨v1, l1, e1, r1⟩ := ints_trod g1
  obtain ⟨i2, e2, _, _⟩ := DataW.trod_int Try.underlying3 g2
  obtain ⟨v3, l3, e3, r3⟩ := ints_trod g3
  obtain ⟨i4, e4, _, _⟩ := DataW.trod_int Try.underlying23 g4
  obtain ⟨b5, e5, _⟩ := DataW.trod_bool Try.underlying4 g5
  obtain ⟨s6, e6, _, m6⟩ := DataW.trod_string Try.underlying9 g6
  obtain ⟨s7, e7, _, m7⟩ := DataW.trod_string Try.underlying9 g7
  obtain ⟨s8, e8, _, m8⟩ := DataW.trod_string Try.underlying9 g8
  obtain ⟨b9, e9, _⟩ := DataW.trod_bool Try.underlying4 g9
  obtain ⟨v10, l10, e10, r10⟩ := pcs_trod g10
  simp at e0 e1 e2 e3 e4 e5 e6 e7 e8 e9 e10
  subst e0 e1 e2 e3 e4 e5 e6 e7 e8 e9 e10
  exact ⟨⟨i0, l1, i2, l3, i4, b5, s6, s7, s8, b9, l10⟩, _, _, _, rfl, r1, r3, r10, m6, m7, m8⟩

/-- An operation that comes in. -/
theorem open_op {r : Reach} {b0 : Nat} {v : Value} {d : DataW H} {p : List MemPlace} (hv : Value.okWide Try.prog w r b0 26 v) (h : DataW.Trod enc Try.prog w base spare held 26 v d p) : ∃ o : OpD, o.rd w v := by
  obtain ⟨cs, rfl, hsz⟩ := okWide_struct Try.underlying26 hv
  obtain ⟨fuel, hf⟩ := h
  obtain ⟨o, ho⟩ := op_trod hf
  exact ⟨o, by simpa [Value.cells] using ho⟩
end
end Go.Proofs.Ytdnjkffmgmbfmaa.Bs
