/- Chapter 07: arguments that come in: data, calls, paths. -/
import Derived.Test.YtobbdeakocgdcaaProg
import Derived.Test.YtobbdeakocgdcaaArData
import Derived.ChangeSame
import Derived.ChangeSlices
import Derived.Deep.Slices
import Derived.OpenShut
import Derived.Carry
namespace Go.Proofs.Ytobbdeakocgdcaa.Ar
open Go.RowKit Go.ChangeShapes Go.WideShapes Go.Proofs.Ytobbdeakocgdcaa.Bw

theorem cells61 : Try.prog.cellsOf 61 = 2 := by kernel_rfl
theorem cells40 : Try.prog.cellsOf 40 = 9 := by kernel_rfl
theorem cells25 : Try.prog.cellsOf 25 = 5 := by kernel_rfl
theorem cells3 : Try.prog.cellsOf 3 = 1 := by kernel_rfl
theorem cells4 : Try.prog.cellsOf 4 = 1 := by kernel_rfl
theorem cells9 : Try.prog.cellsOf 9 = 1 := by kernel_rfl
theorem cells22 : Try.prog.cellsOf 22 = 1 := by kernel_rfl
theorem cells23 : Try.prog.cellsOf 23 = 1 := by kernel_rfl
theorem cells33 : Try.prog.cellsOf 33 = 1 := by kernel_rfl

/-- Data that read, however many attributes. -/
structure DataRd (w : World) (d : Da) (av : Value) : Prop where
  ids : 0 ≤ d.id ∧ d.id ≤ 18446744073709551615
  lab : d.label.size ≤ maxLen
  txt : d.text.size ≤ maxLen
  ats : RdS w 2 d.attrs.length (attrCells d.attrs) av
theorem DataRd.shape {w : World} {d : Da} {av : Value} (h : DataRd w d av) : ∃ A k c, av = .slice A k c := by
  obtain ⟨A, c, rfl, _⟩ := h.ats
  exact ⟨A, _, c, rfl⟩
theorem DataRd.few {w : World} {d : Da} {av : Value} (h : DataRd w d av) (hf : d.attrs.length ≤ 1000000) : DataIn w d av := ⟨h.ids, h.lab, h.txt, h.ats, hf⟩
theorem DataRd.ext {A B : World} (k : Ext A B) {d : Da} {av : Value} (h : DataRd A d av) : DataRd B d av := ⟨h.ids, h.lab, h.txt, RdS.ext k h.ats⟩

section
variable {H : Type} {enc : TypeId × Value → H} {w : World} {base : Nat} {spare : Nat → Bool} {held : Bool}
theorem list5 {α : Type} {l : List α} (h : l.length = 5) : ∃ a b c d e, l = [a, b, c, d, e] := by
  match l, h with
  | [a, b, c, d, e], _ => exact ⟨a, b, c, d, e, rfl⟩
theorem add_zero_ (a : Addr) : a.add 0 = a := rfl
theorem spot_none {a : Addr} {n : Nat} {cs : List Value} (h : w.cells? base a (n + 1) = some cs) : a = ⟨a.block, a.off, none⟩ := by
  obtain ⟨_, hl, hc⟩ := World.cells?_some h
  have h0 := hc 0 (by omega)
  have e0 : a.add 0 = a := rfl
  rw [e0, List.getElem?_eq_getElem (by omega)] at h0
  obtain ⟨b, o, sp⟩ := a
  cases sp with
  | none => rfl
  | some s =>
    unfold World.cell? at h0
    split at h0 <;> simp at h0
theorem cell_plain {a : Addr} {u : Value} (h : w.cell? a = some u) : a = ⟨a.block, a.off, none⟩ := by
  obtain ⟨b, o, sp⟩ := a
  cases sp with
  | none => rfl
  | some s =>
    unfold World.cell? at h
    split at h <;> simp at h
theorem wf_u64 {n : Int} (h : (Lit.int .u64 n).wf = true) : 0 ≤ n ∧ n ≤ 18446744073709551615 := by
  simpa [Lit.wf, IntKind.min, IntKind.max, IntKind.signed, IntKind.bits] using h
theorem build_attrs {b : Nat} : ∀ (len off : Nat), (∀ i, i < len → ∃ k v : ByteArray, w.cell? ⟨b, off + i * 2, none⟩ = some (.string k) ∧ w.cell? ⟨b, off + i * 2 + 1, none⟩ = some (.string v)) →
    ∃ l : List (ByteArray × ByteArray), l.length = len ∧ ∀ (j : Nat) (u : Value), (attrCells l)[j]? = some u → w.cell? ⟨b, off + j, none⟩ = some u
  | 0, _, _ => ⟨[], rfl, fun j u h => by cases h⟩
  | len + 1, off, h => by
    obtain ⟨k, v, h1, h2⟩ := h 0 (by omega)
    obtain ⟨l, hl, hr⟩ := build_attrs len (off + 2) (fun i hi => by
      have := h (i + 1) (by omega)
      rw [show off + (i + 1) * 2 = off + 2 + i * 2 by omega] at this
      exact this)
    refine ⟨(k, v) :: l, by simp [hl], fun j u hu => ?_⟩
    match j, hu with
    | 0, hu =>
      obtain rfl := Option.some.inj hu
      simpa using h1
    | 1, hu =>
      obtain rfl := Option.some.inj hu
      simpa using h2
    | j + 2, hu =>
      have := hr j u hu
      rwa [show off + 2 + j = off + (j + 2) by omega] at this
theorem attrs_trod {fuel : Nat} {cs : List Value} {x : DataW H × List MemPlace} (h : DataW.trod enc Try.prog w base spare held fuel 23 cs = some x) :
    ∃ (v : Value) (l : List (ByteArray × ByteArray)), cs = [v] ∧ RdS w 2 l.length (attrCells l) v := by
  rcases DataW.trod_slice Try.underlying23 h with ⟨rfl, _⟩ | ⟨a, len, cap, elems, rest, n, rfl, rfl, rfl, hb, hl, hm, hlen, hel, _, _⟩
  · exact ⟨_, [], rfl, RdS.nil_ _ _⟩
  · rcases Nat.eq_zero_or_pos len with h0 | h0
    · exact ⟨_, [], rfl, some a, cap, by rw [h0]; rfl, rfl, Nat.zero_le _, hm, fun h => absurd h (by simp)⟩
    · rw [cells61] at hel
      have hE : ∀ i, i < len → ∃ k v : ByteArray, a = ⟨a.block, a.off, none⟩ ∧ w.cell? (a.add (i * 2)) = some (.string k) ∧ w.cell? ((a.add (i * 2)).add 1) = some (.string v) := by
        intro i hi
        have he := hel i hi
        rw [List.getElem?_eq_getElem (by omega)] at he
        obtain ⟨cs', h1, h2⟩ := Option.bind_eq_some_iff.1 he
        obtain ⟨xs, n', rfl, hx, hcl, hxl, hg⟩ := DataW.trod_struct Try.underlying61 h2
        rw [cells61] at hcl
        obtain ⟨_, _, hc⟩ := World.cells?_some h1
        match cs', hcl with
        | [c0, c1], _ =>
          have g0 : DataW.trod enc Try.prog w base spare held n' 9 (([c0, c1].drop 0).take (Try.prog.cellsOf 9)) = xs[0]? := hg 0 _ rfl
          have g1 : DataW.trod enc Try.prog w base spare held n' 9 (([c0, c1].drop 1).take (Try.prog.cellsOf 9)) = xs[1]? := hg 1 _ rfl
          simp only [cells9] at g0 g1
          rw [List.getElem?_eq_getElem (by rw [hxl]; decide)] at g0 g1
          obtain ⟨s0, e0, _, m0⟩ := DataW.trod_string Try.underlying9 g0
          obtain ⟨s1, e1, _, m1⟩ := DataW.trod_string Try.underlying9 g1
          simp at e0 e1
          subst e0 e1
          have d0 := hc 0 (by omega)
          have d1 := hc 1 (by omega)
          have ha : a = ⟨a.block, a.off, none⟩ := by
            have hz := hel 0 h0
            rw [List.getElem?_eq_getElem (by omega)] at hz
            obtain ⟨cs0, z1, _⟩ := Option.bind_eq_some_iff.1 hz
            have := spot_none (n := 1) z1
            simpa [add_zero_] using this
          exact ⟨s0, s1, ha, by simpa [add_zero_] using d0, by simpa using d1⟩
      obtain ⟨b, o, sp⟩ := a
      have hsp : sp = none := by obtain ⟨_, _, ha, _⟩ := hE 0 h0; simpa using ha
      subst hsp
      obtain ⟨l, hll, hr⟩ := build_attrs (w := w) (b := b) len o (fun i hi => by
        obtain ⟨k, v, _, h1, h2⟩ := hE i hi
        refine ⟨k, v, ?_, ?_⟩
        · simpa [Addr.add_lit] using h1
        · simpa [Addr.add_lit] using h2)
      exact ⟨_, l, rfl, some ⟨b, o, none⟩, cap, by rw [hll], by rw [attrCells_len], by omega, hm, fun _ => ⟨b, o, rfl, hr⟩⟩
theorem data_trod {fuel : Nat} {cs : List Value} {x : DataW H × List MemPlace} (h : DataW.trod enc Try.prog w base spare held fuel 25 cs = some x) : ∃ (d : Da) (av : Value), cs = [.int .u64 d.id, .bool d.leaf, .string d.label, av, .string d.text] ∧ DataRd w d av := by
  obtain ⟨xs, n, rfl, hx, hcl, hxl, hg⟩ := DataW.trod_struct Try.underlying25 h
  rw [cells25] at hcl
  obtain ⟨c0, c1, c2, c3, c4, rfl⟩ := list5 hcl
  have g0 : DataW.trod enc Try.prog w base spare held n 22 (([c0, c1, c2, c3, c4].drop 0).take (Try.prog.cellsOf 22)) = xs[0]? := hg 0 _ rfl
  have g1 : DataW.trod enc Try.prog w base spare held n 4 (([c0, c1, c2, c3, c4].drop 1).take (Try.prog.cellsOf 4)) = xs[1]? := hg 1 _ rfl
  have g2 : DataW.trod enc Try.prog w base spare held n 9 (([c0, c1, c2, c3, c4].drop 2).take (Try.prog.cellsOf 9)) = xs[2]? := hg 2 _ rfl
  have g3 : DataW.trod enc Try.prog w base spare held n 23 (([c0, c1, c2, c3, c4].drop 3).take (Try.prog.cellsOf 23)) = xs[3]? := hg 3 _ rfl
  have g4 : DataW.trod enc Try.prog w base spare held n 9 (([c0, c1, c2, c3, c4].drop 4).take (Try.prog.cellsOf 9)) = xs[4]? := hg 4 _ rfl
  simp only [cells4, cells9, cells22, cells23] at g0 g1 g2 g3 g4
  rw [List.getElem?_eq_getElem (by rw [hxl]; decide)] at g0 g1 g2 g3 g4
  obtain ⟨i0, e0, _, m0⟩ := DataW.trod_int Try.underlying22 g0
  obtain ⟨b1, e1, _⟩ := DataW.trod_bool Try.underlying4 g1
  obtain ⟨s2, e2, _, m2⟩ := DataW.trod_string Try.underlying9 g2
  obtain ⟨v3, l3, e3, r3⟩ := attrs_trod g3
  obtain ⟨s4, e4, _, m4⟩ := DataW.trod_string Try.underlying9 g4
  simp at e0 e1 e2 e3 e4
  subst e0 e1 e2 e3 e4
  exact ⟨⟨i0, b1, s2, l3, s4⟩, _, rfl, wf_u64 m0, m2, m4, r3⟩
/-- Data that come in. -/
theorem open_data {r : Reach} {b0 : Nat} {v : Value} {d : DataW H} {p : List MemPlace} (hv : Value.okWide Try.prog w r b0 25 v) (h : DataW.Trod enc Try.prog w base spare held 25 v d p) : ∃ (x : Da) (av : Value), v = x.val av ∧ DataRd w x av := by
  obtain ⟨cs, rfl, hsz⟩ := okWide_struct Try.underlying25 hv
  obtain ⟨fuel, hf⟩ := h
  obtain ⟨x, av, e, hr⟩ := data_trod hf
  refine ⟨x, av, ?_, hr⟩
  simp [Value.cells] at e
  rw [Da.val]
  congr 1
  rw [← e]
end
end Go.Proofs.Ytobbdeakocgdcaa.Ar
