/- Chapter 11: arguments that come in: lists of operations, nodes, rows of ints. (Printed by gwopen.py.) -/
import Derived.Test.YtdnjkffmgmbfmaaBwWeighPlain
import Derived.Test.YtdnjkffmgmbfmaaProg
import Derived.ChangeSame
import Derived.ChangeSlices
import Derived.Deep.Slices
import Derived.OpenShut
import Derived.Carry
namespace Go.Proofs.Ytdnjkffmgmbfmaa.Sy
open Go.RowKit Go.ChangeShapes Go.WideShapes Go.Proofs.Ytdnjkffmgmbfmaa.Bw

theorem cells66 : Try.prog.cellsOf 26 = 11 := by kernel_rfl
theorem cells69 : Try.prog.cellsOf 61 = 3 := by kernel_rfl
theorem cells3 : Try.prog.cellsOf 3 = 1 := by kernel_rfl
theorem cells4 : Try.prog.cellsOf 4 = 1 := by kernel_rfl
theorem cells5 : Try.prog.cellsOf 5 = 1 := by kernel_rfl
theorem cells9 : Try.prog.cellsOf 9 = 1 := by kernel_rfl
theorem cells33 : Try.prog.cellsOf 22 = 1 := by kernel_rfl
theorem cells28 : Try.prog.cellsOf 23 = 1 := by kernel_rfl
theorem cells64 : Try.prog.cellsOf 24 = 1 := by kernel_rfl
theorem cells32 : Try.prog.cellsOf 42 = 6 := by kernel_rfl
theorem cells78 : Try.prog.cellsOf 73 = 2 := by kernel_rfl
theorem cells29 : Try.prog.cellsOf 39 = 1 := by kernel_rfl
theorem cells30 : Try.prog.cellsOf 40 = 1 := by kernel_rfl
section
variable {H : Type} {enc : TypeId × Value → H} {w : World} {base : Nat} {spare : Nat → Bool} {held : Bool}

set_option maxRecDepth 100000 in
theorem list3 {α : Type} {l : List α} (h : l.length = 3) : ∃ a b c, l = [a, b, c] := by
 match l, h with
 | [a, b, c], _ => exact ⟨a, b, c, rfl⟩
set_option maxRecDepth 100000 in
theorem list11 {α : Type} {l : List α} (h : l.length = 11) : ∃ a b c d e f g i j k m, l = [a, b, c, d, e, f, g, i, j, k, m] := by
 match l, h with
 | [a, b, c, d, e, f, g, i, j, k, m], _ => exact ⟨a, b, c, d, e, f, g, i, j, k, m, rfl⟩
set_option maxRecDepth 100000 in
theorem add_zero_ (a : Addr) : a.add 0 = a := rfl
set_option maxRecDepth 100000 in
theorem spot_none {a : Addr} {n : Nat} {cs : List Value} (h : w.cells? base a (n + 1) = some cs) : a = ⟨a.block, a.off, none⟩ := by
 obtain ⟨_, hl, hc⟩ := World.cells?_some h
 have h0 := hc 0 (by omega)
 have e0 : a.add 0 = a := rfl
 rw [e0, List.getElem?_eq_getElem (by omega)] at h0
 obtain ⟨b, o, sp⟩ := a
 cases sp with
 | none => rfl
 | some s =>
  unfold World.cell? at h0
  split at h0 <;> simp at h0
set_option maxRecDepth 100000 in
theorem cell_plain {a : Addr} {u : Value} (h : w.cell? a = some u) : a = ⟨a.block, a.off, none⟩ := by
 obtain ⟨b, o, sp⟩ := a
 cases sp with
 | none => rfl
 | some s =>
  unfold World.cell? at h
  split at h <;> simp at h

set_option maxRecDepth 100000 in
theorem wf_u64 {n : Int} (h : (Lit.int .u64 n).wf = true) : 0 ≤ n ∧ n ≤ 18446744073709551615 := by
 simpa [Lit.wf, IntKind.min, IntKind.max, IntKind.signed, IntKind.bits] using h
set_option maxRecDepth 100000 in
theorem wf_u8 {n : Int} (h : (Lit.int .u8 n).wf = true) : 0 ≤ n ∧ n ≤ 255 := by
 simpa [Lit.wf, IntKind.min, IntKind.max, IntKind.signed, IntKind.bits] using h
set_option maxRecDepth 100000 in
theorem ints_trod {fuel : Nat} {cs : List Value} {x : DataW H × List MemPlace} (hf : DataW.trod enc Try.prog w base spare held fuel 22 cs = some x) : ∃ (v : Value) (l : List Int), cs = [v] ∧ RdI w l v := by
 rcases open_ints Try.underlying22 Try.underlying3 cells3 hf with ⟨rfl, _⟩ | ⟨a, n, c, zs, rfl, _, hl, hm, hz, _, hc, _⟩
 ·exact ⟨_, [], rfl, RdS.nil_ _ _⟩
 ·have hzl : n ≤ zs.length := by split at hz <;> omega
  refine ⟨_, zs.take n, rfl, ?_⟩
  have hlen : (zs.take n).length = n := by simp; omega
  rw [RdI, hlen]
  refine ⟨_, _, rfl, by simp; omega, hl, hm, fun h0 => ?_⟩
  have ha := cell_plain (hc 0 (by omega))
  obtain ⟨b, o, sp⟩ := a
  have hs : sp = none := by simpa [Addr.add] using ha
  subst hs
  refine ⟨b, o, rfl, fun j u hj => ?_⟩
  rw [List.getElem?_map] at hj
  have hjn : j < n := by
   rcases Nat.lt_or_ge j n with h | h
   ·exact h
   ·rw [List.getElem?_eq_none (by omega)] at hj; simp at hj
  have := hc j (by omega)
  rw [Addr.add_lit] at this
  rw [this, ← hj, List.getElem?_take, if_pos hjn, List.getD_eq_getElem?_getD, List.getElem?_eq_getElem (by omega)]
  rfl

set_option maxRecDepth 100000 in
/-- Pieces, built up. -/
theorem build_pcs {b : Nat} : ∀ (len off : Nat), (∀ i, i < len → ∃ p : Pc, w.cell? ⟨b, off + i * 3, none⟩ = some (.int .i64 p.keep) ∧ w.cell? ⟨b, off + i * 3 + 1, none⟩ = some (.int .i64 p.drop) ∧ w.cell? ⟨b, off + i * 3 + 2, none⟩ = some (.string p.put) ∧ p.put.size ≤ maxLen) →
  ∃ l : List Pc, l.length = len ∧ rdPcs w b off l
 | 0, _, _ => ⟨[], rfl, trivial⟩
 | len + 1, off, h => by
  obtain ⟨p, h1, h2, h3, h4⟩ := h 0 (by omega)
  obtain ⟨l, hl, hr⟩ := build_pcs len (off + 3) (fun i hi => by
   have := h (i + 1) (by omega)
   rw [show off + (i + 1) * 3 = off + 3 + i * 3 by omega] at this
   exact this)
  exact ⟨p :: l, by simp [hl], by simpa using h1, by simpa using h2, by simpa using h3, h4, hr⟩

set_option maxRecDepth 100000 in
theorem pcs_trod {fuel : Nat} {cs : List Value} {x : DataW H × List MemPlace} (h : DataW.trod enc Try.prog w base spare held fuel 24 cs = some x) :
  ∃ (v : Value) (l : List Pc), cs = [v] ∧ RdP w l v := by
 rcases DataW.trod_slice Try.underlying24 h with ⟨rfl, _⟩ | ⟨a, len, cap, elems, rest, n, rfl, rfl, rfl, hb, hl, hm, hlen, hel, _, _⟩
 ·exact ⟨_, [], rfl, none, 0, rfl, by simp, by simp [maxLen], fun h => absurd h (by simp)⟩
 ·rcases Nat.eq_zero_or_pos len with h0 | h0
  ·exact ⟨_, [], rfl, some a, cap, by rw [h0]; rfl, by simp, hm, fun h => absurd h (by simp)⟩
  ·rw [cells69] at hel
   have hE : ∀ i, i < len → ∃ p : Pc, a = ⟨a.block, a.off, none⟩ ∧ w.cell? (a.add (i * 3)) = some (.int .i64 p.keep) ∧ w.cell? ((a.add (i * 3)).add 1) = some (.int .i64 p.drop) ∧ w.cell? ((a.add (i * 3)).add 2) = some (.string p.put) ∧ p.put.size ≤ maxLen := by
    intro i hi
    have he := hel i hi
    rw [List.getElem?_eq_getElem (by omega)] at he
    obtain ⟨cs', h1, h2⟩ := Option.bind_eq_some_iff.1 he
    obtain ⟨xs, n', rfl, hx, hcl, hxl, hg⟩ := DataW.trod_struct Try.underlying61 h2
    rw [cells69] at hcl
    obtain ⟨_, _, hc⟩ := World.cells?_some h1
    obtain ⟨c0, c1, c2, rfl⟩ := list3 hcl
    skip
    have g0 : DataW.trod enc Try.prog w base spare held n' 3 (([c0, c1, c2].drop 0).take (Try.prog.cellsOf 3)) = xs[0]? := hg 0 _ rfl
    have g1 : DataW.trod enc Try.prog w base spare held n' 3 (([c0, c1, c2].drop 1).take (Try.prog.cellsOf 3)) = xs[1]? := hg 1 _ rfl
    have g2 : DataW.trod enc Try.prog w base spare held n' 9 (([c0, c1, c2].drop 2).take (Try.prog.cellsOf 9)) = xs[2]? := hg 2 _ rfl
    simp only [cells9, cells3] at g0 g1 g2
    rw [List.getElem?_eq_getElem (by rw [hxl]; decide)] at g0 g1 g2
    obtain ⟨i0, e0, _, _⟩ := DataW.trod_int Try.underlying3 g0
    obtain ⟨i1, e1, _, _⟩ := DataW.trod_int Try.underlying3 g1
    obtain ⟨s2, e2, _, m2⟩ := DataW.trod_string Try.underlying9 g2
    simp at e0 e1 e2
    subst e0 e1 e2
    have d0 := hc 0 (by omega)
    have d1 := hc 1 (by omega)
    have d2 := hc 2 (by omega)
    have ha : a = ⟨a.block, a.off, none⟩ := by
     have hz := hel 0 h0
     rw [List.getElem?_eq_getElem (by omega)] at hz
     obtain ⟨cs0, z1, _⟩ := Option.bind_eq_some_iff.1 hz
     have := spot_none (n := 2) z1
     simpa [add_zero_] using this
    exact ⟨⟨i0, i1, s2⟩, ha, by simpa [add_zero_] using d0, by simpa using d1, by simpa using d2, m2⟩
   obtain ⟨b, o, sp⟩ := a
   have hsp : sp = none := by obtain ⟨_, ha, _⟩ := hE 0 h0; simpa using ha
   subst hsp
   obtain ⟨l, hll, hr⟩ := build_pcs (w := w) (b := b) len o (fun i hi => by
    obtain ⟨p, _, h1, h2, h3, h4⟩ := hE i hi
    refine ⟨p, ?_, ?_, ?_, h4⟩
    ·simpa [Addr.add_lit] using h1
    ·simpa [Addr.add_lit] using h2
    ·simpa [Addr.add_lit] using h3)
   exact ⟨_, l, rfl, some ⟨b, o, none⟩, cap, by rw [hll], by omega, hm, fun _ => ⟨b, o, rfl, hr⟩⟩

set_option maxRecDepth 100000 in
theorem op_trod {fuel : Nat} {cs : List Value} {x : DataW H × List MemPlace} (h : DataW.trod enc Try.prog w base spare held fuel 26 cs = some x) : cs.length = 11 ∧ ∃ o : OpD, o.rd w (.agg cs.toArray) := by
 obtain ⟨xs, n, rfl, hx, hcl, hxl, hg⟩ := DataW.trod_struct Try.underlying26 h
 rw [cells66] at hcl
 refine ⟨hcl, ?_⟩
 obtain ⟨c0, c1, c2, c3, c4, c5, c6, c7, c8, c9, c10, rfl⟩ := list11 hcl
 have g0 : DataW.trod enc Try.prog w base spare held n 5 (([c0, c1, c2, c3, c4, c5, c6, c7, c8, c9, c10].drop 0).take (Try.prog.cellsOf 5)) = xs[0]? := hg 0 _ rfl
 have g1 : DataW.trod enc Try.prog w base spare held n 22 (([c0, c1, c2, c3, c4, c5, c6, c7, c8, c9, c10].drop 1).take (Try.prog.cellsOf 22)) = xs[1]? := hg 1 _ rfl
 have g2 : DataW.trod enc Try.prog w base spare held n 3 (([c0, c1, c2, c3, c4, c5, c6, c7, c8, c9, c10].drop 2).take (Try.prog.cellsOf 3)) = xs[2]? := hg 2 _ rfl
 have g3 : DataW.trod enc Try.prog w base spare held n 22 (([c0, c1, c2, c3, c4, c5, c6, c7, c8, c9, c10].drop 3).take (Try.prog.cellsOf 22)) = xs[3]? := hg 3 _ rfl
 have g4 : DataW.trod enc Try.prog w base spare held n 23 (([c0, c1, c2, c3, c4, c5, c6, c7, c8, c9, c10].drop 4).take (Try.prog.cellsOf 23)) = xs[4]? := hg 4 _ rfl
 have g5 : DataW.trod enc Try.prog w base spare held n 4 (([c0, c1, c2, c3, c4, c5, c6, c7, c8, c9, c10].drop 5).take (Try.prog.cellsOf 4)) = xs[5]? := hg 5 _ rfl
 have g6 : DataW.trod enc Try.prog w base spare held n 9 (([c0, c1, c2, c3, c4, c5, c6, c7, c8, c9, c10].drop 6).take (Try.prog.cellsOf 9)) = xs[6]? := hg 6 _ rfl
 have g7 : DataW.trod enc Try.prog w base spare held n 9 (([c0, c1, c2, c3, c4, c5, c6, c7, c8, c9, c10].drop 7).take (Try.prog.cellsOf 9)) = xs[7]? := hg 7 _ rfl
 have g8 : DataW.trod enc Try.prog w base spare held n 9 (([c0, c1, c2, c3, c4, c5, c6, c7, c8, c9, c10].drop 8).take (Try.prog.cellsOf 9)) = xs[8]? := hg 8 _ rfl
 have g9 : DataW.trod enc Try.prog w base spare held n 4 (([c0, c1, c2, c3, c4, c5, c6, c7, c8, c9, c10].drop 9).take (Try.prog.cellsOf 4)) = xs[9]? := hg 9 _ rfl
 have g10 : DataW.trod enc Try.prog w base spare held n 24 (([c0, c1, c2, c3, c4, c5, c6, c7, c8, c9, c10].drop 10).take (Try.prog.cellsOf 24)) = xs[10]? := hg 10 _ rfl
 simp only [cells3, cells4, cells5, cells9, cells33, cells28, cells64] at g0 g1 g2 g3 g4 g5 g6 g7 g8 g9 g10
 rw [List.getElem?_eq_getElem (by rw [hxl]; decide)] at g0 g1 g2 g3 g4 g5 g6 g7 g8 g9 g10
 obtain ⟨i0, e0, _, m0⟩ := DataW.trod_int Try.underlying5 g0
 obtain ⟨v1, l1, e1, r1⟩ := ints_trod g1
 obtain ⟨i2, e2, _, _⟩ := DataW.trod_int Try.underlying3 g2
 obtain ⟨v3, l3, e3, r3⟩ := ints_trod g3
 obtain ⟨i4, e4, _, m4⟩ := DataW.trod_int Try.underlying23 g4
 obtain ⟨b5, e5, _⟩ := DataW.trod_bool Try.underlying4 g5
 obtain ⟨s6, e6, _, m6⟩ := DataW.trod_string Try.underlying9 g6
 obtain ⟨s7, e7, _, m7⟩ := DataW.trod_string Try.underlying9 g7
 obtain ⟨s8, e8, _, m8⟩ := DataW.trod_string Try.underlying9 g8
 obtain ⟨b9, e9, _⟩ := DataW.trod_bool Try.underlying4 g9
 obtain ⟨v10, l10, e10, r10⟩ := pcs_trod g10
 simp at e0 e1 e2 e3 e4 e5 e6 e7 e8 e9 e10
 subst e0 e1 e2 e3 e4 e5 e6 e7 e8 e9 e10
 exact ⟨⟨i0, l1, i2, l3, i4, b5, s6, s7, s8, b9, l10⟩, _, _, _, rfl, r1, r3, r10, m6, m7, m8, wf_u64 m4, wf_u8 m0⟩

set_option maxRecDepth 100000 in
/-- Attributes, built up. -/
theorem build_attrs {b : Nat} : ∀ (len off : Nat), (∀ i, i < len → ∃ k v : ByteArray, w.cell? ⟨b, off + i * 2, none⟩ = some (.string k) ∧ w.cell? ⟨b, off + i * 2 + 1, none⟩ = some (.string v) ∧ k.size ≤ maxLen ∧ v.size ≤ maxLen) →
  ∃ l : List (ByteArray × ByteArray), l.length = len ∧ rdAttrs w b off l
 | 0, _, _ => ⟨[], rfl, trivial⟩
 | len + 1, off, h => by
  obtain ⟨k, v, h1, h2, h3, h4⟩ := h 0 (by omega)
  obtain ⟨l, hl, hr⟩ := build_attrs len (off + 2) (fun i hi => by
   have := h (i + 1) (by omega)
   rw [show off + (i + 1) * 2 = off + 2 + i * 2 by omega] at this
   exact this)
  exact ⟨(k, v) :: l, by simp [hl], by simpa using h1, by simpa using h2, h3, h4, hr⟩

set_option maxRecDepth 100000 in
theorem build_kids {b : Nat} : ∀ (len off : Nat), (∀ i, i < len → ∃ (k : Nd) (c0 c1 c2 c3 c4 c5 : Value), w.cell? ⟨b, off + i * 6, none⟩ = some c0 ∧ w.cell? ⟨b, off + i * 6 + 1, none⟩ = some c1 ∧ w.cell? ⟨b, off + i * 6 + 2, none⟩ = some c2 ∧
   w.cell? ⟨b, off + i * 6 + 3, none⟩ = some c3 ∧ w.cell? ⟨b, off + i * 6 + 4, none⟩ = some c4 ∧ w.cell? ⟨b, off + i * 6 + 5, none⟩ = some c5 ∧ k.rd w (.agg #[c0, c1, c2, c3, c4, c5])) →
  ∃ l : List Nd, l.length = len ∧ rdKids w b off l
 | 0, _, _ => ⟨[], rfl, by unfold rdKids; trivial⟩
 | len + 1, off, h => by
  obtain ⟨k, c0, c1, c2, c3, c4, c5, h0, h1, h2, h3, h4, h5, h6⟩ := h 0 (by omega)
  obtain ⟨l, hl, hr⟩ := build_kids len (off + 6) (fun i hi => by
   have := h (i + 1) (by omega)
   rw [show off + (i + 1) * 6 = off + 6 + i * 6 by omega] at this
   exact this)
  refine ⟨k :: l, by simp [hl], ?_⟩
  unfold rdKids
  exact ⟨⟨c0, c1, c2, c3, c4, c5, by simpa using h0, by simpa using h1, by simpa using h2, by simpa using h3, by simpa using h4, by simpa using h5, h6⟩, hr⟩

set_option maxRecDepth 100000 in
theorem attrs_trod {fuel : Nat} {cs : List Value} {x : DataW H × List MemPlace} (h : DataW.trod enc Try.prog w base spare held fuel 39 cs = some x) :
  ∃ (v : Value) (l : List (ByteArray × ByteArray)), cs = [v] ∧ RdA w l v := by
 rcases DataW.trod_slice Try.underlying39 h with ⟨rfl, _⟩ | ⟨a, len, cap, elems, rest, n, rfl, rfl, rfl, hb, hl, hm, hlen, hel, _, _⟩
 ·exact ⟨_, [], rfl, none, 0, rfl, by simp, by simp [maxLen], fun h => absurd rfl h⟩
 ·rcases Nat.eq_zero_or_pos len with h0 | h0
  ·exact ⟨_, [], rfl, some a, cap, by rw [h0]; rfl, by simp, hm, fun h => absurd rfl h⟩
  ·rw [cells78] at hel
   have hE : ∀ i, i < len → ∃ k v : ByteArray, a = ⟨a.block, a.off, none⟩ ∧ w.cell? (a.add (i * 2)) = some (.string k) ∧ w.cell? ((a.add (i * 2)).add 1) = some (.string v) ∧ k.size ≤ maxLen ∧ v.size ≤ maxLen := by
    intro i hi
    have he := hel i hi
    rw [List.getElem?_eq_getElem (by omega)] at he
    obtain ⟨cs', h1, h2⟩ := Option.bind_eq_some_iff.1 he
    obtain ⟨xs, n', rfl, hx, hcl, hxl, hg⟩ := DataW.trod_struct Try.underlying73 h2
    rw [cells78] at hcl
    obtain ⟨_, _, hc⟩ := World.cells?_some h1
    match cs', hcl with
    | [c0, c1], _ =>
     have g0 : DataW.trod enc Try.prog w base spare held n' 9 (([c0, c1].drop 0).take (Try.prog.cellsOf 9)) = xs[0]? := hg 0 _ rfl
     have g1 : DataW.trod enc Try.prog w base spare held n' 9 (([c0, c1].drop 1).take (Try.prog.cellsOf 9)) = xs[1]? := hg 1 _ rfl
     simp only [cells9] at g0 g1
     rw [List.getElem?_eq_getElem (by rw [hxl]; decide)] at g0 g1
     obtain ⟨s0, e0, _, m0⟩ := DataW.trod_string Try.underlying9 g0
     obtain ⟨s1, e1, _, m1⟩ := DataW.trod_string Try.underlying9 g1
     simp at e0 e1
     subst e0 e1
     have d0 := hc 0 (by omega)
     have d1 := hc 1 (by omega)
     have ha : a = ⟨a.block, a.off, none⟩ := by
      have hz := hel 0 h0
      rw [List.getElem?_eq_getElem (by omega)] at hz
      obtain ⟨cs0, z1, _⟩ := Option.bind_eq_some_iff.1 hz
      have := spot_none (n := 1) z1
      simpa [add_zero_] using this
     exact ⟨s0, s1, ha, by simpa [add_zero_] using d0, by simpa using d1, m0, m1⟩
   obtain ⟨b, o, sp⟩ := a
   have hsp : sp = none := by obtain ⟨_, _, ha, _⟩ := hE 0 h0; simpa using ha
   subst hsp
   obtain ⟨l, hll, hr⟩ := build_attrs (w := w) (b := b) len o (fun i hi => by
    obtain ⟨k, v, _, h1, h2, h3, h4⟩ := hE i hi
    refine ⟨k, v, ?_, ?_, h3, h4⟩
    ·simpa [Addr.add_lit] using h1
    ·simpa [Addr.add_lit] using h2)
   exact ⟨_, l, rfl, some ⟨b, o, none⟩, cap, by rw [hll], by omega, hm, fun _ => ⟨b, o, rfl, hr⟩⟩

set_option maxRecDepth 100000 in
theorem node_trod : ∀ (fuel : Nat) (cs : List Value) (x : DataW H × List MemPlace), DataW.trod enc Try.prog w base spare held fuel 42 cs = some x →
  cs.length = 6 ∧ ∃ t : Nd, t.rd w (.agg cs.toArray) := by
 intro fuel
 induction fuel using Nat.strongRecOn with
 | _ fuel ih =>
  intro cs x h
  obtain ⟨xs, n, rfl, hx, hcl, hxl, hg⟩ := DataW.trod_struct Try.underlying42 h
  rw [cells32] at hcl
  refine ⟨hcl, ?_⟩
  match cs, hcl with
  | [c0, c1, c2, c3, c4, c5], _ =>
   have g0 : DataW.trod enc Try.prog w base spare held n 23 (([c0, c1, c2, c3, c4, c5].drop 0).take (Try.prog.cellsOf 23)) = xs[0]? := hg 0 _ rfl
   have g1 : DataW.trod enc Try.prog w base spare held n 4 (([c0, c1, c2, c3, c4, c5].drop 1).take (Try.prog.cellsOf 4)) = xs[1]? := hg 1 _ rfl
   have g2 : DataW.trod enc Try.prog w base spare held n 9 (([c0, c1, c2, c3, c4, c5].drop 2).take (Try.prog.cellsOf 9)) = xs[2]? := hg 2 _ rfl
   have g3 : DataW.trod enc Try.prog w base spare held n 39 (([c0, c1, c2, c3, c4, c5].drop 3).take (Try.prog.cellsOf 39)) = xs[3]? := hg 3 _ rfl
   have g4 : DataW.trod enc Try.prog w base spare held n 9 (([c0, c1, c2, c3, c4, c5].drop 4).take (Try.prog.cellsOf 9)) = xs[4]? := hg 4 _ rfl
   have g5 : DataW.trod enc Try.prog w base spare held n 40 (([c0, c1, c2, c3, c4, c5].drop 5).take (Try.prog.cellsOf 40)) = xs[5]? := hg 5 _ rfl
   simp only [cells9, cells4, cells28, cells29, cells30] at g0 g1 g2 g3 g4 g5
   rw [List.getElem?_eq_getElem (by rw [hxl]; decide)] at g0 g1 g2 g3 g4 g5
   obtain ⟨i0, e0, _, m0⟩ := DataW.trod_int Try.underlying23 g0
   obtain ⟨b1, e1, _⟩ := DataW.trod_bool Try.underlying4 g1
   obtain ⟨s2, e2, _, m2⟩ := DataW.trod_string Try.underlying9 g2
   obtain ⟨v3, l3, e3, r3⟩ := attrs_trod g3
   obtain ⟨s4, e4, _, m4⟩ := DataW.trod_string Try.underlying9 g4
   simp at e0 e1 e2 e3 e4
   subst e0 e1 e2 e3 e4
   have hK : ∃ ks : List Nd, RdK w ks c5 := by
    rcases DataW.trod_slice Try.underlying40 g5 with ⟨e5, _⟩ | ⟨a, len, cap, elems, rest, n', rfl, e5, _, hb, hl, hm, hlen, hel, _, _⟩
    ·simp at e5; subst e5
     exact ⟨[], none, 0, rfl, by simp, by simp [maxLen], fun h => absurd rfl h⟩
    ·simp at e5; subst e5
     rcases Nat.eq_zero_or_pos len with h0 | h0
     ·exact ⟨[], some a, cap, by rw [h0]; rfl, by simp, hm, fun h => absurd rfl h⟩
     ·rw [cells32] at hel
      have ha : a = ⟨a.block, a.off, none⟩ := by
       have hz := hel 0 h0
       rw [List.getElem?_eq_getElem (by omega)] at hz
       obtain ⟨cs0, z1, _⟩ := Option.bind_eq_some_iff.1 hz
       have := spot_none (n := 5) z1
       simpa [add_zero_] using this
      obtain ⟨b, o, sp⟩ := a
      have hsp : sp = none := by simpa using ha
      subst hsp
      obtain ⟨l, hll, hr⟩ := build_kids (w := w) (b := b) len o (fun i hi => by
       have he := hel i hi
       rw [List.getElem?_eq_getElem (by omega)] at he
       obtain ⟨cs', h1, h2⟩ := Option.bind_eq_some_iff.1 he
       obtain ⟨hcl', t, ht⟩ := ih n' (by omega) cs' _ h2
       obtain ⟨_, _, hc⟩ := World.cells?_some h1
       match cs', hcl' with
       | [d0, d1, d2, d3, d4, d5], _ =>
        have q0 := hc 0 (by omega)
        have q1 := hc 1 (by omega)
        have q2 := hc 2 (by omega)
        have q3 := hc 3 (by omega)
        have q4 := hc 4 (by omega)
        have q5 := hc 5 (by omega)
        simp only [Addr.add_lit, Nat.add_zero] at q0 q1 q2 q3 q4 q5
        exact ⟨t, d0, d1, d2, d3, d4, d5, by simpa using q0, by simpa using q1, by simpa using q2, by simpa using q3, by simpa using q4, by simpa using q5, ht⟩)
      exact ⟨l, some ⟨b, o, none⟩, cap, by rw [hll], by omega, hm, fun _ => ⟨b, o, rfl, hr⟩⟩
   obtain ⟨ks, hks⟩ := hK
   obtain ⟨w1, w2⟩ := wf_u64 m0
   exact ⟨.mk i0 b1 s2 l3 s4 ks, Nd.rd_shut (t := .mk i0 b1 s2 l3 s4 ks) w1 w2 m2 m4 r3 hks⟩

set_option maxRecDepth 100000 in
/-- A node that comes in. -/
theorem open_op {r : Reach} {b0 : Nat} {v : Value} {d : DataW H} {p : List MemPlace} (hv : Value.okWide Try.prog w r b0 26 v) (h : DataW.Trod enc Try.prog w base spare held 26 v d p) : ∃ o : OpD, o.rd w v := by
 obtain ⟨cs, rfl, hsz⟩ := okWide_struct Try.underlying26 hv
 obtain ⟨fuel, hf⟩ := h
 obtain ⟨_, o, ho⟩ := op_trod hf
 exact ⟨o, by simpa [Value.cells] using ho⟩
set_option maxRecDepth 100000 in
theorem open_node {r : Reach} {b0 : Nat} {v : Value} {d : DataW H} {p : List MemPlace} (hv : Value.okWide Try.prog w r b0 42 v) (h : DataW.Trod enc Try.prog w base spare held 42 v d p) : ∃ t : Nd, t.rd w v := by
 obtain ⟨cs, rfl, hsz⟩ := okWide_struct Try.underlying42 hv
 obtain ⟨fuel, hf⟩ := h
 obtain ⟨_, t, ht⟩ := node_trod fuel _ _ hf
 exact ⟨t, by simpa [Value.cells] using ht⟩
end
end Go.Proofs.Ytdnjkffmgmbfmaa.Sy
