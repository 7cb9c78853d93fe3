/- Chapter 10: BwClone turned to this seat. (Printed by gsynd.py.) -/
import Derived.Test.YtkimbpeapolcbaaSyNdRAt
import Derived.WalkSpells
import Derived.Test.YtkimbpeapolcbaaProg
import Derived.Deep.AppendLies
import Derived.Deep.RegionHeld3
import Derived.Deep.DrawnRows
import Derived.Test.YtkimbpeapolcbaaSyNdEq
namespace Go.Proofs.Ytkimbpeapolcbaa.Bw
open Go.RowKit
/-- A row of cells that reads as nodes. -/
def rowK (w : World) : List Nd → List Value → Prop
  | [], xs => xs = []
  | k :: r, xs => ∃ c0 c1 c2 c3 c4 c5 rest, xs = c0 :: c1 :: c2 :: c3 :: c4 :: c5 :: rest ∧ k.rd w (.agg #[c0, c1, c2, c3, c4, c5]) ∧ rowK w r rest
theorem rowK_len {w : World} : ∀ {ks : List Nd} {xs : List Value}, rowK w ks xs → xs.length = ks.length * 6
  | [], xs, h => by rw [h]; rfl
  | k :: r, xs, ⟨_, _, _, _, _, _, rest, hx, _, hr⟩ => by rw [hx]; simp [rowK_len hr]; omega
theorem rowK_ext {w w' : World} (h : Ext w w') : ∀ {ks : List Nd} {xs : List Value}, rowK w ks xs → rowK w' ks xs
  | [], _, hr => hr
  | _ :: _, _, ⟨a, b, c, d, e, f, rest, hx, hk, hr⟩ => ⟨a, b, c, d, e, f, rest, hx, Nd.rd_ext h hk, rowK_ext h hr⟩
theorem rowK_one {w : World} : ∀ {ks : List Nd} {xs : List Value}, rowK w ks xs → ∀ u ∈ xs, u.oneCell' = true
  | [], xs, h, u, hu => by rw [h] at hu; cases hu
  | k :: r, xs, ⟨a, b, c, d, e, f, rest, hx, hk, hr⟩, u, hu => by
    obtain ⟨av, kv, he, _, _, _, _, ⟨aA, ac, rfl, _⟩, ⟨kA, kc, rfl, _⟩⟩ := Nd.rd_open hk
    simp only [Value.agg.injEq, Array.mk.injEq, List.cons.injEq, and_true] at he
    obtain ⟨rfl, rfl, rfl, rfl, rfl, rfl⟩ := he
    rw [hx] at hu
    simp only [List.mem_cons] at hu
    rcases hu with rfl | rfl | rfl | rfl | rfl | rfl | hu <;> first | rfl | exact rowK_one hr u hu
theorem rowK_of_rd {w : World} {b : Nat} : ∀ {ks : List Nd} {off : Nat}, rdKids w b off ks → ∃ xs, rowK w ks xs ∧ ∀ j u, xs[j]? = some u → w.cell? ⟨b, off + j, none⟩ = some u
  | [], off, _ => ⟨[], rfl, by simp⟩
  | k :: r, off, h => by
    unfold rdKids at h
    obtain ⟨⟨c0, c1, c2, c3, c4, c5, h0, h1, h2, h3, h4, h5, hk⟩, hr⟩ := h
    obtain ⟨xs, hx, hc⟩ := rowK_of_rd hr
    refine ⟨_, ⟨c0, c1, c2, c3, c4, c5, xs, rfl, hk, hx⟩, fun j u hu => ?_⟩
    match j, hu with
    | 0, hu => simpa using (by simpa using hu : c0 = u) ▸ h0
    | 1, hu => simpa using (by simpa using hu : c1 = u) ▸ h1
    | 2, hu => simpa using (by simpa using hu : c2 = u) ▸ h2
    | 3, hu => simpa using (by simpa using hu : c3 = u) ▸ h3
    | 4, hu => simpa using (by simpa using hu : c4 = u) ▸ h4
    | 5, hu => simpa using (by simpa using hu : c5 = u) ▸ h5
    | j + 6, hu =>
      have := hc j u (by simpa using hu)
      rw [show off + (j + 6) = off + 6 + j by omega]; exact this
theorem rd_of_rowK {w : World} {b : Nat} : ∀ {ks : List Nd} {xs : List Value} {off : Nat}, rowK w ks xs → (∀ j u, xs[j]? = some u → w.cell? ⟨b, off + j, none⟩ = some u) → rdKids w b off ks
  | [], _, _, _, _ => by unfold rdKids; trivial
  | k :: r, xs, off, ⟨c0, c1, c2, c3, c4, c5, rest, hx, hk, hr⟩, hc => by
    subst hx
    unfold rdKids
    refine ⟨⟨c0, c1, c2, c3, c4, c5, hc 0 c0 rfl, hc 1 c1 rfl, hc 2 c2 rfl, hc 3 c3 rfl, hc 4 c4 rfl, hc 5 c5 rfl, hk⟩, rd_of_rowK hr fun j u hu => ?_⟩
    rw [show off + 6 + j = off + (j + 6) by omega]
    exact hc (j + 6) u (by simpa using hu)
theorem RdK.row {w : World} {ks : List Nd} {v : Value} (h : RdK w ks v) : ∃ xs, rowK w ks xs ∧ RdS w 6 ks.length xs v := by
  obtain ⟨A, c, rfl, h1, h2, h3⟩ := h
  cases ks with
  | nil => exact ⟨[], rfl, A, c, rfl, rfl, h1, h2, fun h => absurd h (by simp)⟩
  | cons k r =>
    obtain ⟨b, off, rfl, hr⟩ := h3 (by simp)
    obtain ⟨xs, hx, hc⟩ := rowK_of_rd hr
    exact ⟨xs, hx, _, c, rfl, rowK_len hx, h1, h2, fun _ => ⟨b, off, rfl, hc⟩⟩
theorem RdK.of_row {w : World} {ks : List Nd} {xs : List Value} {v : Value} (h : rowK w ks xs) (hs : RdS w 6 ks.length xs v) : RdK w ks v := by
  obtain ⟨A, c, rfl, _, h1, h2, h3⟩ := hs
  refine ⟨A, c, rfl, h1, h2, fun hk => ?_⟩
  obtain ⟨b, off, rfl, hc⟩ := h3 (List.length_pos_iff.2 hk)
  exact ⟨b, off, rfl, rd_of_rowK h hc⟩
/-- One node of a row replaced. -/
theorem rowK_set {w : World} : ∀ {ks : List Nd} {xs : List Value} {i : Nat} {k' : Nd} {c0 c1 c2 c3 c4 c5 : Value}, rowK w ks xs → i < ks.length → k'.rd w (.agg #[c0, c1, c2, c3, c4, c5]) →
    rowK w (ks.set i k') ((((((xs.set (i * 6) c0).set (i * 6 + 1) c1).set (i * 6 + 2) c2).set (i * 6 + 3) c3).set (i * 6 + 4) c4).set (i * 6 + 5) c5)
  | k :: r, xs, 0, k', c0, c1, c2, c3, c4, c5, ⟨_, _, _, _, _, _, rest, hx, _, hr⟩, _, h' => by
    subst hx
    exact ⟨c0, c1, c2, c3, c4, c5, rest, by simp, h', hr⟩
  | k :: r, xs, i + 1, k', c0, c1, c2, c3, c4, c5, ⟨a, b, c, d, e, f, rest, hx, hk, hr⟩, hi, h' => by
    subst hx
    refine ⟨a, b, c, d, e, f, _, ?_, hk, rowK_set (i := i) hr (by simpa using hi) h'⟩
    rw [show (i + 1) * 6 = i * 6 + 6 by omega]
    simp [List.set_cons_succ, Nat.add_right_comm]
theorem T24 : SliceT Try.prog 40 42 (.agg #[.int .u64 0, .bool false, .string ⟨#[]⟩, .slice none 0 0, .string ⟨#[]⟩, .slice none 0 0]) 6 96 := SliceT.mk' Try.underlying40 (by kernel_rfl) rfl (by decide)
end Go.Proofs.Ytkimbpeapolcbaa.Bw
namespace Go.Proofs.Ytkimbpeapolcbaa.Bw
theorem rowK_sub {w w' : World} (h : Sub w w') : ∀ {ks : List Nd} {xs : List Value}, rowK w ks xs → rowK w' ks xs
  | [], _, hx => hx
  | _ :: _, _, ⟨c0, c1, c2, c3, c4, c5, rest, hx, hr, hk⟩ => ⟨c0, c1, c2, c3, c4, c5, rest, hx, Nd.rd_sub h hr, rowK_sub h hk⟩
theorem NBox.six {W : World} {B : Nat} {t : TypeId} {a b c d e f : Value} (h : NBox W B t #[a, b, c, d, e, f]) :
    W.cell? ⟨B, 0, none⟩ = some a ∧ W.cell? ⟨B, 1, none⟩ = some b ∧ W.cell? ⟨B, 2, none⟩ = some c ∧ W.cell? ⟨B, 3, none⟩ = some d ∧ W.cell? ⟨B, 4, none⟩ = some e ∧ W.cell? ⟨B, 5, none⟩ = some f :=
  ⟨h.cell 0, h.cell 1, h.cell 2, h.cell 3, h.cell 4, h.cell 5⟩

def wRv (g : Nat) : Value := .agg #[.int .u64 0, .bool false, .string ⟨#[114]⟩, .slice none 0 0, .string ⟨#[]⟩, .slice (some ⟨g, 0, none⟩) 2 2]
def xCells : Array Value := #[.int .u64 0, .bool true, .string ⟨#[120]⟩, .slice none 0 0, .string ⟨#[104, 105]⟩, .slice none 0 0]
def abCells (g : Nat) : Array Value := #[.int .u64 0, .bool false, .string ⟨#[97]⟩, .slice none 0 0, .string ⟨#[]⟩, .slice (some ⟨g, 0, none⟩) 1 1,
  .int .u64 0, .bool false, .string ⟨#[98]⟩, .slice none 0 0, .string ⟨#[]⟩, .slice none 0 0]

open Go.RowKit
theorem put_nil {t x : Nd} : t.put [] x = some x := by rw [Nd.put]
theorem put_some {t k x k' : Nd} {i : Nat} {p : List Int} (h : t.kids[i]? = some k) (h2 : k.put p x = some k') : t.put ((i : Int) :: p) x = some (t.withKids (t.kids.set i k')) := by
  have := (List.getElem?_eq_some_iff.1 h).1
  rw [Nd.put, if_neg (by omega), Int.toNat_natCast, h]
  dsimp only
  rw [h2]
theorem put_none {t k x : Nd} {i : Nat} {p : List Int} (h : t.kids[i]? = some k) (h2 : k.put p x = none) : t.put ((i : Int) :: p) x = none := by
  have := (List.getElem?_eq_some_iff.1 h).1
  rw [Nd.put, if_neg (by omega), Int.toNat_natCast, h]
  dsimp only
  rw [h2]
theorem put_out {t x : Nd} {i : Int} {p : List Int} (h : i < 0 ∨ (t.kids.length : Int) ≤ i) : t.put (i :: p) x = none := by rw [Nd.put, if_pos h]
theorem at_put : ∀ (p : List Int) (t x : Nd), (t.at? p).isSome = (t.put p x).isSome
  | [], t, x => by rw [at_nil, put_nil]; rfl
  | i :: p, t, x => by
    by_cases h : i < 0 ∨ (t.kids.length : Int) ≤ i
    · rw [at_none h, put_out h]
    · obtain ⟨m, rfl⟩ := Int.eq_ofNat_of_zero_le (show 0 ≤ i by omega)
      obtain ⟨k, hk⟩ : ∃ k, t.kids[m]? = some k := ⟨_, List.getElem?_eq_getElem (by omega)⟩
      rw [at_some (by omega) (by rw [Int.toNat_natCast]; exact hk), at_put p k x]
      cases hp : k.put p x with
      | none => rw [put_none hk hp]
      | some k' => rw [put_some hk hp]; rfl
theorem at_split {t : Nd} {i : Int} {p : List Int} {k : Nd} (h : t.at? (i :: p) = some k) : ∃ (m : Nat) (c : Nd), i = m ∧ t.kids[m]? = some c ∧ c.at? p = some k := by
  by_cases hc : i < 0 ∨ (t.kids.length : Int) ≤ i
  · rw [at_none hc] at h; cases h
  · obtain ⟨m, rfl⟩ := Int.eq_ofNat_of_zero_le (show 0 ≤ i by omega)
    obtain ⟨c, hk⟩ : ∃ c, t.kids[m]? = some c := ⟨_, List.getElem?_eq_getElem (by omega)⟩
    rw [at_some (by omega) (by rw [Int.toNat_natCast]; exact hk)] at h
    exact ⟨m, c, rfl, hk, h⟩
/-- 'p[1:]'. -/
theorem RdI_tail {w : World} {i : Int} {p : List Int} {b off c : Nat} (h : RdS w 1 (p.length + 1) ((i :: p).map (Value.int .i64)) (.slice (some ⟨b, off, none⟩) (p.length + 1) c)) :
    RdS w 1 p.length (p.map (Value.int .i64)) (.slice (if c = 1 then some ⟨b, off, none⟩ else some ⟨b, off + 1, none⟩) p.length (c - 1)) := by
  obtain ⟨A, c', he, _, h1, h2, h3⟩ := h
  simp only [Value.slice.injEq, true_and] at he
  obtain ⟨rfl, rfl⟩ := he
  refine ⟨_, _, rfl, by simp, by omega, by omega, fun hn => ?_⟩
  obtain ⟨b', off', hh, hc⟩ := h3 (by omega)
  simp only [Option.some.injEq, Addr.mk.injEq, and_true] at hh
  obtain ⟨rfl, rfl⟩ := hh
  rw [if_neg (by omega)]
  refine ⟨b, off + 1, rfl, fun j u hu => ?_⟩
  rw [show off + 1 + j = off + (j + 1) by omega]
  exact hc (j + 1) u (by simpa using hu)
theorem own_set6 {W : World} {base : Nat} {e : TypeId} {size g n cap : Nat} {xs : List Value} (h : W.ownsRow base e size (.slice (some ⟨g, 0, none⟩) n cap) n xs) (o : Nat) (a b c d x f : Value) :
    ((((((W.setCell ⟨g, o, none⟩ a).setCell ⟨g, o + 1, none⟩ b).setCell ⟨g, o + 2, none⟩ c).setCell ⟨g, o + 3, none⟩ d).setCell ⟨g, o + 4, none⟩ x).setCell ⟨g, o + 5, none⟩ f).ownsRow base e size (.slice (some ⟨g, 0, none⟩) n cap) n
      ((((((xs.set o a).set (o + 1) b).set (o + 2) c).set (o + 3) d).set (o + 4) x).set (o + 5) f) :=
  (((((((h.stored o a).1.stored (o + 1) b).1.stored (o + 2) c).1.stored (o + 3) d).1.stored (o + 4) x).1.stored (o + 5) f).1)
theorem NBox.farAt {W : World} {B B' : Nat} {t : TypeId} {cs : Array Value} (h : NBox W B t cs) (hne : B ≠ B') (o : Nat) (a b c d e f : Value) :
    NBox ((((((W.setCell ⟨B', o, none⟩ a).setCell ⟨B', o + 1, none⟩ b).setCell ⟨B', o + 2, none⟩ c).setCell ⟨B', o + 3, none⟩ d).setCell ⟨B', o + 4, none⟩ e).setCell ⟨B', o + 5, none⟩ f) B t cs :=
  (((((h.other (p := ⟨B', o, none⟩) hne a).other (p := ⟨B', o + 1, none⟩) hne b).other (p := ⟨B', o + 2, none⟩) hne c).other (p := ⟨B', o + 3, none⟩) hne d).other (p := ⟨B', o + 4, none⟩) hne e).other (p := ⟨B', o + 5, none⟩) hne f
theorem Ext.setAt {w W : World} (h : Ext w W) {B : Nat} (hB : w.heap.size ≤ B) (o : Nat) (a b c d e f : Value) :
    Ext w ((((((W.setCell ⟨B, o, none⟩ a).setCell ⟨B, o + 1, none⟩ b).setCell ⟨B, o + 2, none⟩ c).setCell ⟨B, o + 3, none⟩ d).setCell ⟨B, o + 4, none⟩ e).setCell ⟨B, o + 5, none⟩ f) :=
  Below.setCell (Below.setCell (Below.setCell (Below.setCell (Below.setCell (Below.setCell h (p := ⟨B, o, none⟩) hB _) (p := ⟨B, o + 1, none⟩) hB _) (p := ⟨B, o + 2, none⟩) hB _) (p := ⟨B, o + 3, none⟩) hB _) (p := ⟨B, o + 4, none⟩) hB _) (p := ⟨B, o + 5, none⟩) hB _
/-- The row of a slice of one's own, where its block is the same. -/
theorem owns_same {w w' : World} {base : Nat} {e : TypeId} {size g n cap : Nat} {xs : List Value} (h : w.ownsRow base e size (.slice (some ⟨g, 0, none⟩) n cap) n xs) (hb : w'.heap[g]? = w.heap[g]?) : w'.ownsRow base e size (.slice (some ⟨g, 0, none⟩) n cap) n xs := by
  refine ⟨h.1, ?_⟩
  rcases h.2 with h2 | ⟨g', cap', cur, hv, h1, h2, r⟩
  · exact .inl h2
  · have : g' = g := by simp only [Value.slice.injEq, Option.some.injEq, Addr.mk.injEq, and_true] at hv; exact hv.1.symm
    subst this
    exact .inr ⟨g', cap', cur, hv, h1, hb.trans h2, r⟩
theorem rowK_get {w : World} : ∀ {ks : List Nd} {xs : List Value} {i : Nat} {k : Nd}, rowK w ks xs → ks[i]? = some k → ∃ aA ac kA kc, xs[i * 6]? = some (.int .u64 k.id) ∧ xs[i * 6 + 1]? = some (.bool k.leaf) ∧ xs[i * 6 + 2]? = some (.string k.label) ∧
    xs[i * 6 + 3]? = some (.slice aA k.attrs.length ac) ∧ xs[i * 6 + 4]? = some (.string k.text) ∧ xs[i * 6 + 5]? = some (.slice kA k.kids.length kc) ∧
    k.rd w (.agg #[.int .u64 k.id, .bool k.leaf, .string k.label, .slice aA k.attrs.length ac, .string k.text, .slice kA k.kids.length kc])
  | k0 :: r, xs, 0, k, ⟨c0, c1, c2, c3, c4, c5, rest, hx, hk, _⟩, he => by
    simp only [List.getElem?_cons_zero, Option.some.injEq] at he
    subst he hx
    have hk0 := hk
    obtain ⟨av, kv, he, _, _, _, _, ⟨aA, ac, rfl, _⟩, ⟨kA, kc, rfl, _⟩⟩ := Nd.rd_open hk
    simp only [Value.agg.injEq, Array.mk.injEq, List.cons.injEq, and_true] at he
    obtain ⟨rfl, rfl, rfl, rfl, rfl, rfl⟩ := he
    exact ⟨aA, ac, kA, kc, rfl, rfl, rfl, rfl, rfl, rfl, hk0⟩
  | k0 :: r, xs, i + 1, k, ⟨c0, c1, c2, c3, c4, c5, rest, hx, _, hr⟩, he => by
    simp only [List.getElem?_cons_succ] at he
    obtain ⟨aA, ac, kA, kc, h0, h1, h2, h3, h4, h5, h6⟩ := rowK_get hr he
    subst hx
    refine ⟨aA, ac, kA, kc, ?_, ?_, ?_, ?_, ?_, ?_, h6⟩
    · rw [show (i + 1) * 6 = i * 6 + 6 by omega]; exact h0
    · rw [show (i + 1) * 6 + 1 = i * 6 + 1 + 6 by omega]; exact h1
    · rw [show (i + 1) * 6 + 2 = i * 6 + 2 + 6 by omega]; exact h2
    · rw [show (i + 1) * 6 + 3 = i * 6 + 3 + 6 by omega]; exact h3
    · rw [show (i + 1) * 6 + 4 = i * 6 + 4 + 6 by omega]; exact h4
    · rw [show (i + 1) * 6 + 5 = i * 6 + 5 + 6 by omega]; exact h5
/-- The result reads in every world that goes on from wo, where the blocks that were made in the call (from w to w') are the same. -/
def RdLate (wo w w' : World) (o : Option Nd) (r : Value) : Prop := ∀ W, Sub wo W → (∀ k, w.heap.size ≤ k → k < w'.heap.size → W.heap[k]? = w'.heap[k]?) → RdO W o r
theorem heap_at6 (W : World) (B o : Nat) (a b c d e f : Value) (k : Nat) (hk : k ≠ B) :
    ((((((W.setCell ⟨B, o, none⟩ a).setCell ⟨B, o + 1, none⟩ b).setCell ⟨B, o + 2, none⟩ c).setCell ⟨B, o + 3, none⟩ d).setCell ⟨B, o + 4, none⟩ e).setCell ⟨B, o + 5, none⟩ f).heap[k]? = W.heap[k]? := by
  iterate 6 rw [Below.heap_setCell _ _ _ _ hk]
end Go.Proofs.Ytkimbpeapolcbaa.Bw
