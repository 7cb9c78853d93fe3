/- Chapter 10: LxRows turned to this seat. (Printed by gsyport.py.) -/
import Derived.Test.YtkimbpeapolcbaaSyLxLast
namespace Go.Proofs.Ytkimbpeapolcbaa.Sy
open Go.RowKit Go.Proofs.Ytkimbpeapolcbaa.Bw Go.Proofs.Ytkimbpeapolcbaa.Bs

def rPutS : List Pc → ByteArray
  | [] => ⟨#[]⟩
  | p :: _ => if 0 < p.keep then ⟨#[]⟩ else p.put
def rPut : List Pc → List Pc
  | [] => []
  | p :: r => if 0 < p.keep then p :: r else { p with put := ⟨#[]⟩ } :: r
def rSkip : List Pc → List Pc
  | [] => []
  | p :: r => if 0 < p.keep ∨ 0 < p.drop then p :: r else rSkip r
def rN : List Pc → Int
  | [] => 0
  | p :: _ => if 0 < p.keep then p.keep else p.drop
def rD : List Pc → Bool
  | [] => false
  | p :: _ => if 0 < p.keep then false else true
def rTake (n : Int) : List Pc → List Pc
  | [] => []
  | p :: r => if 0 < p.keep then { p with keep := p.keep - n } :: r else { p with drop := p.drop - n } :: r
theorem rTake_len (n : Int) : ∀ l, (rTake n l).length = l.length
  | [] => rfl
  | p :: r => by simp only [rTake]; split <;> rfl
theorem rPut_len : ∀ l, (rPut l).length = l.length
  | [] => rfl
  | p :: r => by simp only [rPut]; split <;> rfl
theorem rSkip_len : ∀ l, (rSkip l).length ≤ l.length
  | [] => Nat.le_refl _
  | p :: r => by
    simp only [rSkip]
    split
    · exact Nat.le_refl _
    · exact Nat.le_succ_of_le (rSkip_len r)
/-- Bounds of a row. -/
def RB (C : Nat) (l : List Pc) : Prop := ∀ p ∈ l, 0 ≤ p.keep ∧ p.keep ≤ (C : Int) ∧ 0 ≤ p.drop ∧ p.drop ≤ (C : Int) ∧ p.put.size ≤ C
theorem RB.tail {C : Nat} {p : Pc} {l : List Pc} (h : RB C (p :: l)) : RB C l := fun q hq => h q (List.mem_cons_of_mem _ hq)
theorem RB.cons {C : Nat} {p : Pc} {l : List Pc} (hp : 0 ≤ p.keep ∧ p.keep ≤ (C : Int) ∧ 0 ≤ p.drop ∧ p.drop ≤ (C : Int) ∧ p.put.size ≤ C) (h : RB C l) : RB C (p :: l) := fun q hq => (List.mem_cons.1 hq).elim (fun e => e ▸ hp) (h q)
theorem RB.skip {C : Nat} : ∀ {l : List Pc}, RB C l → RB C (rSkip l)
  | [], h => h
  | p :: r, h => by
    simp only [rSkip]
    split
    · exact h
    · exact RB.skip h.tail
theorem RB.put {C : Nat} : ∀ {l : List Pc}, RB C l → RB C (rPut l)
  | [], h => h
  | p :: r, h => by
    simp only [rPut]
    split
    · exact h
    · obtain ⟨a, b, c, d, _⟩ := h p List.mem_cons_self
      exact RB.cons ⟨a, b, c, d, Nat.zero_le _⟩ h.tail
theorem RB.take {C : Nat} {n : Int} : ∀ {l : List Pc}, RB C l → 0 ≤ n → n ≤ rN l → RB C (rTake n l)
  | [], h, _, _ => h
  | p :: r, h, h0, hn => by
    obtain ⟨a, b, c, d, e⟩ := h p List.mem_cons_self
    simp only [rTake]
    simp only [rN] at hn
    split
    · rename_i hk
      rw [if_pos hk] at hn
      exact RB.cons ⟨by show 0 ≤ p.keep - n; omega, by show p.keep - n ≤ _; omega, c, d, e⟩ h.tail
    · rename_i hk
      rw [if_neg hk] at hn
      exact RB.cons ⟨a, b, by show 0 ≤ p.drop - n; omega, by show p.drop - n ≤ _; omega, e⟩ h.tail
theorem RB.n {C : Nat} : ∀ {l : List Pc}, RB C l → 0 ≤ rN l ∧ rN l ≤ (C : Int)
  | [], _ => ⟨Int.le_refl _, by show (0 : Int) ≤ _; omega⟩
  | p :: r, h => by
    obtain ⟨a, b, c, d, e⟩ := h p List.mem_cons_self
    simp only [rN]
    split
    · exact ⟨a, b⟩
    · exact ⟨c, d⟩
theorem RB.putS {C : Nat} : ∀ {l : List Pc}, RB C l → (rPutS l).size ≤ C
  | [], _ => Nat.zero_le _
  | p :: r, h => by
    obtain ⟨a, b, c, d, e⟩ := h p List.mem_cons_self
    simp only [rPutS]
    split
    · exact Nat.zero_le _
    · exact e
/-- Behind the skip a row is empty, or something comes next. -/
theorem rSkip_cases : ∀ l : List Pc, rSkip l = [] ∨ ∃ p r, rSkip l = p :: r ∧ (0 < p.keep ∨ 0 < p.drop)
  | [] => .inl rfl
  | p :: r => by
    simp only [rSkip]
    split
    · rename_i h; exact .inr ⟨p, r, rfl, h⟩
    · exact rSkip_cases r
theorem rdPcs_blk {W W' : World} {g : Nat} (h : W'.heap[g]? = W.heap[g]?) : ∀ {off : Nat} {l : List Pc}, rdPcs W g off l → rdPcs W' g off l
  | _, [], _ => trivial
  | _, _ :: _, ⟨h1, h2, h3, h4, h5⟩ => by
    have e : ∀ i, W'.cell? ⟨g, i, none⟩ = W.cell? ⟨g, i, none⟩ := fun i => by simp [World.cell?, h]
    exact ⟨(e _).trans h1, (e _).trans h2, (e _).trans h3, h4, rdPcs_blk h h5⟩
theorem cell_setCell_ne {W : World} {g i j : Nat} {u : Value} (h : i ≠ j) : (W.setCell ⟨g, j, none⟩ u).cell? ⟨g, i, none⟩ = W.cell? ⟨g, i, none⟩ := by
  cases hb : W.heap[g]? with
  | none => simp [World.cell?, World.setCell, Array.getElem?_modify, hb]
  | some b =>
    cases b <;> simp [World.cell?, World.setCell, Array.getElem?_modify, hb, Ne.symm h]
theorem rdPcs_set {W : World} {g j : Nat} {u : Value} : ∀ {off : Nat} {l : List Pc}, rdPcs W g off l → j < off → rdPcs (W.setCell ⟨g, j, none⟩ u) g off l
  | _, [], _, _ => trivial
  | _, _ :: _, ⟨h1, h2, h3, h4, h5⟩, h => ⟨(cell_setCell_ne (by omega)).trans h1, (cell_setCell_ne (by omega)).trans h2, (cell_setCell_ne (by omega)).trans h3, h4, rdPcs_set h5 (by omega)⟩
theorem NBox.cell_set {W : World} {g : Nat} {t : TypeId} {cs : Array Value} (h : NBox W g t cs) {i : Nat} {x : Value} (hx : W.cell? ⟨g, i, none⟩ = some x) (u : Value) : (W.setCell ⟨g, i, none⟩ u).cell? ⟨g, i, none⟩ = some u := by
  rw [(h.set i u).cell]
  rw [h.cell] at hx
  have := (Array.getElem?_eq_some_iff.1 hx).1
  simp [this]
/-- A slice value that reads as a row, in a block that may be written. -/
def RowV (W : World) (G : Option Nat) (l : List Pc) (v : Value) : Prop :=
  ∃ A c, v = .slice A l.length c ∧ l.length ≤ c ∧ c ≤ maxLen ∧ (0 < l.length → ∃ g off cur, G = some g ∧ A = some ⟨g, off, none⟩ ∧ NBox W g 35 cur ∧ rdPcs W g off l)
/-- A variable that holds such a row. -/
def RowAt (W : World) (B : Nat) (G : Option Nat) (l : List Pc) : Prop := ∃ v, NBox W B 74 #[v] ∧ RowV W G l v
theorem RowV.fr {A B : World} {S : Nat → Prop} (k : Fr A B S) {G : Option Nat} {l : List Pc} {v : Value} (h : RowV A G l v) (hs : ∀ g, G = some g → ¬ S g) : RowV B G l v := by
  obtain ⟨a, c, e, h1, h2, h3⟩ := h
  refine ⟨a, c, e, h1, h2, fun h0 => ?_⟩
  obtain ⟨g, off, cur, hg, ha, hN, hr⟩ := h3 h0
  exact ⟨g, off, cur, hg, ha, hN.fr k (hs g hg), rdPcs_blk (k.block g hN.lt (hs g hg)) hr⟩
theorem RowAt.fr {A W : World} {S : Nat → Prop} (k : Fr A W S) {B : Nat} {G : Option Nat} {l : List Pc} (h : RowAt A B G l) (hB : ¬ S B) (hs : ∀ g, G = some g → ¬ S g) : RowAt W B G l := by
  obtain ⟨v, hN, hv⟩ := h
  exact ⟨v, hN.fr k hB, hv.fr k hs⟩
theorem RowV.rd {W : World} {G : Option Nat} {l : List Pc} {v : Value} (h : RowV W G l v) : RdP W l v := by
  obtain ⟨a, c, e, h1, h2, h3⟩ := h
  refine ⟨a, c, e, h1, h2, fun h0 => ?_⟩
  obtain ⟨g, off, cur, hg, ha, hN, hr⟩ := h3 h0
  exact ⟨g, off, ha, hr⟩
theorem rdPcs_cell {W : World} {g : Nat} : ∀ {l : List Pc} {off i : Nat} {x : Value}, rdPcs W g off l → (pcVals l)[i]? = some x → W.cell? ⟨g, off + i, none⟩ = some x
  | [], _, _, _, _, h => by simp [pcVals] at h
  | p :: r, off, i, x, ⟨h1, h2, h3, _, h5⟩, h => by
    have e : pcVals (p :: r) = .int .i64 p.keep :: .int .i64 p.drop :: .string p.put :: pcVals r := rfl
    rw [e] at h
    match i, h with
    | 0, h => simp at h; rw [← h]; exact h1
    | 1, h => simp at h; rw [← h]; exact h2
    | 2, h => simp at h; rw [← h]; exact h3
    | i + 3, h =>
      have := rdPcs_cell (i := i) h5 (by simpa using h)
      rw [show off + (i + 3) = off + 3 + i by omega]
      exact this
end Go.Proofs.Ytkimbpeapolcbaa.Sy
