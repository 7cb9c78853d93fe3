/- Chapter 07: cells of one slot are written; new blocks are claimed. Nothing of the program is named here. -/
import Derived.Test.YtobbdeakocgdcaaArGrow
namespace Go.Proofs.Ytobbdeakocgdcaa.Ar
open Go.RowKit Go.Proofs.Ytobbdeakocgdcaa.Bw

theorem lies_over {cs : Array Value} {o i : Nat} {L vs : List Value} (h : Lies (fun i => cs[i]?) o L) (hi : i + vs.length ≤ L.length) (hsz : o + L.length ≤ cs.size) : Lies (fun k => (over cs (o + i) vs)[k]?) o (L.take i ++ vs ++ L.drop (i + vs.length)) := by
  intro j u hu
  show (over cs (o + i) vs)[o + j]? = some u
  have hl : (L.take i).length = i := by rw [List.length_take]; omega
  rcases Nat.lt_or_ge j i with h1 | h1
  · rw [List.append_assoc, List.getElem?_append_left (by omega), List.getElem?_take_of_lt h1] at hu
    rw [over_out _ _ _ _ (by omega)]
    exact h j u hu
  · rcases Nat.lt_or_ge j (i + vs.length) with h2 | h2
    · rw [List.append_assoc, List.getElem?_append_right (by omega), hl, List.getElem?_append_left (by omega)] at hu
      have := over_in vs (o + i) cs (j - i) (by omega) (by omega)
      rw [show o + i + (j - i) = o + j by omega] at this
      rw [this]; exact hu
    · rw [List.getElem?_append_right (by rw [List.length_append]; omega), List.length_append, hl, List.getElem?_drop] at hu
      rw [over_out _ _ _ _ (by omega)]
      have := h (i + vs.length + (j - (i + vs.length))) u hu
      rwa [show i + vs.length + (j - (i + vs.length)) = j by omega] at this
theorem slCells_len (s : Sl) (av kv : Value) : (slCells s av kv).length = 8 := rfl

/-- A new block is claimed. -/
def tagNew (ρ : Nat → Tg) (n0 : Nat) (o : Option Nat) (t : Tg) : Nat → Tg := fun g => if g < n0 then ρ g else if o = some g then t else .no
theorem tagNew_old {ρ : Nat → Tg} {n0 : Nat} {o : Option Nat} {t : Tg} {g : Nat} (h : g < n0) : tagNew ρ n0 o t g = ρ g := if_pos h
theorem tagNew_new {ρ : Nat → Tg} {n0 : Nat} {o : Option Nat} {t : Tg} {g : Nat} (h : n0 ≤ g) (ho : o = some g) : tagNew ρ n0 o t g = t := by
  unfold tagNew; rw [if_neg (by omega), if_pos ho]
theorem tagNew_lt {ρ : Nat → Tg} {n0 N : Nat} {o : Option Nat} {t : Tg} (hN : n0 ≤ N) (ho : ∀ g, o = some g → g < N) : ∀ g, tagNew ρ n0 o t g ≠ .no → g < N := by
  intro g h
  rcases Nat.lt_or_ge g n0 with h1 | h1
  · omega
  · by_cases h2 : o = some g
    · exact ho g h2
    · exfalso; apply h; unfold tagNew; rw [if_neg (by omega), if_neg h2]

section
variable {w w1 : World} {ρ ρ1 : Nat → Tg} {base A : Nat} {S : St} {sv fv : Value} {bs : List Nat}
/-- Some cells of a slot are written. -/
theorem AP.put (h : AP w ρ base A S sv fv bs) {n b i : Nat} {cs : Array Value} {av kv av' kv' : Value} {s s' : Sl} {vs : List Value} (hn : n < S.sl.length) (k : Fr w w1 (fun k => ρ k = .kids n ∨ ρ k = .no)) (hρ : ∀ g, g < w.heap.size → ρ1 g = ρ g) (hnew : ∀ g, ρ1 g ≠ .no → g < w1.heap.size)
    (hb : bs[n / 16]? = some b) (hc : NBox w b 86 cs) (hsz : cs.size = 128) (hl : Lies (fun i => cs[i]?) (n % 16 * 8) (slCells s av kv)) (hi : i + vs.length ≤ 8) (hs : SlotIn w1 ρ1 base n s' av' kv')
    (he : slCells s' av' kv' = (slCells s av kv).take i ++ vs ++ (slCells s av kv).drop (i + vs.length)) (hk : s'.kids.length ≤ 1000000) : AP (w1.setCells b (n % 16 * 8 + i) vs) ρ1 base A ⟨S.sl.set n s', S.free⟩ sv fv bs := by
  have hbt : ρ b = .slab := by obtain ⟨_, _, _, h3, _⟩ := h.slab _ b hb; exact h3
  have hF := Fr.setCells b vs (n % 16 * 8 + i) w1
  have hc1 : NBox w1 b 86 cs := hc.fr k (by rintro (e | e) <;> rw [hbt] at e <;> cases e)
  have hm : n % 16 < 16 := Nat.mod_lt _ (by omega)
  have hbt1 : ρ1 b = .slab := by rw [hρ b hc.lt]; exact hbt
  refine h.write hn hb hc ?_ (hc1.sets vs _) (by rw [over_size]; exact hsz) (fun j hj => over_out _ _ _ _ (by omega)) ?_ (hs.fr hF (fun g hg e => by rw [e, hbt1] at hg; cases hg) (fun g hg e => by rw [e, hbt1] at hg; cases hg) (fun _ _ => rfl)) hρ ?_ hk
  · exact (k.mono (fun _ _ h => .inr h)).trans (hF.mono (fun _ _ h => .inl h))
  · rw [he]
    exact lies_over hl (by rw [slCells_len]; exact hi) (by rw [slCells_len]; omega)
  · intro g hg
    exact Nat.lt_of_lt_of_le (hnew g hg) hF.size
theorem AP.put_step (h : AP w ρ base A S sv fv bs) {n b o : Nat} (k : Fr w w1 (fun k => ρ k = .kids n)) (hb : bs[n / 16]? = some b) (vs : List Value) (hρ : ∀ g, g < w.heap.size → ρ1 g = ρ g) : Step w ρ (w1.setCells b o vs) ρ1 := by
  have hbt : ρ b = .slab := by obtain ⟨_, _, _, h3, _⟩ := h.slab _ b hb; exact h3
  refine ⟨?_, hρ⟩
  refine (k.mono (T := fun k => ρ k ≠ .no) (fun g _ e => by rw [e]; intro e; cases e)).trans ((Fr.setCells b vs o w1).mono (fun g _ e => by rw [e, hbt]; intro e; cases e))
end
end Go.Proofs.Ytobbdeakocgdcaa.Ar
