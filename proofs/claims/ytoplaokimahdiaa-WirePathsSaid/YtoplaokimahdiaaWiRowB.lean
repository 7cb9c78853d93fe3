/- Chapter 17: rows of bytes that may be written. -/
import Derived.Test.YtoplaokimahdiaaWiWorks
namespace Go.Proofs.Ytoplaokimahdiaa.Wi
open Go.RowKit Go.Proofs.Ytoplaokimahdiaa.Bw Go.Proofs.Ytoplaokimahdiaa.Bs

/-- A row of bytes that may be written. -/
def Rw (n : Nat) (cs : Array Value) : Prop := ∀ j, j < n → ∃ b : Int, cs[j]? = some (.int .u8 b)
theorem Rw.set {n : Nat} {cs : Array Value} (h : Rw n cs) (i : Nat) (b : Int) : Rw n (cs.setIfInBounds i (.int .u8 b)) := by
  intro j hj
  by_cases e : i = j
  · subst e
    obtain ⟨x, hx⟩ := h i hj
    have hlt := (Array.getElem?_eq_some_iff.1 hx).1
    exact ⟨b, by rw [Array.getElem?_setIfInBounds_self_of_lt hlt]⟩
  · obtain ⟨x, hx⟩ := h j hj
    exact ⟨x, by rw [Array.getElem?_setIfInBounds_ne e]; exact hx⟩
theorem own_rw {W : World} {base n : Nat} {v : Value} {bs : List UInt8} (hn : bs.length = n) (h : W.ownsRow base 5 1 v n (u8s bs)) : ∃ A c, v = .slice A n c ∧ n ≤ 9223372036854775807 ∧ (0 < n → ∃ g cs, A = some ⟨g, 0, none⟩ ∧ base ≤ g ∧ NBox W g 5 cs ∧ Rw n cs) := by
  rcases h.2 with ⟨rfl, h0⟩ | ⟨g, cap, cur, rfl, hb, hg, h1, h2, h3, h4⟩
  · subst h0
    exact ⟨none, 0, rfl, Nat.zero_le _, fun h => absurd h (Nat.lt_irrefl 0)⟩
  · refine ⟨_, cap, rfl, ?_, fun _ => ⟨g, cur, rfl, hb, hg, fun j hj => ?_⟩⟩
    · unfold maxLen at h2
      omega
    · have := h.cells (g := g) rfl j (.int .u8 ((bs.getD j 0).toNat : Int)) (by
        unfold u8s
        rw [List.getElem?_map, List.getElem?_eq_getElem (by omega)]
        simp [List.getD, List.getElem?_eq_getElem (show j < bs.length by omega)])
      rw [Addr.add_lit, Nat.zero_add, cell_of_blk hg] at this
      exact ⟨_, this⟩
end Go.Proofs.Ytoplaokimahdiaa.Wi
