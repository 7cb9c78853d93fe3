/- Chapter 17: rows of bytes that may be written. -/
import Derived.Test.YtoplaokimahdiaaWiRdr
import Derived.Test.YtoplaokimahdiaaWiGetNum
import Derived.Laws.IdiomStrings
namespace Go.Proofs.Ytoplaokimahdiaa.Wi
open Go.RowKit Go.Proofs.Ytoplaokimahdiaa.Bw Go.Proofs.Ytoplaokimahdiaa.Bs

/-- A row of bytes that may be written. -/
def Rw (n : Nat) (cs : Array Value) : Prop := ∀ j, j < n → ∃ b : Int, cs[j]? = some (.int .u8 b)
theorem Rw.set {n : Nat} {cs : Array Value} (h : Rw n cs) (i : Nat) (b : Int) : Rw n (cs.setIfInBounds i (.int .u8 b)) := by
  intro j hj
  by_cases e : i = j
  · subst e
    obtain ⟨x, hx⟩ := h i hj
    have hlt := (Array.getElem?_eq_some_iff.1 hx).1
    exact ⟨b, by rw [Array.getElem?_setIfInBounds_self_of_lt hlt]⟩
  · obtain ⟨x, hx⟩ := h j hj
    exact ⟨x, by rw [Array.getElem?_setIfInBounds_ne e]; exact hx⟩
theorem own_rw {W : World} {base n : Nat} {v : Value} {bs : List UInt8} (hn : bs.length = n) (h : W.ownsRow base 5 1 v n (u8s bs)) : ∃ A c, v = .slice A n c ∧ n ≤ 9223372036854775807 ∧ (0 < n → ∃ g cs, A = some ⟨g, 0, none⟩ ∧ base ≤ g ∧ NBox W g 5 cs ∧ Rw n cs) := by
  rcases h.2 with ⟨rfl, h0⟩ | ⟨g, cap, cur, rfl, hb, hg, h1, h2, h3, h4⟩
  · subst h0
    exact ⟨none, 0, rfl, Nat.zero_le _, fun h => absurd h (Nat.lt_irrefl 0)⟩
  · refine ⟨_, cap, rfl, ?_, fun _ => ⟨g, cur, rfl, hb, hg, fun j hj => ?_⟩⟩
    · unfold maxLen at h2
      omega
    · have := h.cells (g := g) rfl j (.int .u8 ((bs.getD j 0).toNat : Int)) (by
        unfold u8s
        rw [List.getElem?_map, List.getElem?_eq_getElem (by omega)]
        simp [List.getD, List.getElem?_eq_getElem (show j < bs.length by omega)])
      rw [Addr.add_lit, Nat.zero_add, cell_of_blk hg] at this
      exact ⟨_, this⟩
end Go.Proofs.Ytoplaokimahdiaa.Wi
namespace Go.Proofs.Ytoplaokimahdiaa.Wi
open Go.RowKit Go.Proofs.Ytoplaokimahdiaa.Bw Go.Proofs.Ytoplaokimahdiaa.Bs

theorem conv_rd {W : World} {v : Value} {bs : List UInt8} (h : RdS W 1 bs.length (u8s bs) v) : (convert 25 9 v).run Try.prog W = .ok (.string (Sb bs)) W := by
  obtain ⟨A, c, rfl, -, -, -, hcell⟩ := h
  cases bs with
  | nil =>
    cases A with
    | none => exact run_convert_bytes_nil W 25 5 Try.underlying25 Try.underlying5 0 c 9 Try.underlying9
    | some a =>
      have hl : (loadCells a 0).run Try.prog W = .ok (([] : List Int).map (Value.int .u8)).toArray W := by
        have := run_loadCells_list (P := Try.prog) W a [] (fun j v hj => by simp at hj)
        simpa using this
      exact (run_convert_bytes_string W 25 9 5 _ _ c Try.underlying25 Try.underlying5 Try.underlying9).trans (run_bytesToString (P := Try.prog) W a 0 c [] hl)
  | cons x r =>
    obtain ⟨b, off, rfl, cells⟩ := hcell (by simp)
    rw [← sb_nums]
    refine run_convert_bytes_arg W 25 5 Try.underlying25 Try.underlying5 b off (x :: r).length c ((x :: r).map fun c => (c.toNat : Int)) (List.length_map ..) (fun i hi => ?_) 9 Try.underlying9
    refine cells i _ ?_
    unfold u8s
    rw [List.getD_eq_getElem?_getD, List.getElem?_map, List.getElem?_map, List.getElem?_eq_getElem hi]
    rfl
theorem conv_bytes (bs : List UInt8) (W : World) (h : bs.length ≤ maxLen) : ∃ cap W', (convert 9 25 (.string (Sb bs))).run Try.prog W = .ok (.slice (some ⟨W.heap.size, 0, none⟩) bs.length cap) W' ∧ Ext W W' ∧ RdS W' 1 bs.length (u8s bs) (.slice (some ⟨W.heap.size, 0, none⟩) bs.length cap) := by
  have hr := run_bytes_of_string (P := Try.prog) W 9 25 5 (Sb bs) Try.underlying9 Try.underlying25 Try.underlying5
  refine ⟨_, _, hr, (Ext.refl W).drew.alloc _, _, _, rfl, by rw [u8s_len, Nat.mul_one], grownCap_ge _ _ _ _, grownCap_le_maxLen _ _ _ _ h, fun _ => ⟨_, 0, rfl, fun j u hj => ?_⟩⟩
  have hjl : j < bs.length := by
    have := (List.getElem?_eq_some_iff.1 hj).1
    rwa [u8s_len] at this
  have e := World.cell?_alloc_mark W.drew (bytesRow (Sb bs) (grownCap W (Sb bs).size 0 5)) 5 ((bytesRow (Sb bs) (grownCap W (Sb bs).size 0 5)).size, (bytesRow (Sb bs) (grownCap W (Sb bs).size 0 5)).size + 1) j
  rw [Nat.zero_add]
  refine e.trans ?_
  rw [bytesRow_at (Sb bs) _ j hjl]
  unfold u8s at hj
  rw [List.getElem?_map, List.getElem?_eq_getElem hjl] at hj
  exact hj

theorem str_same (s : ByteArray) : (s.toList == s.toList) = true := by simp
end Go.Proofs.Ytoplaokimahdiaa.Wi
