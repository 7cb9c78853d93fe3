/- Chapter 17: slices.Index, slices.Contains at bytes; which kinds. -/
import Derived.Test.YtoplaokimahdiaaWiOp1
namespace Go.Proofs.Ytoplaokimahdiaa.Wi
open Go.RowKit Go.Proofs.Ytoplaokimahdiaa.Bw Go.Proofs.Ytoplaokimahdiaa.Bs

def ixF (k : Int) : List Int → Nat → Int
  | [], _ => -1
  | x :: r, i => if k = x then (i : Int) else ixF k r (i + 1)
theorem ixF_at {k : Int} {l : List Int} {i : Nat} {x : Int} (h : l[i]? = some x) : ixF k (l.drop i) i = if k = x then (i : Int) else ixF k (l.drop (i + 1)) (i + 1) := by
  have hlt := (List.getElem?_eq_some_iff.1 h).1
  have hx := (List.getElem?_eq_some_iff.1 h).2
  rw [List.drop_eq_getElem_cons hlt, hx]
  rfl
set_option maxRecDepth 100000 in
set_option maxHeartbeats 1000000 in
theorem index_any (k : Int) (l : List Int) (v : Value) (w : World) (h : RdS w 1 l.length (l.map (Value.int .u8)) v) : Calls Try.prog 102 #[v, .int .u8 k] w fun e w' => e = .returned (.int .i64 (ixF k l 0)) ∧ w = w' := by
  obtain ⟨A, c, rfl, _, hc1, hc2, hcell⟩ := h
  unfold maxLen at hc2
  go_enter Try.func102, Try.ntmps102
  go_wp2_with fail
  go_loop [8] (fun s8 => ∃ i : Nat, s8 = .int .i64 i ∧ i ≤ l.length ∧ Hid (ixF k (l.drop i) i = ixF k l 0)) (fun i => l.length - (intOf i).toNat)
  case atStart => exact ⟨0, rfl, Nat.zero_le _, Lib.hid rfl⟩
  case round =>
    obtain ⟨i, rfl, hi, HF⟩ := hrel
    rcases Nat.lt_or_ge i l.length with hlt | hlt
    · obtain ⟨x, hx⟩ : ∃ x, l[i]? = some x := ⟨_, List.getElem?_eq_getElem hlt⟩
      obtain ⟨b0, off, rfl, cells⟩ := hcell (by omega)
      have cx := cells i (.int .u8 x) (by rw [List.getElem?_map, hx]; rfl)
      have q1 : (0 : Int) ≤ (i : Int) := by omega
      have q2 : (i : Int) < (l.length : Int) := by omega
      have hat := ixF_at (k := k) hx
      by_cases hk : k = x
      · have t1 : (k == x) = true := by simpa using hk
        rw [if_pos hk] at hat
        have HR := Lib.hid (hat.symm.trans HF.out)
        clear hat hk cells hcell hx HF
        go_wp2_with fail
        go_ret
        rw [← HR.out]
        exact ⟨rfl, rfl⟩
      · have t1 : (k == x) = false := by simpa using hk
        rw [if_neg hk] at hat
        have HR : Hid (ixF k (l.drop (i + 1)) (i + 1) = ixF k l 0) := Lib.hid (hat.symm.trans HF.out)
        clear hat hk cells hcell hx HF
        go_wp2_with fail
        go_round
        case rel => exact ⟨i + 1, by go_num, by omega, HR⟩
        case measure => simp [intOf]; omega
    · have hR : ixF k l 0 = -1 := by rw [← HF.out, List.drop_eq_nil_of_le hlt]; rfl
      have HR := Lib.hid hR
      clear hR HF hcell
      go_wp2_with fail
      go_ret
      rw [HR.out]
      exact ⟨rfl, rfl⟩
def hasF (k : Int) (l : List Int) : Bool := decide (0 ≤ ixF k l 0)
set_option maxRecDepth 100000 in
theorem contains_any (k : Int) (l : List Int) (v : Value) (w : World) (h : RdS w 1 l.length (l.map (Value.int .u8)) v) : Calls Try.prog 100 #[v, .int .u8 k] w fun e w' => e = .returned (.bool (hasF k l)) ∧ w = w' := by
  have hc := index_any k l v w h
  obtain ⟨A, c, rfl, -⟩ := h
  obtain ⟨r, hr⟩ : ∃ r, ixF k l 0 = r := ⟨_, rfl⟩
  have HR := Lib.hid hr
  rw [hr] at hc
  clear hr
  go_enter Try.func100, Try.ntmps100
  go_wp2_with fail
  refine hc.mono ?_
  clear hc
  rintro e w' ⟨rfl, rfl⟩
  go_wp2_with fail
  go_ret
  unfold hasF
  rw [HR.out]
  exact ⟨rfl, rfl⟩
set_option maxRecDepth 100000 in
theorem has_any (k : Int) (l : List Int) (v : Value) (O : Nat) (w : World) (h : RdS w 1 l.length (l.map (Value.int .u8)) v) (hO : w.cell? ⟨O, 0, none⟩ = some (.int .u8 k)) : Calls Try.prog 99 #[v, .pointer (some ⟨O, 0, none⟩)] w fun e w' => e = .returned (.bool (hasF k l)) ∧ w = w' := by
  have hc := contains_any k l v w h
  obtain ⟨A, c, rfl, -⟩ := h
  obtain ⟨r, hr⟩ : ∃ r, hasF k l = r := ⟨_, rfl⟩
  rw [hr] at hc ⊢
  clear hr
  go_enter Try.func99, Try.ntmps99
  go_wp2_with fail
  refine hc.mono ?_
  clear hc
  rintro e w' ⟨rfl, rfl⟩
  go_wp2_with fail
  go_ret
  exact ⟨rfl, rfl⟩
theorem has1 (k a : Int) : hasF k [a] = (k == a) := by
  unfold hasF ixF ixF
  by_cases h : k = a
  · rw [if_pos h]; simp [h]
  · rw [if_neg h]; simp [h]
theorem has2 (k a b : Int) : hasF k [a, b] = (k == a || k == b) := by
  unfold hasF ixF ixF ixF
  by_cases h : k = a
  · rw [if_pos h]; simp [h]
  · rw [if_neg h]
    by_cases h' : k = b
    · rw [if_pos h']; simp [h']
    · rw [if_neg h']; simp [h, h']
end Go.Proofs.Ytoplaokimahdiaa.Wi
