/- Chapter 10: LxPlainS turned to this seat. (Printed by gsyport.py.) -/
import Derived.Test.YtkimbpeapolcbaaSyLxPlainI
namespace Go.Proofs.Ytkimbpeapolcbaa.Sy
open Go.RowKit Go.Proofs.Ytkimbpeapolcbaa.Bw Go.Proofs.Ytkimbpeapolcbaa.Bs

/-- A view, done to a text. -/
def hdT (d : Bool) : List UInt8 → List UInt8
  | [] => []
  | c :: _ => if d then [] else [c]
def vApp : Vw → List UInt8 → List UInt8
  | [], T => T
  | x :: r, T => bl x.1 ++ hdT x.2 T ++ vApp r T.tail
theorem hd_tail (T : List UInt8) : hdT false T ++ T.tail = T := by cases T <;> rfl
/-- One byte of a text, edited. -/
theorem out_step {l : List Pc} (hn : Nn l) (hr : NR l) (T : List UInt8) (hx : extL l ≤ (T.length : Int)) :
    outL (runL ([], T) l) = bl (hereR l).1 ++ hdT (hereR l).2 T ++ outL (runL ([], T.tail) (nextR l)) := by
  have keepcase : ∀ (x : Pc) (r : List Pc) (T : List UInt8), 0 < x.keep → 0 ≤ x.drop → Nn r → extL (x :: r) ≤ (T.length : Int) → outL (runL ([], T) (x :: r)) = hdT false T ++ outL (runL ([], T.tail) ({ x with keep := x.keep - 1 } :: r)) := by
    intro x r T hk hd hnr hx
    have h3 := extL_nn hnr
    have e0 : extL (x :: r) = x.keep + x.drop + extL r := rfl
    cases T with
    | nil => simp only [List.length_nil] at hx; omega
    | cons c T =>
      rw [out_cons, out_cons]
      obtain ⟨k, hk'⟩ : ∃ k : Nat, x.keep = (k + 1 : Nat) := ⟨x.keep.toNat - 1, by omega⟩
      obtain ⟨d, hd'⟩ : ∃ d : Nat, x.drop = d := ⟨x.drop.toNat, by omega⟩
      have e1 : x.keep.toNat = k + 1 := by omega
      have e2 : (x.keep + x.drop).toNat = k + d + 1 := by omega
      have e3 : (x.keep - 1).toNat = k := by omega
      have e4 : (x.keep - 1 + x.drop).toNat = k + d := by omega
      simp only [e1, e2, e3, e4, hdT, List.tail_cons, List.take_succ_cons, List.drop_succ_cons, List.cons_append, List.nil_append, Bool.false_eq_true, if_false]
  cases l with
  | nil =>
    show [] ++ T = [] ++ hdT false T ++ ([] ++ T.tail)
    simp only [List.nil_append]
    exact (hd_tail T).symm
  | cons x r =>
    obtain ⟨h1, h2⟩ := hn x List.mem_cons_self
    have ha : AK r := hr
    by_cases hk : 0 < x.keep
    · have e1 : rPut (x :: r) = x :: r := if_pos hk
      have e2 : rSkip (x :: r) = x :: r := if_pos (.inl hk)
      have e3 : hereR (x :: r) = (⟨#[]⟩, false) := by
        unfold hereR
        rw [e1, e2, show rPutS (x :: r) = ⟨#[]⟩ from if_pos hk, show rD (x :: r) = false from if_pos hk]
      have e4 : nextR (x :: r) = { x with keep := x.keep - 1 } :: r := by
        unfold nextR
        rw [e1, e2]
        exact if_pos hk
      rw [e3, e4, keepcase x r T hk h2 hn.tail hx]
      rfl
    · have k0 : x.keep = 0 := by omega
      have e1 : rPut (x :: r) = { x with put := ⟨#[]⟩ } :: r := if_neg hk
      have e5 : rPutS (x :: r) = x.put := if_neg hk
      by_cases hd : 0 < x.drop
      · have e2 : rSkip ({ x with put := ⟨#[]⟩ } :: r) = { x with put := ⟨#[]⟩ } :: r := if_pos (.inr hd)
        have e3 : hereR (x :: r) = (x.put, true) := by
          unfold hereR
          rw [e1, e2, e5, show rD ({ x with put := ⟨#[]⟩ } :: r) = true from if_neg hk]
        have e4 : nextR (x :: r) = { x with put := ⟨#[]⟩, drop := x.drop - 1 } :: r := by
          unfold nextR
          rw [e1, e2]
          exact if_neg hk
        rw [e3, e4, out_cons, out_cons]
        have h3 := extL_nn hn.tail
        have e0 : extL (x :: r) = x.keep + x.drop + extL r := rfl
        cases T with
        | nil => simp only [List.length_nil] at hx; omega
        | cons c T =>
          obtain ⟨d, hd'⟩ : ∃ d : Nat, x.drop = (d + 1 : Nat) := ⟨x.drop.toNat - 1, by omega⟩
          have e6 : (x.keep + x.drop).toNat = d + 1 := by omega
          have e7 : (x.keep + (x.drop - 1)).toNat = d := by omega
          have e8 : x.keep.toNat = 0 := by omega
          simp only [e6, e7, e8, hdT, List.tail_cons, List.take_zero, List.drop_succ_cons, List.nil_append, List.append_nil, if_true, bl_nil]
      · have d0 : x.drop = 0 := by omega
        have e2 : rSkip ({ x with put := ⟨#[]⟩ } :: r) = rSkip r := if_neg (by simp only; omega)
        have eo : outL (runL ([], T) (x :: r)) = bl x.put ++ outL (runL ([], T) r) := by
          rw [out_cons, k0, d0]
          simp
        rw [eo]
        cases r with
        | nil =>
          have e3 : hereR [x] = (x.put, false) := by
            unfold hereR
            rw [e1, e2, e5]; rfl
          have e4 : nextR [x] = [] := by
            unfold nextR
            rw [e1, e2]; rfl
          rw [e3, e4]
          show bl x.put ++ ([] ++ T) = bl x.put ++ hdT false T ++ ([] ++ T.tail)
          simp only [List.nil_append, List.append_assoc]
          rw [hd_tail]
        | cons y t =>
          have hy := ha y List.mem_cons_self
          have e6 : rSkip (y :: t) = y :: t := if_pos (.inl hy)
          have e3 : hereR (x :: y :: t) = (x.put, false) := by
            unfold hereR
            rw [e1, e2, e5, e6, show rD (y :: t) = false from if_pos hy]
          have e4 : nextR (x :: y :: t) = { y with keep := y.keep - 1 } :: t := by
            unfold nextR
            rw [e1, e2, e6]
            exact if_pos hy
          have hxy : extL (x :: y :: t) = x.keep + x.drop + extL (y :: t) := rfl
          rw [e3, e4, keepcase y t T hy (hn y (by simp)).2 hn.tail.tail (by omega), List.append_assoc]
theorem nextR_ext {l : List Pc} (hn : Nn l) : extL (nextR l) ≤ extL l ∧ (0 < extL l → NR l → extL (nextR l) ≤ extL l - 1) := by
  have h1 := ext_put l
  have h2 := ext_skip hn.put
  have h3 := (extL_nn (next_nn hn)).1
  unfold nextR at h3 ⊢
  cases hs : rSkip (rPut l) with
  | nil =>
    rw [hs] at h3 h2
    have := (extL_nn hn).1
    constructor
    · show (0 : Int) ≤ _; omega
    · intro h0 _; show (0 : Int) ≤ _; omega
  | cons x r =>
    have h4 := ext_take (n := 1) (l := x :: r) (by simp)
    rw [hs] at h2
    exact ⟨by omega, fun _ _ => by omega⟩
theorem nextR_nr {l : List Pc} (hr : NR l) : NR (nextR l) := hr.put.skip.take
theorem next_nil {l : List Pc} (hn : Nn l) (_hr : NR l) (h0 : extL l ≤ 0) : nextR l = [] := by
  have h1 := ext_put l
  have h2 := ext_skip hn.put
  unfold nextR
  cases hs : rSkip (rPut l) with
  | nil => rfl
  | cons x r =>
    have h3 := rN_skip_pos (l := rPut l) (by rw [hs]; simp)
    have h4 := rN_ext hn.put.skip
    omega
theorem out_view : ∀ (N : Nat) {l : List Pc} (T : List UInt8), Nn l → NR l → extL l ≤ (N : Int) → extL l ≤ (T.length : Int) → outL (runL ([], T) l) = vApp (vwF l N) T
  | 0, l, T, hn, hr, h1, h2 => by
    rw [out_step hn hr T h2, next_nil hn hr h1]
    rfl
  | N + 1, l, T, hn, hr, h1, h2 => by
    rw [out_step hn hr T h2]
    obtain ⟨h3, h4⟩ := nextR_ext hn
    have h5 := (extL_nn (next_nn hn)).1
    show _ = bl (hereR l).1 ++ hdT (hereR l).2 T ++ vApp (vwF (nextR l) N) T.tail
    rcases Int.lt_or_le 0 (extL l) with h0 | h0
    · have h6 := h4 h0 hr
      rw [out_view N T.tail (next_nn hn) (nextR_nr hr) (by omega) (by rw [List.length_tail]; omega)]
    · have h6 : extL (nextR l) ≤ 0 := by omega
      rw [out_view N T.tail (next_nn hn) (nextR_nr hr) (by omega) (by omega)]
def both (first : Bool) : Vw → Vw → List UInt8 → List UInt8
  | a :: r, b :: s, T => (if first then bl a.1 ++ bl b.1 else bl b.1 ++ bl a.1) ++ hdT (a.2 || b.2) T ++ both first r s T.tail
  | _, _, T => T
theorem both_comm (first : Bool) : ∀ (A B : Vw) (T : List UInt8), A.length = B.length → both (!first) B A T = both first A B T
  | [], [], _, _ => rfl
  | a :: r, b :: s, T, h => by
    show (if !first then bl b.1 ++ bl a.1 else bl a.1 ++ bl b.1) ++ hdT (b.2 || a.2) T ++ both (!first) s r T.tail = (if first then bl a.1 ++ bl b.1 else bl b.1 ++ bl a.1) ++ hdT (a.2 || b.2) T ++ both first r s T.tail
    rw [both_comm first r s T.tail (by simpa using h), Bool.or_comm]
    cases first <;> rfl
  | [], _ :: _, _, h => by simp at h
  | _ :: _, [], _, h => by simp at h
theorem runL_nil (s : Ap) : runL s [] = s := rfl
theorem both_run (first : Bool) : ∀ (A B : Vw) (T acc : List UInt8), A.length = B.length → A.length ≤ T.length + 1 → (∀ i x, A[i]? = some x → x.2 = true → i < T.length) →
    outL (runL (acc, vApp B T) (bhP first A B)) = acc ++ both first A B T
  | [], [], T, acc, _, _, _ => rfl
  | a :: r, b :: s, T, acc, hl, hT, hf => by
    have hl' : r.length = s.length := by simpa using hl
    have ih := fun acc' => both_run first r s T.tail acc' hl' (by simp only [List.length_cons] at hT; rw [List.length_tail]; omega) (fun i x hi hx => by
      have := hf (i + 1) x (by simpa using hi) hx
      rw [List.length_tail]; omega)
    have hfa : a.2 = true → T ≠ [] := fun h h0 => by
      have := hf 0 a rfl h
      rw [h0] at this
      exact Nat.lt_irrefl 0 this
    have hTn : T = [] → s = [] := fun h0 => by
      rw [h0] at hT
      simp only [List.length_cons, List.length_nil] at hT
      exact List.eq_nil_of_length_eq_zero (by omega)
    show outL (runL (acc, bl b.1 ++ hdT b.2 T ++ vApp s T.tail) (bhStep first a b ++ bhP first r s)) = _
    rw [runL_append]
    have h1 : ∀ (z : List UInt8), stepL (acc, bl b.1 ++ z) ⟨b.1.size, 0, ⟨#[]⟩⟩ = (acc ++ bl b.1, z) := by
      intro z
      unfold stepL
      simp only [Int.add_zero, Int.toNat_natCast, bl_nil, List.append_nil]
      rw [← bl_len, List.take_left, List.drop_left]
    have h2 : ∀ (z u : List UInt8), stepL (z, u) ⟨0, 0, a.1⟩ = (z ++ bl a.1, u) := by
      intro z u
      simp [stepL]
    have hpre : ∀ (tl : List Pc), runL (acc, bl b.1 ++ hdT b.2 T ++ vApp s T.tail) ((if first then [⟨0, 0, a.1⟩, ⟨b.1.size, 0, ⟨#[]⟩⟩] else [⟨b.1.size, 0, ⟨#[]⟩⟩, ⟨0, 0, a.1⟩]) ++ tl) = runL (acc ++ (if first then bl a.1 ++ bl b.1 else bl b.1 ++ bl a.1), hdT b.2 T ++ vApp s T.tail) tl := by
      intro tl
      rw [List.append_assoc]
      cases first
      · show runL (stepL (stepL (acc, bl b.1 ++ (hdT b.2 T ++ vApp s T.tail)) ⟨b.1.size, 0, ⟨#[]⟩⟩) ⟨0, 0, a.1⟩) tl = _
        rw [h1, h2]
        simp [List.append_assoc]
      · show runL (stepL (stepL (acc, bl b.1 ++ (hdT b.2 T ++ vApp s T.tail)) ⟨0, 0, a.1⟩) ⟨b.1.size, 0, ⟨#[]⟩⟩) tl = _
        rw [h2]
        have h1' : stepL (acc ++ bl a.1, bl b.1 ++ (hdT b.2 T ++ vApp s T.tail)) ⟨b.1.size, 0, ⟨#[]⟩⟩ = (acc ++ bl a.1 ++ bl b.1, hdT b.2 T ++ vApp s T.tail) := by
          unfold stepL
          simp only [Int.add_zero, Int.toNat_natCast, bl_nil, List.append_nil]
          rw [← bl_len, List.take_left, List.drop_left]
        rw [h1']
        simp [List.append_assoc]
    have hstep : runL (acc, bl b.1 ++ hdT b.2 T ++ vApp s T.tail) (bhStep first a b) = (acc ++ (if first then bl a.1 ++ bl b.1 else bl b.1 ++ bl a.1) ++ hdT (a.2 || b.2) T, vApp s T.tail) := by
      unfold bhStep
      rw [hpre]
      generalize acc ++ (if first then bl a.1 ++ bl b.1 else bl b.1 ++ bl a.1) = ac
      cases hb : b.2 with
      | true =>
        rw [Bool.or_true]
        cases T <;> simp [hdT, runL]
      | false =>
        rw [Bool.or_false]
        cases ha : a.2 with
        | true =>
          cases T with
          | nil => exact absurd rfl (hfa ha)
          | cons c T => simp [hdT, runL, stepL, bl_nil]
        | false =>
          cases T with
          | nil =>
            rw [hTn rfl]
            simp [hdT, runL, stepL, bl_nil, vApp]
          | cons c T => simp [hdT, runL, stepL, bl_nil]
    rw [hstep, ih]
    show _ = acc ++ ((if first then bl a.1 ++ bl b.1 else bl b.1 ++ bl a.1) ++ hdT (a.2 || b.2) T ++ both first r s T.tail)
    simp only [List.append_assoc]
  | [], _ :: _, _, _, h, _, _ => by simp at h
  | _ :: _, [], _, _, h, _, _ => by simp at h
theorem bhP_ext (first : Bool) : ∀ (A B : Vw) (T : List UInt8), A.length = B.length → A.length ≤ T.length + 1 → extL (bhP first A B) ≤ ((vApp B T).length : Int) + 1
  | [], [], T, _, _ => by show (0 : Int) ≤ _; omega
  | a :: r, b :: s, T, hl, hT => by
    have hl' : r.length = s.length := by simpa using hl
    have e0 : extL (bhStep first a b) = (b.1.size : Int) + (if b.2 then 0 else 1) := by
      obtain ⟨a1, a2⟩ := a
      obtain ⟨b1, b2⟩ := b
      cases first <;> cases a2 <;> cases b2 <;> simp [bhStep, extL]
    show extL (bhStep first a b ++ bhP first r s) ≤ ((bl b.1 ++ hdT b.2 T ++ vApp s T.tail).length : Int) + 1
    rw [extL_append, e0, List.length_append, List.length_append, bl_len]
    cases T with
    | nil =>
      simp only [List.length_cons, List.length_nil] at hT
      have hr : r = [] := List.eq_nil_of_length_eq_zero (by omega)
      have hs : s = [] := List.eq_nil_of_length_eq_zero (by rw [← hl', hr]; rfl)
      rw [hr, hs]
      show (b.1.size : Int) + (if b.2 then 0 else 1) + 0 ≤ _
      simp only [hdT, vApp, List.length_nil, List.tail_nil]
      split <;> omega
    | cons c T =>
      have ih := bhP_ext first r s T hl' (by simp only [List.length_cons] at hT; omega)
      simp only [hdT, List.tail_cons]
      cases b.2 <;> simp <;> omega
  | [], _ :: _, _, h, _ => by simp at h
  | _ :: _, [], _, h, _ => by simp at h
theorem bhP_snoc (first : Bool) : ∀ (A B : Vw) (x y : ByteArray × Bool), A.length = B.length → bhP first (A ++ [x]) (B ++ [y]) = bhP first A B ++ bhStep first x y
  | [], [], x, y, _ => by show bhStep first x y ++ [] = [] ++ bhStep first x y; simp
  | a :: r, b :: s, x, y, h => by
    show bhStep first a b ++ bhP first (r ++ [x]) (s ++ [y]) = bhStep first a b ++ bhP first r s ++ bhStep first x y
    rw [bhP_snoc first r s x y (by simpa using h), List.append_assoc]
  | [], _ :: _, _, _, h => by simp at h
  | _ :: _, [], _, _, h => by simp at h
theorem normL_keep1 (l : List Pc) : normL (l ++ [⟨1, 0, ⟨#[]⟩⟩]) = normL l := by
  unfold normL
  rw [pieces_append]
  show ((Mk.pieces ⟨[], 0⟩ l).piece ⟨1, 0, ⟨#[]⟩⟩).l = _
  rw [piece_keep]
  rfl
theorem dropF_false : ∀ {l : List Pc} {n i : Nat}, Nn l → n + extL l ≤ (i : Int) → dropF l n i = false
  | [], _, _, _, _ => rfl
  | p :: r, n, i, h, hi => by
    obtain ⟨h1, h2⟩ := h p List.mem_cons_self
    have h3 := (extL_nn h.tail).1
    have e0 : extL (p :: r) = p.keep + p.drop + extL r := rfl
    have hk : (kN p : Int) = p.keep := by unfold kN; omega
    have hd : (dN p : Int) = p.drop := by unfold dN; omega
    show (decide (n + kN p ≤ i ∧ i < n + kN p + dN p) || dropF r (n + kN p + dN p) i) = false
    rw [dropF_false (l := r) h.tail (by omega), decide_eq_false (by omega)]
    rfl
theorem vwF_flag {l : List Pc} (hn : Nn l) (hr : NR l) {N : Nat} : ∀ (i : Nat) (x : ByteArray × Bool), (vwF l N)[i]? = some x → x.2 = true → (i : Int) < extL l := by
  intro i x hi hx
  have hl : i < (vwF l N).length := (List.getElem?_eq_some_iff.1 hi).1
  rw [vwF_len] at hl
  rw [vwF_get N hn hr (by omega)] at hi
  obtain rfl := Option.some.inj hi
  rcases Int.lt_or_le (i : Int) (extL l) with h | h
  · exact h
  · have : dropF l 0 i = false := dropF_false hn (by omega)
    simp only at hx
    rw [this] at hx
    cases hx
theorem vwF_last {l : List Pc} (hn : Nn l) (hr : NR l) {N : Nat} (hx : extL l ≤ (N : Int)) : ∃ A s, vwF l N = A ++ [(s, false)] ∧ A.length = N := by
  have hne : vwF l N ≠ [] := by intro h; have := vwF_len N l; rw [h] at this; simp at this
  obtain ⟨A, x, hA⟩ : ∃ A x, vwF l N = A ++ [x] := ⟨_, _, (List.dropLast_concat_getLast hne).symm⟩
  have hlen : A.length = N := by have := vwF_len N l; rw [hA] at this; simpa using this
  have hget : (vwF l N)[N]? = some x := by rw [hA, ← hlen]; simp
  obtain ⟨s, d⟩ := x
  cases d with
  | false => exact ⟨A, s, hA, hlen⟩
  | true =>
    have := vwF_flag hn hr N _ hget rfl
    omega
end Go.Proofs.Ytkimbpeapolcbaa.Sy
