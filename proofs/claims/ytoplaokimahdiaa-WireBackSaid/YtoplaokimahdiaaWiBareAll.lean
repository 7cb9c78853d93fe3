/- Chapter 17: bare: what of an operation its kind has not. (Printed by gbare.py.) -/
import Derived.Test.YtoplaokimahdiaaWiBare1
import Derived.Test.YtoplaokimahdiaaWiBare2
import Derived.Test.YtoplaokimahdiaaWiBare3
import Derived.Test.YtoplaokimahdiaaWiBare4
import Derived.Test.YtoplaokimahdiaaWiBare5
import Derived.Test.YtoplaokimahdiaaWiBare6
namespace Go.Proofs.Ytoplaokimahdiaa.Wi
open Go.RowKit Go.Proofs.Ytoplaokimahdiaa.Bw Go.Proofs.Ytoplaokimahdiaa.Bs

theorem isEmpty_size (s : ByteArray) : s.toList.isEmpty = (s.size == 0) := by
  rcases Nat.eq_zero_or_pos s.size with h | h
  · rw [str_empty h, h]; rfl
  · rw [str_some h]
    exact (beq_eq_false_iff_ne.2 (by omega)).symm
theorem len_zero {α : Type} (l : List α) : ((l.length : Int) == 0) = (l.length == 0) := by
  rw [Bool.eq_iff_iff, beq_iff_eq, beq_iff_eq]
  omega

theorem bare_1 (p : List Int) (a : Int) (t : List Int) (i : Int) (lf : Bool) (lb ky vv : ByteArray) (g : Bool) (c : List Pc) (pA tA cA : Option Addr) (pc tc cc : Nat) (w : World) :
    Calls Try.prog 68 #[.agg #[.int .u8 1, .slice pA p.length pc, .int .i64 a, .slice tA t.length tc, .int .u64 i, .bool lf, .string lb, .string ky, .string vv, .bool g, .slice cA c.length cc]] w fun e w' => e = .returned (.bool (bareO ⟨1, p, a, t, i, lf, lb, ky, vv, g, c⟩)) ∧ Ext w w' := by
  have x1 := isEmpty_size lb
  have x2 := isEmpty_size ky
  have x3 := isEmpty_size vv
  have x4 := len_zero t
  have x5 := len_zero c
  cases h_to : ((t.length : Int) == 0) with
  | false =>
    refine (bare_1_0 p a t i lf lb ky vv g c pA tA cA pc tc cc w h_to).mono ?_
    rintro e w' ⟨rfl, hX⟩
    exact ⟨by simp [bareO, ← x1, ← x2, ← x3, ← x4, ← x5, h_to], hX⟩
  | true =>
    cases h_key : ky.toList.isEmpty with
    | false =>
      refine (bare_1_1 p a t i lf lb ky vv g c pA tA cA pc tc cc w h_to h_key).mono ?_
      rintro e w' ⟨rfl, hX⟩
      exact ⟨by simp [bareO, ← x1, ← x2, ← x3, ← x4, ← x5, h_to, h_key], hX⟩
    | true =>
      cases h_value : vv.toList.isEmpty with
      | false =>
        refine (bare_1_2 p a t i lf lb ky vv g c pA tA cA pc tc cc w h_to h_key h_value).mono ?_
        rintro e w' ⟨rfl, hX⟩
        exact ⟨by simp [bareO, ← x1, ← x2, ← x3, ← x4, ← x5, h_to, h_key, h_value], hX⟩
      | true =>
        cases g with
        | true =>
          refine (bare_1_3 p a t i lf lb ky vv c pA tA cA pc tc cc w h_to h_key h_value).mono ?_
          rintro e w' ⟨rfl, hX⟩
          exact ⟨by simp [bareO, ← x1, ← x2, ← x3, ← x4, ← x5, h_to, h_key, h_value], hX⟩
        | false =>
          cases h_pcs : ((c.length : Int) == 0) with
          | false =>
            refine (bare_1_4 p a t i lf lb ky vv c pA tA cA pc tc cc w h_to h_key h_value h_pcs).mono ?_
            rintro e w' ⟨rfl, hX⟩
            exact ⟨by simp [bareO, ← x1, ← x2, ← x3, ← x4, ← x5, h_to, h_key, h_value, h_pcs], hX⟩
          | true =>
            refine (bare_1_5 p a t i lf lb ky vv c pA tA cA pc tc cc w h_to h_key h_value h_pcs).mono ?_
            rintro e w' ⟨rfl, hX⟩
            exact ⟨by simp [bareO, ← x1, ← x2, ← x3, ← x4, ← x5, h_to, h_key, h_value, h_pcs], hX⟩
theorem bare_2 (p : List Int) (a : Int) (t : List Int) (i : Int) (lf : Bool) (lb ky vv : ByteArray) (g : Bool) (c : List Pc) (pA tA cA : Option Addr) (pc tc cc : Nat) (w : World) :
    Calls Try.prog 68 #[.agg #[.int .u8 2, .slice pA p.length pc, .int .i64 a, .slice tA t.length tc, .int .u64 i, .bool lf, .string lb, .string ky, .string vv, .bool g, .slice cA c.length cc]] w fun e w' => e = .returned (.bool (bareO ⟨2, p, a, t, i, lf, lb, ky, vv, g, c⟩)) ∧ Ext w w' := by
  have x1 := isEmpty_size lb
  have x2 := isEmpty_size ky
  have x3 := isEmpty_size vv
  have x4 := len_zero t
  have x5 := len_zero c
  cases h_id : (i == 0) with
  | false =>
    refine (bare_2_0 p a t i lf lb ky vv g c pA tA cA pc tc cc w h_id).mono ?_
    rintro e w' ⟨rfl, hX⟩
    exact ⟨by simp [bareO, ← x1, ← x2, ← x3, ← x4, ← x5, h_id], hX⟩
  | true =>
    cases lf with
    | true =>
      refine (bare_2_1 p a t i lb ky vv g c pA tA cA pc tc cc w h_id).mono ?_
      rintro e w' ⟨rfl, hX⟩
      exact ⟨by simp [bareO, ← x1, ← x2, ← x3, ← x4, ← x5, h_id], hX⟩
    | false =>
      cases h_at : (a == 0) with
      | false =>
        refine (bare_2_2 p a t i lb ky vv g c pA tA cA pc tc cc w h_id h_at).mono ?_
        rintro e w' ⟨rfl, hX⟩
        exact ⟨by simp [bareO, ← x1, ← x2, ← x3, ← x4, ← x5, h_id, h_at], hX⟩
      | true =>
        cases h_to : ((t.length : Int) == 0) with
        | false =>
          refine (bare_2_3 p a t i lb ky vv g c pA tA cA pc tc cc w h_id h_at h_to).mono ?_
          rintro e w' ⟨rfl, hX⟩
          exact ⟨by simp [bareO, ← x1, ← x2, ← x3, ← x4, ← x5, h_id, h_at, h_to], hX⟩
        | true =>
          cases h_key : ky.toList.isEmpty with
          | false =>
            refine (bare_2_4 p a t i lb ky vv g c pA tA cA pc tc cc w h_id h_at h_to h_key).mono ?_
            rintro e w' ⟨rfl, hX⟩
            exact ⟨by simp [bareO, ← x1, ← x2, ← x3, ← x4, ← x5, h_id, h_at, h_to, h_key], hX⟩
          | true =>
            cases h_value : vv.toList.isEmpty with
            | false =>
              refine (bare_2_5 p a t i lb ky vv g c pA tA cA pc tc cc w h_id h_at h_to h_key h_value).mono ?_
              rintro e w' ⟨rfl, hX⟩
              exact ⟨by simp [bareO, ← x1, ← x2, ← x3, ← x4, ← x5, h_id, h_at, h_to, h_key, h_value], hX⟩
            | true =>
              cases g with
              | true =>
                refine (bare_2_6 p a t i lb ky vv c pA tA cA pc tc cc w h_id h_at h_to h_key h_value).mono ?_
                rintro e w' ⟨rfl, hX⟩
                exact ⟨by simp [bareO, ← x1, ← x2, ← x3, ← x4, ← x5, h_id, h_at, h_to, h_key, h_value], hX⟩
              | false =>
                cases h_label : lb.toList.isEmpty with
                | false =>
                  refine (bare_2_7 p a t i lb ky vv c pA tA cA pc tc cc w h_id h_at h_to h_key h_value h_label).mono ?_
                  rintro e w' ⟨rfl, hX⟩
                  exact ⟨by simp [bareO, ← x1, ← x2, ← x3, ← x4, ← x5, h_id, h_at, h_to, h_key, h_value, h_label], hX⟩
                | true =>
                  cases h_pcs : ((c.length : Int) == 0) with
                  | false =>
                    refine (bare_2_8 p a t i lb ky vv c pA tA cA pc tc cc w h_id h_at h_to h_key h_value h_label h_pcs).mono ?_
                    rintro e w' ⟨rfl, hX⟩
                    exact ⟨by simp [bareO, ← x1, ← x2, ← x3, ← x4, ← x5, h_id, h_at, h_to, h_key, h_value, h_label, h_pcs], hX⟩
                  | true =>
                    refine (bare_2_9 p a t i lb ky vv c pA tA cA pc tc cc w h_id h_at h_to h_key h_value h_label h_pcs).mono ?_
                    rintro e w' ⟨rfl, hX⟩
                    exact ⟨by simp [bareO, ← x1, ← x2, ← x3, ← x4, ← x5, h_id, h_at, h_to, h_key, h_value, h_label, h_pcs], hX⟩
theorem bare_3 (p : List Int) (a : Int) (t : List Int) (i : Int) (lf : Bool) (lb ky vv : ByteArray) (g : Bool) (c : List Pc) (pA tA cA : Option Addr) (pc tc cc : Nat) (w : World) :
    Calls Try.prog 68 #[.agg #[.int .u8 3, .slice pA p.length pc, .int .i64 a, .slice tA t.length tc, .int .u64 i, .bool lf, .string lb, .string ky, .string vv, .bool g, .slice cA c.length cc]] w fun e w' => e = .returned (.bool (bareO ⟨3, p, a, t, i, lf, lb, ky, vv, g, c⟩)) ∧ Ext w w' := by
  have x1 := isEmpty_size lb
  have x2 := isEmpty_size ky
  have x3 := isEmpty_size vv
  have x4 := len_zero t
  have x5 := len_zero c
  cases h_id : (i == 0) with
  | false =>
    refine (bare_3_0 p a t i lf lb ky vv g c pA tA cA pc tc cc w h_id).mono ?_
    rintro e w' ⟨rfl, hX⟩
    exact ⟨by simp [bareO, ← x1, ← x2, ← x3, ← x4, ← x5, h_id], hX⟩
  | true =>
    cases lf with
    | true =>
      refine (bare_3_1 p a t i lb ky vv g c pA tA cA pc tc cc w h_id).mono ?_
      rintro e w' ⟨rfl, hX⟩
      exact ⟨by simp [bareO, ← x1, ← x2, ← x3, ← x4, ← x5, h_id], hX⟩
    | false =>
      cases h_key : ky.toList.isEmpty with
      | false =>
        refine (bare_3_2 p a t i lb ky vv g c pA tA cA pc tc cc w h_id h_key).mono ?_
        rintro e w' ⟨rfl, hX⟩
        exact ⟨by simp [bareO, ← x1, ← x2, ← x3, ← x4, ← x5, h_id, h_key], hX⟩
      | true =>
        cases h_value : vv.toList.isEmpty with
        | false =>
          refine (bare_3_3 p a t i lb ky vv g c pA tA cA pc tc cc w h_id h_key h_value).mono ?_
          rintro e w' ⟨rfl, hX⟩
          exact ⟨by simp [bareO, ← x1, ← x2, ← x3, ← x4, ← x5, h_id, h_key, h_value], hX⟩
        | true =>
          cases g with
          | true =>
            refine (bare_3_4 p a t i lb ky vv c pA tA cA pc tc cc w h_id h_key h_value).mono ?_
            rintro e w' ⟨rfl, hX⟩
            exact ⟨by simp [bareO, ← x1, ← x2, ← x3, ← x4, ← x5, h_id, h_key, h_value], hX⟩
          | false =>
            cases h_label : lb.toList.isEmpty with
            | false =>
              refine (bare_3_5 p a t i lb ky vv c pA tA cA pc tc cc w h_id h_key h_value h_label).mono ?_
              rintro e w' ⟨rfl, hX⟩
              exact ⟨by simp [bareO, ← x1, ← x2, ← x3, ← x4, ← x5, h_id, h_key, h_value, h_label], hX⟩
            | true =>
              cases h_pcs : ((c.length : Int) == 0) with
              | false =>
                refine (bare_3_6 p a t i lb ky vv c pA tA cA pc tc cc w h_id h_key h_value h_label h_pcs).mono ?_
                rintro e w' ⟨rfl, hX⟩
                exact ⟨by simp [bareO, ← x1, ← x2, ← x3, ← x4, ← x5, h_id, h_key, h_value, h_label, h_pcs], hX⟩
              | true =>
                refine (bare_3_7 p a t i lb ky vv c pA tA cA pc tc cc w h_id h_key h_value h_label h_pcs).mono ?_
                rintro e w' ⟨rfl, hX⟩
                exact ⟨by simp [bareO, ← x1, ← x2, ← x3, ← x4, ← x5, h_id, h_key, h_value, h_label, h_pcs], hX⟩
theorem bare_4 (p : List Int) (a : Int) (t : List Int) (i : Int) (lf : Bool) (lb ky vv : ByteArray) (g : Bool) (c : List Pc) (pA tA cA : Option Addr) (pc tc cc : Nat) (w : World) :
    Calls Try.prog 68 #[.agg #[.int .u8 4, .slice pA p.length pc, .int .i64 a, .slice tA t.length tc, .int .u64 i, .bool lf, .string lb, .string ky, .string vv, .bool g, .slice cA c.length cc]] w fun e w' => e = .returned (.bool (bareO ⟨4, p, a, t, i, lf, lb, ky, vv, g, c⟩)) ∧ Ext w w' := by
  have x1 := isEmpty_size lb
  have x2 := isEmpty_size ky
  have x3 := isEmpty_size vv
  have x4 := len_zero t
  have x5 := len_zero c
  cases h_id : (i == 0) with
  | false =>
    refine (bare_4_0 p a t i lf lb ky vv g c pA tA cA pc tc cc w h_id).mono ?_
    rintro e w' ⟨rfl, hX⟩
    exact ⟨by simp [bareO, ← x1, ← x2, ← x3, ← x4, ← x5, h_id], hX⟩
  | true =>
    cases lf with
    | true =>
      refine (bare_4_1 p a t i lb ky vv g c pA tA cA pc tc cc w h_id).mono ?_
      rintro e w' ⟨rfl, hX⟩
      exact ⟨by simp [bareO, ← x1, ← x2, ← x3, ← x4, ← x5, h_id], hX⟩
    | false =>
      cases h_at : (a == 0) with
      | false =>
        refine (bare_4_2 p a t i lb ky vv g c pA tA cA pc tc cc w h_id h_at).mono ?_
        rintro e w' ⟨rfl, hX⟩
        exact ⟨by simp [bareO, ← x1, ← x2, ← x3, ← x4, ← x5, h_id, h_at], hX⟩
      | true =>
        cases h_to : ((t.length : Int) == 0) with
        | false =>
          refine (bare_4_3 p a t i lb ky vv g c pA tA cA pc tc cc w h_id h_at h_to).mono ?_
          rintro e w' ⟨rfl, hX⟩
          exact ⟨by simp [bareO, ← x1, ← x2, ← x3, ← x4, ← x5, h_id, h_at, h_to], hX⟩
        | true =>
          cases h_label : lb.toList.isEmpty with
          | false =>
            refine (bare_4_4 p a t i lb ky vv g c pA tA cA pc tc cc w h_id h_at h_to h_label).mono ?_
            rintro e w' ⟨rfl, hX⟩
            exact ⟨by simp [bareO, ← x1, ← x2, ← x3, ← x4, ← x5, h_id, h_at, h_to, h_label], hX⟩
          | true =>
            cases h_pcs : ((c.length : Int) == 0) with
            | false =>
              refine (bare_4_5 p a t i lb ky vv g c pA tA cA pc tc cc w h_id h_at h_to h_label h_pcs).mono ?_
              rintro e w' ⟨rfl, hX⟩
              exact ⟨by simp [bareO, ← x1, ← x2, ← x3, ← x4, ← x5, h_id, h_at, h_to, h_label, h_pcs], hX⟩
            | true =>
              refine (bare_4_6 p a t i lb ky vv g c pA tA cA pc tc cc w h_id h_at h_to h_label h_pcs).mono ?_
              rintro e w' ⟨rfl, hX⟩
              exact ⟨by simp [bareO, ← x1, ← x2, ← x3, ← x4, ← x5, h_id, h_at, h_to, h_label, h_pcs], hX⟩
theorem bare_5 (p : List Int) (a : Int) (t : List Int) (i : Int) (lf : Bool) (lb ky vv : ByteArray) (g : Bool) (c : List Pc) (pA tA cA : Option Addr) (pc tc cc : Nat) (w : World) :
    Calls Try.prog 68 #[.agg #[.int .u8 5, .slice pA p.length pc, .int .i64 a, .slice tA t.length tc, .int .u64 i, .bool lf, .string lb, .string ky, .string vv, .bool g, .slice cA c.length cc]] w fun e w' => e = .returned (.bool (bareO ⟨5, p, a, t, i, lf, lb, ky, vv, g, c⟩)) ∧ Ext w w' := by
  have x1 := isEmpty_size lb
  have x2 := isEmpty_size ky
  have x3 := isEmpty_size vv
  have x4 := len_zero t
  have x5 := len_zero c
  cases h_id : (i == 0) with
  | false =>
    refine (bare_5_0 p a t i lf lb ky vv g c pA tA cA pc tc cc w h_id).mono ?_
    rintro e w' ⟨rfl, hX⟩
    exact ⟨by simp [bareO, ← x1, ← x2, ← x3, ← x4, ← x5, h_id], hX⟩
  | true =>
    cases lf with
    | true =>
      refine (bare_5_1 p a t i lb ky vv g c pA tA cA pc tc cc w h_id).mono ?_
      rintro e w' ⟨rfl, hX⟩
      exact ⟨by simp [bareO, ← x1, ← x2, ← x3, ← x4, ← x5, h_id], hX⟩
    | false =>
      cases h_at : (a == 0) with
      | false =>
        refine (bare_5_2 p a t i lb ky vv g c pA tA cA pc tc cc w h_id h_at).mono ?_
        rintro e w' ⟨rfl, hX⟩
        exact ⟨by simp [bareO, ← x1, ← x2, ← x3, ← x4, ← x5, h_id, h_at], hX⟩
      | true =>
        cases h_to : ((t.length : Int) == 0) with
        | false =>
          refine (bare_5_3 p a t i lb ky vv g c pA tA cA pc tc cc w h_id h_at h_to).mono ?_
          rintro e w' ⟨rfl, hX⟩
          exact ⟨by simp [bareO, ← x1, ← x2, ← x3, ← x4, ← x5, h_id, h_at, h_to], hX⟩
        | true =>
          cases h_key : ky.toList.isEmpty with
          | false =>
            refine (bare_5_4 p a t i lb ky vv g c pA tA cA pc tc cc w h_id h_at h_to h_key).mono ?_
            rintro e w' ⟨rfl, hX⟩
            exact ⟨by simp [bareO, ← x1, ← x2, ← x3, ← x4, ← x5, h_id, h_at, h_to, h_key], hX⟩
          | true =>
            cases h_value : vv.toList.isEmpty with
            | false =>
              refine (bare_5_5 p a t i lb ky vv g c pA tA cA pc tc cc w h_id h_at h_to h_key h_value).mono ?_
              rintro e w' ⟨rfl, hX⟩
              exact ⟨by simp [bareO, ← x1, ← x2, ← x3, ← x4, ← x5, h_id, h_at, h_to, h_key, h_value], hX⟩
            | true =>
              cases g with
              | true =>
                refine (bare_5_6 p a t i lb ky vv c pA tA cA pc tc cc w h_id h_at h_to h_key h_value).mono ?_
                rintro e w' ⟨rfl, hX⟩
                exact ⟨by simp [bareO, ← x1, ← x2, ← x3, ← x4, ← x5, h_id, h_at, h_to, h_key, h_value], hX⟩
              | false =>
                cases h_pcs : ((c.length : Int) == 0) with
                | false =>
                  refine (bare_5_7 p a t i lb ky vv c pA tA cA pc tc cc w h_id h_at h_to h_key h_value h_pcs).mono ?_
                  rintro e w' ⟨rfl, hX⟩
                  exact ⟨by simp [bareO, ← x1, ← x2, ← x3, ← x4, ← x5, h_id, h_at, h_to, h_key, h_value, h_pcs], hX⟩
                | true =>
                  refine (bare_5_8 p a t i lb ky vv c pA tA cA pc tc cc w h_id h_at h_to h_key h_value h_pcs).mono ?_
                  rintro e w' ⟨rfl, hX⟩
                  exact ⟨by simp [bareO, ← x1, ← x2, ← x3, ← x4, ← x5, h_id, h_at, h_to, h_key, h_value, h_pcs], hX⟩
theorem bare_6 (p : List Int) (a : Int) (t : List Int) (i : Int) (lf : Bool) (lb ky vv : ByteArray) (g : Bool) (c : List Pc) (pA tA cA : Option Addr) (pc tc cc : Nat) (w : World) :
    Calls Try.prog 68 #[.agg #[.int .u8 6, .slice pA p.length pc, .int .i64 a, .slice tA t.length tc, .int .u64 i, .bool lf, .string lb, .string ky, .string vv, .bool g, .slice cA c.length cc]] w fun e w' => e = .returned (.bool (bareO ⟨6, p, a, t, i, lf, lb, ky, vv, g, c⟩)) ∧ Ext w w' := by
  have x1 := isEmpty_size lb
  have x2 := isEmpty_size ky
  have x3 := isEmpty_size vv
  have x4 := len_zero t
  have x5 := len_zero c
  cases h_id : (i == 0) with
  | false =>
    refine (bare_6_0 p a t i lf lb ky vv g c pA tA cA pc tc cc w h_id).mono ?_
    rintro e w' ⟨rfl, hX⟩
    exact ⟨by simp [bareO, ← x1, ← x2, ← x3, ← x4, ← x5, h_id], hX⟩
  | true =>
    cases lf with
    | true =>
      refine (bare_6_1 p a t i lb ky vv g c pA tA cA pc tc cc w h_id).mono ?_
      rintro e w' ⟨rfl, hX⟩
      exact ⟨by simp [bareO, ← x1, ← x2, ← x3, ← x4, ← x5, h_id], hX⟩
    | false =>
      cases h_at : (a == 0) with
      | false =>
        refine (bare_6_2 p a t i lb ky vv g c pA tA cA pc tc cc w h_id h_at).mono ?_
        rintro e w' ⟨rfl, hX⟩
        exact ⟨by simp [bareO, ← x1, ← x2, ← x3, ← x4, ← x5, h_id, h_at], hX⟩
      | true =>
        cases h_to : ((t.length : Int) == 0) with
        | false =>
          refine (bare_6_3 p a t i lb ky vv g c pA tA cA pc tc cc w h_id h_at h_to).mono ?_
          rintro e w' ⟨rfl, hX⟩
          exact ⟨by simp [bareO, ← x1, ← x2, ← x3, ← x4, ← x5, h_id, h_at, h_to], hX⟩
        | true =>
          cases h_key : ky.toList.isEmpty with
          | false =>
            refine (bare_6_4 p a t i lb ky vv g c pA tA cA pc tc cc w h_id h_at h_to h_key).mono ?_
            rintro e w' ⟨rfl, hX⟩
            exact ⟨by simp [bareO, ← x1, ← x2, ← x3, ← x4, ← x5, h_id, h_at, h_to, h_key], hX⟩
          | true =>
            cases h_value : vv.toList.isEmpty with
            | false =>
              refine (bare_6_5 p a t i lb ky vv g c pA tA cA pc tc cc w h_id h_at h_to h_key h_value).mono ?_
              rintro e w' ⟨rfl, hX⟩
              exact ⟨by simp [bareO, ← x1, ← x2, ← x3, ← x4, ← x5, h_id, h_at, h_to, h_key, h_value], hX⟩
            | true =>
              cases g with
              | true =>
                refine (bare_6_6 p a t i lb ky vv c pA tA cA pc tc cc w h_id h_at h_to h_key h_value).mono ?_
                rintro e w' ⟨rfl, hX⟩
                exact ⟨by simp [bareO, ← x1, ← x2, ← x3, ← x4, ← x5, h_id, h_at, h_to, h_key, h_value], hX⟩
              | false =>
                cases h_label : lb.toList.isEmpty with
                | false =>
                  refine (bare_6_7 p a t i lb ky vv c pA tA cA pc tc cc w h_id h_at h_to h_key h_value h_label).mono ?_
                  rintro e w' ⟨rfl, hX⟩
                  exact ⟨by simp [bareO, ← x1, ← x2, ← x3, ← x4, ← x5, h_id, h_at, h_to, h_key, h_value, h_label], hX⟩
                | true =>
                  refine (bare_6_8 p a t i lb ky vv c pA tA cA pc tc cc w h_id h_at h_to h_key h_value h_label).mono ?_
                  rintro e w' ⟨rfl, hX⟩
                  exact ⟨by simp [bareO, ← x1, ← x2, ← x3, ← x4, ← x5, h_id, h_at, h_to, h_key, h_value, h_label], hX⟩
theorem bare_any (o : OpD) (v : Value) (w0 w : World) (h : o.rd w0 v) (h1 : 1 ≤ o.kind) (h2 : o.kind ≤ 6) : Calls Try.prog 68 #[v] w fun e w' => e = .returned (.bool (bareO o)) ∧ Ext w w' := by
  obtain ⟨k, p, a, t, i, lf, lb, ky, vv, g, c⟩ := o
  obtain ⟨pv, tv, cv, rfl, ⟨pA, pc, rfl, -⟩, ⟨tA, tc, rfl, -⟩, ⟨cA, cc, rfl, -⟩, -⟩ := h
  simp only at h1 h2
  obtain rfl | rfl | rfl | rfl | rfl | rfl : k = 1 ∨ k = 2 ∨ k = 3 ∨ k = 4 ∨ k = 5 ∨ k = 6 := by omega
  · exact bare_1 p a t i lf lb ky vv g c pA tA cA pc tc cc w
  · exact bare_2 p a t i lf lb ky vv g c pA tA cA pc tc cc w
  · exact bare_3 p a t i lf lb ky vv g c pA tA cA pc tc cc w
  · exact bare_4 p a t i lf lb ky vv g c pA tA cA pc tc cc w
  · exact bare_5 p a t i lf lb ky vv g c pA tA cA pc tc cc w
  · exact bare_6 p a t i lf lb ky vv g c pA tA cA pc tc cc w
end Go.Proofs.Ytoplaokimahdiaa.Wi
