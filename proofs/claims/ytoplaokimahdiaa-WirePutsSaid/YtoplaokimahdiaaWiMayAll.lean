/- Chapter 17: the document's MayOp. (Printed by gwmay.py.) -/
import Derived.Test.YtoplaokimahdiaaWiMay1
import Derived.Test.YtoplaokimahdiaaWiMay2
import Derived.Test.YtoplaokimahdiaaWiMay3
import Derived.Test.YtoplaokimahdiaaWiMay4
import Derived.Test.YtoplaokimahdiaaWiMay5
import Derived.Test.YtoplaokimahdiaaWiMay6
namespace Go.Proofs.Ytoplaokimahdiaa.Wi
open Go.RowKit Go.Proofs.Ytoplaokimahdiaa.Bw Go.Proofs.Ytoplaokimahdiaa.Bs

set_option maxRecDepth 100000 in
set_option maxHeartbeats 1000000 in
theorem mayOp_any (o : OpD) (v : Value) (w : World) (h : o.rd w v) : Calls Try.prog 34 #[v] w (Ret w fun r _ => r = .bool (mayO o)) := by
  obtain ⟨k, p, a, t, i, lf, lb, ky, vv, g, c⟩ := o
  obtain ⟨pv, tv, cv, rfl, hp, ht, hc, hlb, hky, hvv, -, -⟩ := h
  simp only at hp ht hc hlb hky hvv
  have hp' := hp
  have ht' := ht
  have hc' := hc
  obtain ⟨pA, pc, rfl, -⟩ := hp'
  obtain ⟨tA, tc, rfl, -⟩ := ht'
  obtain ⟨cA, cc, rfl, -⟩ := hc'
  by_cases h1 : 1 ≤ k ∧ k ≤ 6
  · obtain rfl | rfl | rfl | rfl | rfl | rfl : k = 1 ∨ k = 2 ∨ k = 3 ∨ k = 4 ∨ k = 5 ∨ k = 6 := by omega
    · exact mayOp_1 p a t i lf lb ky vv g c pA tA cA pc tc cc w hp ht hc hlb hky hvv
    · exact mayOp_2 p a t i lf lb ky vv g c pA tA cA pc tc cc w hp ht hc hlb hky hvv
    · exact mayOp_3 p a t i lf lb ky vv g c pA tA cA pc tc cc w hp ht hc hlb hky hvv
    · exact mayOp_4 p a t i lf lb ky vv g c pA tA cA pc tc cc w hp ht hc hlb hky hvv
    · exact mayOp_5 p a t i lf lb ky vv g c pA tA cA pc tc cc w hp ht hc hlb hky hvv
    · exact mayOp_6 p a t i lf lb ky vv g c pA tA cA pc tc cc w hp ht hc hlb hky hvv
  · show Calls Try.prog 34 #[.agg #[.int .u8 k, .slice pA p.length pc, .int .i64 a, .slice tA t.length tc, .int .u64 i, .bool lf, .string lb, .string ky, .string vv, .bool g, .slice cA c.length cc]] w _
    have HM : Hid (mayO ⟨k, p, a, t, i, lf, lb, ky, vv, g, c⟩ = false) := Lib.hid (by
      unfold mayO
      by_cases h2 : 1 ≤ k
      · rw [decide_eq_false (show ¬ k ≤ 6 from fun hh => h1 ⟨h2, hh⟩)]; simp
      · rw [decide_eq_false h2]; rfl)
    have X : Ext w (w.alloc (.cells #[.int .u8 k, .slice pA p.length pc, .int .i64 a, .slice tA t.length tc, .int .u64 i, .bool lf, .string lb, .string ky, .string vv, .bool g, .slice cA c.length cc] 66)) := (Ext.refl w).alloc _
    have HX := Lib.hid X
    have d0 := (NBox.new w 66 #[.int .u8 k, .slice pA p.length pc, .int .i64 a, .slice tA t.length tc, .int .u64 i, .bool lf, .string lb, .string ky, .string vv, .bool g, .slice cA c.length cc]).cell 0
    clear hp ht hc hlb hky hvv X
    by_cases h2 : 1 ≤ k
    · have t1 : decide (k < 1) = false := decide_eq_false (by omega)
      have t2 : decide (6 < k) = true := decide_eq_true (by omega)
      clear h1 h2
      go_enter Try.func34, Try.ntmps34
      go_wp2_with fail
      go_ret
      exact ret_b HM.out.symm HX.out
    · have t1 : decide (k < 1) = true := decide_eq_true (by omega)
      clear h1 h2
      go_enter Try.func34, Try.ntmps34
      go_wp2_with fail
      go_ret
      exact ret_b HM.out.symm HX.out
end Go.Proofs.Ytoplaokimahdiaa.Wi
