/- Chapter 05: what undoes an edit makes the text what it was. -/
import Derived.Test.YtmncjknfkkedmaaLxRInvert
import Derived.Test.YtmncjknfkkedmaaLxWorks
namespace Go.Proofs.Ytmncjknfkkedmaa.Lx
open Go.RowKit Go.Proofs.Ytmncjknfkkedmaa.Bw Go.Proofs.Ytmncjknfkkedmaa.Bs

theorem outL_acc : ∀ (l : List Pc) (a t : List UInt8), outL (runL (a, t) l) = a ++ outL (runL ([], t) l)
  | [], _, _ => rfl
  | p :: r, a, t => by
    show outL (runL (stepL (a, t) p) r) = a ++ outL (runL (stepL ([], t) p) r)
    unfold stepL
    simp only
    rw [outL_acc r, outL_acc r ([] ++ _ ++ _)]
    simp [List.append_assoc]
theorem out_cons (p : Pc) (r : List Pc) (x : List UInt8) : outL (runL ([], x) (p :: r)) = x.take p.keep.toNat ++ bl p.put ++ outL (runL ([], x.drop (p.keep + p.drop).toNat) r) := by
  show outL (runL (stepL ([], x) p) r) = _
  unfold stepL
  simp only
  rw [outL_acc]
  simp
theorem inv_run (t : ByteArray) : ∀ (l : List Pc) (n : Nat) (acc : List UInt8), Nn l → n + extL l ≤ t.size →
    runL (acc, outL (runL ([], (bl t).drop n) l)) (invOut t n l) = (acc ++ ((bl t).drop n).take (extL l).toNat, (bl t).drop (n + (extL l).toNat)) ∧ extL (invOut t n l) ≤ ((outL (runL ([], (bl t).drop n) l)).length : Int)
  | [], n, acc, _, _ => by
    constructor
    · show (acc, [] ++ (bl t).drop n) = (acc ++ List.take 0 _, (bl t).drop (n + 0))
      simp
    · show (0 : Int) ≤ _; omega
  | p :: r, n, acc, h, he => by
    obtain ⟨k1, k2⟩ := h p List.mem_cons_self
    have h3 := extL_nn h.tail
    have e0 : extL (p :: r) = p.keep + p.drop + extL r := rfl
    obtain ⟨k, hk⟩ : ∃ x : Nat, p.keep = x := ⟨p.keep.toNat, by omega⟩
    obtain ⟨d, hd⟩ : ∃ x : Nat, p.drop = x := ⟨p.drop.toNat, by omega⟩
    obtain ⟨e, he'⟩ : ∃ x : Nat, extL r = x := ⟨(extL r).toNat, by omega⟩
    have e1 : (extL (p :: r)).toNat = k + d + e := by omega
    have hlen : k ≤ ((bl t).drop n).length := by rw [List.length_drop, bl_len]; omega
    rw [out_cons, hk, hd, Int.toNat_natCast, show ((k : Int) + (d : Int)).toNat = k + d by omega, List.drop_drop]
    obtain ⟨ih1, ih2⟩ := inv_run t r (n + k + d) (acc ++ ((bl t).drop n).take (k + d)) h.tail (by omega)
    obtain ⟨A, hA⟩ : ∃ A, outL (runL ([], (bl t).drop (n + (k + d))) r) = A := ⟨_, rfl⟩
    rw [show n + k + d = n + (k + d) by omega, hA] at ih1 ih2
    rw [hA]
    have hpiece : invOut t n (p :: r) = ⟨p.keep, p.put.size, t.extract (n + k) (n + k + d)⟩ :: invOut t (n + (k + d)) r := by
      show (⟨p.keep, p.put.size, t.extract (n + p.keep.toNat) (n + p.keep.toNat + p.drop.toNat)⟩ : Pc) :: invOut t (n + p.keep.toNat + p.drop.toNat) r = _
      rw [hk, hd, Int.toNat_natCast, Int.toNat_natCast, show n + k + d = n + (k + d) by omega]
    rw [hpiece]
    constructor
    · show runL (stepL (acc, ((bl t).drop n).take k ++ bl p.put ++ A) ⟨p.keep, p.put.size, t.extract (n + k) (n + k + d)⟩) (invOut t (n + (k + d)) r) = _
      have hstep : stepL (acc, ((bl t).drop n).take k ++ bl p.put ++ A) ⟨p.keep, p.put.size, t.extract (n + k) (n + k + d)⟩ = (acc ++ ((bl t).drop n).take (k + d), A) := by
        unfold stepL
        simp only [hk, Int.toNat_natCast]
        have e2 : ((k : Int) + (p.put.size : Int)).toNat = k + p.put.size := by omega
        have e3 : bl (t.extract (n + k) (n + k + d)) = (((bl t).drop n).drop k).take d := by
          rw [bl_extract, List.drop_drop, show n + k + d - (n + k) = d by omega]
        have e4 : (((bl t).drop n).take k ++ bl p.put).length = k + p.put.size := by rw [List.length_append, bl_len, List.length_take]; omega
        rw [e2, e3, List.drop_left' e4, List.append_assoc (((bl t).drop n).take k), List.take_left' (by rw [List.length_take]; omega), List.take_add, List.append_assoc]
      rw [hstep, ih1, he', Int.toNat_natCast, e1]
      rw [show n + (k + d) + e = n + (k + d + e) by omega, List.append_assoc]
      congr 2
      rw [List.take_add (i := k + d), List.drop_drop]
    · show p.keep + (p.put.size : Int) + extL (invOut t (n + (k + d)) r) ≤ _
      rw [List.length_append, List.length_append, bl_len, List.length_take]
      omega
theorem inv_undo {t : ByteArray} {l : List Pc} (h : apE t l = 0) (hw : sumP l ≤ 1000) (hl : l.length ≤ 900) : inE t l = 0 ∧ apE (apS t l) (inL t l) = 0 ∧ apS (apS t l) (inL t l) = t := by
  obtain ⟨h1, h2⟩ := apE_ok h
  obtain ⟨n1, _, _⟩ := right_nn h1
  have hwt : wt l ≤ 1000 := by rw [← sumP_eq n1]; exact hw
  have m1 := normL_nn n1
  have m2 := normL_wt n1
  have m3 := normL_len l
  have m4 := normL_ext n1
  obtain ⟨o1, o2, o3⟩ := invOut_nn t 0 m1
  have eS := invS_eq t n1 h2
  have hr : pcsRight (invS t l) = true := by rw [eS]; exact right_normL o1 (by omega) (by omega)
  have hE : inE t l = 0 := by unfold inE; rw [if_pos h, hr]; rfl
  have hL : inL t l = invS t l := by unfold inL; rw [if_pos hE]
  have hs : apS t l = applyB t (normL l) := by rw [apS_ok h, apply_normL t n1]
  obtain ⟨r1, r2⟩ := inv_run t (normL l) 0 [] m1 (by omega)
  rw [List.drop_zero, ← bl_apply] at r1 r2
  rw [bl_len] at r2
  have hap : applyB (applyB t (normL l)) (invS t l) = t := by
    apply bl_inj
    rw [bl_apply, eS, run_normL _ o1, r1]
    unfold outL
    simp
  have hx : extL (invS t l) ≤ (apS t l).size := by
    rw [hs, eS]
    have := normL_ext o1
    omega
  have hE2 : apE (apS t l) (invS t l) = 0 := by unfold apE; rw [hr, if_pos rfl]; exact if_pos hx
  rw [hL]
  exact ⟨hE, hE2, by rw [apS_ok hE2, hs, hap]⟩
theorem out_len : ∀ {l : List Pc} (x : List UInt8), Nn l → (outL (runL ([], x) l)).length ≤ x.length + putLen l
  | [], x, _ => by show ([] ++ x).length ≤ x.length + 0; simp
  | p :: r, x, h => by
    obtain ⟨k1, k2⟩ := h p List.mem_cons_self
    have ih := out_len (x.drop (p.keep + p.drop).toNat) h.tail
    rw [out_cons, List.length_append, List.length_append, List.length_take, bl_len]
    rw [List.length_drop] at ih
    show _ ≤ x.length + (p.put.size + putLen r)
    omega
theorem apS_size (t : ByteArray) (l : List Pc) : (apS t l).size ≤ t.size + 1048576 := by
  by_cases h : apE t l = 0
  · obtain ⟨h1, h2⟩ := apE_ok h
    obtain ⟨n1, _, _⟩ := right_nn h1
    have hp : putLen l ≤ 1048576 := by
      simp only [pcsRight, Bool.and_eq_true, decide_eq_true_eq] at h1
      have := (pcsOk_nn h1.2).2.2
      omega
    have := out_len (bl t) n1
    rw [apS_ok h, ← bl_len, bl_apply]
    rw [bl_len] at this
    omega
  · have : apS t l = ⟨#[]⟩ := by unfold apS; rw [if_neg h]
    rw [this]
    exact Nat.zero_le _
end Go.Proofs.Ytmncjknfkkedmaa.Lx
namespace Go.Proofs.Ytmncjknfkkedmaa.Lx
open Go.RowKit Go.Proofs.Ytmncjknfkkedmaa.Bw Go.Proofs.Ytmncjknfkkedmaa.Bs

set_option maxRecDepth 100000 in
set_option maxHeartbeats 1600000 in
theorem lawInvert (t : ByteArray) (l : List Pc) (v : Value) (w : World) (ht : t.size ≤ maxLen) (h : RdP w l v) : Calls Try.prog 8 #[.string t, v] w (Ret w fun r _ => r = .bool true) := by
  unfold maxLen at ht
  obtain ⟨A, c, rfl, _⟩ := id h
  rcases Nat.lt_or_ge 600 t.size with hl | hl
  · have t1 : decide ((600 : Int) < (t.size : Int)) = true := decide_eq_true (by omega)
    have hk := works_any w
    go_enter Try.func8, Try.ntmps8
    go_wp2_with fail
    refine hk.mono ?_
    clear hk
    rintro e w1 ⟨_, rfl, rfl, E1⟩
    go_wp2_with fail
    go_ret
    exact ⟨_, rfl, rfl, E1⟩
  · have t1 : decide ((600 : Int) < (t.size : Int)) = false := decide_eq_false (by omega)
    have hc := small_any l _ 300 w h (by decide) (by decide)
    go_enter Try.func8, Try.ntmps8
    go_wp2_with fail
    refine hc.mono ?_
    clear hc
    rintro e w1 ⟨_, rfl, ⟨b, rfl, hb⟩, E1⟩
    cases b with
    | false =>
      have hk := works_any w1
      go_wp2_with fail
      refine hk.mono ?_
      clear hk
      rintro e w2 ⟨_, rfl, rfl, E2⟩
      go_wp2_with fail
      go_ret
      exact ⟨_, rfl, rfl, E1.trans E2⟩
    | true =>
      obtain ⟨b1, b2⟩ := hb rfl
      clear hb
      have hc := invert_any t l _ w1 (h.ext E1) (by omega)
      go_wp2_with fail
      refine hc.mono ?_
      clear hc
      rintro e w2 ⟨v2, rfl, R2, E12⟩
      have E2 := E1.trans E12
      have hc := invertR_any t l _ w2 (h.ext E2) (by omega)
      go_wp2_with fail
      refine hc.mono ?_
      clear hc
      rintro e w3 ⟨v3, rfl, R3, E23⟩
      have E3 := E2.trans E23
      replace R2 := R2.ext E23
      obtain ⟨r, hr⟩ : ∃ r, inE t l = r := ⟨_, rfl⟩
      obtain ⟨il, hil⟩ : ∃ il, inL t l = il := ⟨_, rfl⟩
      rw [hil] at R2 R3
      rw [hr]
      have u2 : (r != r) = false := by simp
      have hs := same_any il il _ _ w3 R2 R3
      rw [pcsEq_iff.2 rfl] at hs
      have HR := Lib.hid hr
      have HL := Lib.hid hil
      clear hr hil
      go_wp2_with fail
      refine hs.mono ?_
      clear hs
      rintro e w4 ⟨_, rfl, rfl, E34⟩
      have E4 := E3.trans E34
      replace R2 := R2.ext E34
      have hc := apply_any t l _ w4 (h.ext E4) (by omega)
      obtain ⟨s, hss⟩ : ∃ s, apS t l = s := ⟨_, rfl⟩
      obtain ⟨q, hq⟩ : ∃ q, apE t l = q := ⟨_, rfl⟩
      have hz := apS_size t l
      rw [hss] at hz
      rw [hss, hq] at hc
      have HS := Lib.hid hss
      have HQ := Lib.hid hq
      clear hss hq R3
      go_wp2_with fail
      refine hc.mono ?_
      clear hc
      rintro e w5 ⟨_, rfl, rfl, E45⟩
      have E5 := E4.trans E45
      replace R2 := R2.ext E45
      by_cases h0 : q = 0
      · have hu := inv_undo (HQ.out.trans h0) (by omega) (by omega)
        rw [HS.out, HL.out, HR.out] at hu
        obtain ⟨u3, u4, u5⟩ := hu
        have u6 : (r != 0) = false := by rw [u3]; rfl
        have u7 : (q == 0) = true := by rw [h0]; rfl
        have hc := apply_any s il _ w5 R2 (by omega)
        rw [u4, u5] at hc
        clear h0 u3 u4 u5
        go_wp2_with fail
        refine hc.mono ?_
        clear hc
        rintro e w6 ⟨_, rfl, rfl, E56⟩
        have E6 := E5.trans E56
        have hk := works_any w6
        have u8 : (t.toList == t.toList) = true := by simp
        go_wp2_with fail
        refine hk.mono ?_
        clear hk
        rintro e w7 ⟨_, rfl, rfl, E67⟩
        go_wp2_with fail
        go_ret
        exact ⟨_, rfl, rfl, E6.trans E67⟩
      · have hrq : r = q := by
          rw [← HR.out, ← HQ.out]
          unfold inE
          rw [if_neg (by rw [HQ.out]; exact h0)]
        rw [hrq] at u2
        have u6 : (r != 0) = true := by rw [hrq]; simpa using h0
        have u7 : (q == r) = true := by rw [hrq]; simp
        have hk := works_any w5
        clear h0 hrq
        go_wp2_with fail
        refine hk.mono ?_
        clear hk
        rintro e w6 ⟨_, rfl, rfl, E56⟩
        go_wp2_with fail
        go_ret
        exact ⟨_, rfl, rfl, E5.trans E56⟩
end Go.Proofs.Ytmncjknfkkedmaa.Lx
