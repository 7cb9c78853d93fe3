/- Chapter 10: LxPlainI turned to this seat. (Printed by gsyport.py.) -/
import Derived.Test.YtkimbpeapolcbaaSyLxCPlain2
namespace Go.Proofs.Ytkimbpeapolcbaa.Sy
open Go.RowKit Go.Proofs.Ytkimbpeapolcbaa.Bw Go.Proofs.Ytkimbpeapolcbaa.Bs

theorem outL_acc : ∀ (l : List Pc) (a t : List UInt8), outL (runL (a, t) l) = a ++ outL (runL ([], t) l)
  | [], _, _ => rfl
  | p :: r, a, t => by
    show outL (runL (stepL (a, t) p) r) = a ++ outL (runL (stepL ([], t) p) r)
    unfold stepL
    simp only
    rw [outL_acc r, outL_acc r ([] ++ _ ++ _)]
    simp [List.append_assoc]
theorem out_cons (p : Pc) (r : List Pc) (x : List UInt8) : outL (runL ([], x) (p :: r)) = x.take p.keep.toNat ++ bl p.put ++ outL (runL ([], x.drop (p.keep + p.drop).toNat) r) := by
  show outL (runL (stepL ([], x) p) r) = _
  unfold stepL
  simp only
  rw [outL_acc]
  simp
theorem inv_run (t : ByteArray) : ∀ (l : List Pc) (n : Nat) (acc : List UInt8), Nn l → n + extL l ≤ t.size →
    runL (acc, outL (runL ([], (bl t).drop n) l)) (invOut t n l) = (acc ++ ((bl t).drop n).take (extL l).toNat, (bl t).drop (n + (extL l).toNat)) ∧ extL (invOut t n l) ≤ ((outL (runL ([], (bl t).drop n) l)).length : Int)
  | [], n, acc, _, _ => by
    constructor
    · show (acc, [] ++ (bl t).drop n) = (acc ++ List.take 0 _, (bl t).drop (n + 0))
      simp
    · show (0 : Int) ≤ _; omega
  | p :: r, n, acc, h, he => by
    obtain ⟨k1, k2⟩ := h p List.mem_cons_self
    have h3 := extL_nn h.tail
    have e0 : extL (p :: r) = p.keep + p.drop + extL r := rfl
    obtain ⟨k, hk⟩ : ∃ x : Nat, p.keep = x := ⟨p.keep.toNat, by omega⟩
    obtain ⟨d, hd⟩ : ∃ x : Nat, p.drop = x := ⟨p.drop.toNat, by omega⟩
    obtain ⟨e, he'⟩ : ∃ x : Nat, extL r = x := ⟨(extL r).toNat, by omega⟩
    have e1 : (extL (p :: r)).toNat = k + d + e := by omega
    have hlen : k ≤ ((bl t).drop n).length := by rw [List.length_drop, bl_len]; omega
    rw [out_cons, hk, hd, Int.toNat_natCast, show ((k : Int) + (d : Int)).toNat = k + d by omega, List.drop_drop]
    obtain ⟨ih1, ih2⟩ := inv_run t r (n + k + d) (acc ++ ((bl t).drop n).take (k + d)) h.tail (by omega)
    obtain ⟨A, hA⟩ : ∃ A, outL (runL ([], (bl t).drop (n + (k + d))) r) = A := ⟨_, rfl⟩
    rw [show n + k + d = n + (k + d) by omega, hA] at ih1 ih2
    rw [hA]
    have hpiece : invOut t n (p :: r) = ⟨p.keep, p.put.size, t.extract (n + k) (n + k + d)⟩ :: invOut t (n + (k + d)) r := by
      show (⟨p.keep, p.put.size, t.extract (n + p.keep.toNat) (n + p.keep.toNat + p.drop.toNat)⟩ : Pc) :: invOut t (n + p.keep.toNat + p.drop.toNat) r = _
      rw [hk, hd, Int.toNat_natCast, Int.toNat_natCast, show n + k + d = n + (k + d) by omega]
    rw [hpiece]
    constructor
    · show runL (stepL (acc, ((bl t).drop n).take k ++ bl p.put ++ A) ⟨p.keep, p.put.size, t.extract (n + k) (n + k + d)⟩) (invOut t (n + (k + d)) r) = _
      have hstep : stepL (acc, ((bl t).drop n).take k ++ bl p.put ++ A) ⟨p.keep, p.put.size, t.extract (n + k) (n + k + d)⟩ = (acc ++ ((bl t).drop n).take (k + d), A) := by
        unfold stepL
        simp only [hk, Int.toNat_natCast]
        have e2 : ((k : Int) + (p.put.size : Int)).toNat = k + p.put.size := by omega
        have e3 : bl (t.extract (n + k) (n + k + d)) = (((bl t).drop n).drop k).take d := by
          rw [bl_extract, List.drop_drop, show n + k + d - (n + k) = d by omega]
        have e4 : (((bl t).drop n).take k ++ bl p.put).length = k + p.put.size := by rw [List.length_append, bl_len, List.length_take]; omega
        rw [e2, e3, List.drop_left' e4, List.append_assoc (((bl t).drop n).take k), List.take_left' (by rw [List.length_take]; omega), List.take_add, List.append_assoc]
      rw [hstep, ih1, he', Int.toNat_natCast, e1]
      rw [show n + (k + d) + e = n + (k + d + e) by omega, List.append_assoc]
      congr 2
      rw [List.take_add (i := k + d), List.drop_drop]
    · show p.keep + (p.put.size : Int) + extL (invOut t (n + (k + d)) r) ≤ _
      rw [List.length_append, List.length_append, bl_len, List.length_take]
      omega
theorem inv_undo {t : ByteArray} {l : List Pc} (h : apE t l = 0) (hw : sumP l ≤ 1000) (hl : l.length ≤ 900) : inE t l = 0 ∧ apE (apS t l) (inL t l) = 0 ∧ apS (apS t l) (inL t l) = t := by
  obtain ⟨h1, h2⟩ := apE_ok h
  obtain ⟨n1, _, _⟩ := right_nn h1
  have hwt : wt l ≤ 1000 := by rw [← sumP_eq n1]; exact hw
  have m1 := normL_nn n1
  have m2 := normL_wt n1
  have m3 := normL_len l
  have m4 := normL_ext n1
  obtain ⟨o1, o2, o3⟩ := invOut_nn t 0 m1
  have eS := invS_eq t n1 h2
  have hr : pcsRight (invS t l) = true := by rw [eS]; exact right_normL o1 (by omega) (by omega)
  have hE : inE t l = 0 := by unfold inE; rw [if_pos h, hr]; rfl
  have hL : inL t l = invS t l := by unfold inL; rw [if_pos hE]
  have hs : apS t l = applyB t (normL l) := by rw [apS_ok h, apply_normL t n1]
  obtain ⟨r1, r2⟩ := inv_run t (normL l) 0 [] m1 (by omega)
  rw [List.drop_zero, ← bl_apply] at r1 r2
  rw [bl_len] at r2
  have hap : applyB (applyB t (normL l)) (invS t l) = t := by
    apply bl_inj
    rw [bl_apply, eS, run_normL _ o1, r1]
    unfold outL
    simp
  have hx : extL (invS t l) ≤ (apS t l).size := by
    rw [hs, eS]
    have := normL_ext o1
    omega
  have hE2 : apE (apS t l) (invS t l) = 0 := by unfold apE; rw [hr, if_pos rfl]; exact if_pos hx
  rw [hL]
  exact ⟨hE, hE2, by rw [apS_ok hE2, hs, hap]⟩
theorem out_len : ∀ {l : List Pc} (x : List UInt8), Nn l → (outL (runL ([], x) l)).length ≤ x.length + putLen l
  | [], x, _ => by show ([] ++ x).length ≤ x.length + 0; simp
  | p :: r, x, h => by
    obtain ⟨k1, k2⟩ := h p List.mem_cons_self
    have ih := out_len (x.drop (p.keep + p.drop).toNat) h.tail
    rw [out_cons, List.length_append, List.length_append, List.length_take, bl_len]
    rw [List.length_drop] at ih
    show _ ≤ x.length + (p.put.size + putLen r)
    omega
theorem apS_size (t : ByteArray) (l : List Pc) : (apS t l).size ≤ t.size + 1048576 := by
  by_cases h : apE t l = 0
  · obtain ⟨h1, h2⟩ := apE_ok h
    obtain ⟨n1, _, _⟩ := right_nn h1
    have hp : putLen l ≤ 1048576 := by
      simp only [pcsRight, Bool.and_eq_true, decide_eq_true_eq] at h1
      have := (pcsOk_nn h1.2).2.2
      omega
    have := out_len (bl t) n1
    rw [apS_ok h, ← bl_len, bl_apply]
    rw [bl_len] at this
    omega
  · have : apS t l = ⟨#[]⟩ := by unfold apS; rw [if_neg h]
    rw [this]
    exact Nat.zero_le _
end Go.Proofs.Ytkimbpeapolcbaa.Sy
