/- Chapter 10: LxRInvert turned to this seat. (Printed by gsyport.py.) -/
import Derived.Test.YtkimbpeapolcbaaSyLxPlainA
import Derived.Test.YtkimbpeapolcbaaSyLxViewP
import Derived.Test.YtkimbpeapolcbaaSyLxPlainT
namespace Go.Proofs.Ytkimbpeapolcbaa.Sy
open Go.RowKit Go.Proofs.Ytkimbpeapolcbaa.Bw Go.Proofs.Ytkimbpeapolcbaa.Bs

/-- What the document puts together. -/
def invOut (t : ByteArray) : Nat → List Pc → List Pc
 | _, [] => []
 | n, p :: r => ⟨p.keep, p.put.size, t.extract (n + p.keep.toNat) (n + p.keep.toNat + p.drop.toNat)⟩ :: invOut t (n + p.keep.toNat + p.drop.toNat) r
theorem invOut_at (t : ByteArray) (n : Nat) {l : List Pc} {i : Nat} {p : Pc} (hp : l[i]? = some p) : invOut t n (l.drop i) = ⟨p.keep, p.put.size, t.extract (n + p.keep.toNat) (n + p.keep.toNat + p.drop.toNat)⟩ :: invOut t (n + p.keep.toNat + p.drop.toNat) (l.drop (i + 1)) := by rw [drop_at hp]; rfl
theorem bl_tail (t : ByteArray) (n : Nat) : bl (t.extract n t.size) = (bl t).drop n := by rw [bl_extract, List.take_of_length_le (by simp [bl_len])]
theorem invGo_out (t : ByteArray) : ∀ {l : List Pc} (m : Mk) (n : Nat), Nn l → n + extL l ≤ t.size → invGo m (t.extract n t.size) l = m.pieces (invOut t n l)
 | [], _, _, _, _ => rfl
 | p :: r, m, n, h, he => by
  obtain ⟨k1, k2⟩ := h p List.mem_cons_self
  have h3 := extL_nn h.tail
  have e0 : extL (p :: r) = p.keep + p.drop + extL r := rfl
  obtain ⟨kn, hkn⟩ : ∃ x : Nat, p.keep = x := ⟨p.keep.toNat, by omega⟩
  obtain ⟨dn, hdn⟩ : ∃ x : Nat, p.drop = x := ⟨p.drop.toNat, by omega⟩
  show invGo (m.piece ⟨p.keep, p.put.size, ((t.extract n t.size).extract p.keep.toNat (t.extract n t.size).size).extract 0 p.drop.toNat⟩) (((t.extract n t.size).extract p.keep.toNat (t.extract n t.size).size).extract p.drop.toNat ((t.extract n t.size).extract p.keep.toNat (t.extract n t.size).size).size) r = (m.piece ⟨p.keep, p.put.size, t.extract (n + p.keep.toNat) (n + p.keep.toNat + p.drop.toNat)⟩).pieces (invOut t (n + p.keep.toNat + p.drop.toNat) r)
  rw [hkn, hdn, Int.toNat_natCast, Int.toNat_natCast]
  have e1 : (t.extract n t.size).extract kn (t.extract n t.size).size = t.extract (n + kn) t.size := bl_inj (by rw [bl_tail, bl_tail, bl_tail, List.drop_drop])
  rw [e1]
  have e2 : (t.extract (n + kn) t.size).extract 0 dn = t.extract (n + kn) (n + kn + dn) := bl_inj (by
   rw [bl_extract, bl_tail, bl_extract, List.drop_zero, show n + kn + dn - (n + kn) = dn - 0 by omega])
  have e3 : (t.extract (n + kn) t.size).extract dn (t.extract (n + kn) t.size).size = t.extract (n + kn + dn) t.size := bl_inj (by rw [bl_tail, bl_tail, bl_tail, List.drop_drop])
  rw [e2, e3, invGo_out t _ _ h.tail (by omega)]
theorem extract_all (t : ByteArray) : t.extract 0 t.size = t := bl_inj (by rw [bl_extract, List.drop_zero, List.take_of_length_le (by simp [bl_len])])
theorem invS_eq (t : ByteArray) {l : List Pc} (h : Nn l) (he : extL l ≤ t.size) : invS t l = normL (invOut t 0 (normL l)) := by
 have h1 := normL_nn h
 have h2 := normL_ext h
 have h3 := invGo_out t ⟨[], 0⟩ 0 h1 (by omega)
 rw [extract_all] at h3
 show (invGo ⟨[], 0⟩ t (normL l)).l = _
 rw [h3]
 rfl
theorem invOut_nn (t : ByteArray) : ∀ {l : List Pc} (n : Nat), Nn l → Nn (invOut t n l) ∧ (invOut t n l).length = l.length ∧ wt (invOut t n l) ≤ wt l
 | [], _, _ => ⟨fun _ h => absurd h List.not_mem_nil, rfl, Int.le_refl _⟩
 | p :: r, n, h => by
  obtain ⟨k1, k2⟩ := h p List.mem_cons_self
  obtain ⟨a, b, c⟩ := invOut_nn t (n + p.keep.toNat + p.drop.toNat) h.tail
  refine ⟨Nn.cons ⟨k1, by show (0 : Int) ≤ (p.put.size : Int); omega⟩ a, ?_, ?_⟩
  ·show (invOut t _ r).length + 1 = r.length + 1
   rw [b]
  ·show p.keep + (p.put.size : Int) + ((t.extract (n + p.keep.toNat) (n + p.keep.toNat + p.drop.toNat)).size : Int) + wt (invOut t _ r) ≤ p.keep + p.drop + p.put.size + wt r
   rw [ByteArray.size_extract]
   omega
end Go.Proofs.Ytkimbpeapolcbaa.Sy
namespace Go.Proofs.Ytkimbpeapolcbaa.Sy
open Go.RowKit Go.Proofs.Ytkimbpeapolcbaa.Bw Go.Proofs.Ytkimbpeapolcbaa.Bs

theorem outL_acc : ∀ (l : List Pc) (a t : List UInt8), outL (runL (a, t) l) = a ++ outL (runL ([], t) l)
 | [], _, _ => rfl
 | p :: r, a, t => by
  show outL (runL (stepL (a, t) p) r) = a ++ outL (runL (stepL ([], t) p) r)
  unfold stepL
  simp only
  rw [outL_acc r, outL_acc r ([] ++ _ ++ _)]
  simp [List.append_assoc]
theorem out_cons (p : Pc) (r : List Pc) (x : List UInt8) : outL (runL ([], x) (p :: r)) = x.take p.keep.toNat ++ bl p.put ++ outL (runL ([], x.drop (p.keep + p.drop).toNat) r) := by
 show outL (runL (stepL ([], x) p) r) = _
 unfold stepL
 simp only
 rw [outL_acc]
 simp
theorem inv_run (t : ByteArray) : ∀ (l : List Pc) (n : Nat) (acc : List UInt8), Nn l → n + extL l ≤ t.size →
  runL (acc, outL (runL ([], (bl t).drop n) l)) (invOut t n l) = (acc ++ ((bl t).drop n).take (extL l).toNat, (bl t).drop (n + (extL l).toNat)) ∧ extL (invOut t n l) ≤ ((outL (runL ([], (bl t).drop n) l)).length : Int)
 | [], n, acc, _, _ => by
  constructor
  ·show (acc, [] ++ (bl t).drop n) = (acc ++ List.take 0 _, (bl t).drop (n + 0))
   simp
  ·show (0 : Int) ≤ _; omega
 | p :: r, n, acc, h, he => by
  obtain ⟨k1, k2⟩ := h p List.mem_cons_self
  have h3 := extL_nn h.tail
  have e0 : extL (p :: r) = p.keep + p.drop + extL r := rfl
  obtain ⟨k, hk⟩ : ∃ x : Nat, p.keep = x := ⟨p.keep.toNat, by omega⟩
  obtain ⟨d, hd⟩ : ∃ x : Nat, p.drop = x := ⟨p.drop.toNat, by omega⟩
  obtain ⟨e, he'⟩ : ∃ x : Nat, extL r = x := ⟨(extL r).toNat, by omega⟩
  have e1 : (extL (p :: r)).toNat = k + d + e := by omega
  have hlen : k ≤ ((bl t).drop n).length := by rw [List.length_drop, bl_len]; omega
  rw [out_cons, hk, hd, Int.toNat_natCast, show ((k : Int) + (d : Int)).toNat = k + d by omega, List.drop_drop]
  obtain ⟨ih1, ih2⟩ := inv_run t r (n + k + d) (acc ++ ((bl t).drop n).take (k + d)) h.tail (by omega)
  obtain ⟨A, hA⟩ : ∃ A, outL (runL ([], (bl t).drop (n + (k + d))) r) = A := ⟨_, rfl⟩
  rw [show n + k + d = n + (k + d) by omega, hA] at ih1 ih2
  rw [hA]
  have hpiece : invOut t n (p :: r) = ⟨p.keep, p.put.size, t.extract (n + k) (n + k + d)⟩ :: invOut t (n + (k + d)) r := by
   show (⟨p.keep, p.put.size, t.extract (n + p.keep.toNat) (n + p.keep.toNat + p.drop.toNat)⟩ : Pc) :: invOut t (n + p.keep.toNat + p.drop.toNat) r = _
   rw [hk, hd, Int.toNat_natCast, Int.toNat_natCast, show n + k + d = n + (k + d) by omega]
  rw [hpiece]
  constructor
  ·show runL (stepL (acc, ((bl t).drop n).take k ++ bl p.put ++ A) ⟨p.keep, p.put.size, t.extract (n + k) (n + k + d)⟩) (invOut t (n + (k + d)) r) = _
   have hstep : stepL (acc, ((bl t).drop n).take k ++ bl p.put ++ A) ⟨p.keep, p.put.size, t.extract (n + k) (n + k + d)⟩ = (acc ++ ((bl t).drop n).take (k + d), A) := by
    unfold stepL
    simp only [hk, Int.toNat_natCast]
    have e2 : ((k : Int) + (p.put.size : Int)).toNat = k + p.put.size := by omega
    have e3 : bl (t.extract (n + k) (n + k + d)) = (((bl t).drop n).drop k).take d := by
     rw [bl_extract, List.drop_drop, show n + k + d - (n + k) = d by omega]
    have e4 : (((bl t).drop n).take k ++ bl p.put).length = k + p.put.size := by rw [List.length_append, bl_len, List.length_take]; omega
    rw [e2, e3, List.drop_left' e4, List.append_assoc (((bl t).drop n).take k), List.take_left' (by rw [List.length_take]; omega), List.take_add, List.append_assoc]
   rw [hstep, ih1, he', Int.toNat_natCast, e1]
   rw [show n + (k + d) + e = n + (k + d + e) by omega, List.append_assoc]
   congr 2
   rw [List.take_add (i := k + d), List.drop_drop]
  ·show p.keep + (p.put.size : Int) + extL (invOut t (n + (k + d)) r) ≤ _
   rw [List.length_append, List.length_append, bl_len, List.length_take]
   omega
theorem inv_undo {t : ByteArray} {l : List Pc} (h : apE t l = 0) (hw : sumP l ≤ 1000) (hl : l.length ≤ 900) : inE t l = 0 ∧ apE (apS t l) (inL t l) = 0 ∧ apS (apS t l) (inL t l) = t := by
 obtain ⟨h1, h2⟩ := apE_ok h
 obtain ⟨n1, _, _⟩ := right_nn h1
 have hwt : wt l ≤ 1000 := by rw [← sumP_eq n1]; exact hw
 have m1 := normL_nn n1
 have m2 := normL_wt n1
 have m3 := normL_len l
 have m4 := normL_ext n1
 obtain ⟨o1, o2, o3⟩ := invOut_nn t 0 m1
 have eS := invS_eq t n1 h2
 have hr : pcsRight (invS t l) = true := by rw [eS]; exact right_normL o1 (by omega) (by omega)
 have hE : inE t l = 0 := by unfold inE; rw [if_pos h, hr]; rfl
 have hL : inL t l = invS t l := by unfold inL; rw [if_pos hE]
 have hs : apS t l = applyB t (normL l) := by rw [apS_ok h, apply_normL t n1]
 obtain ⟨r1, r2⟩ := inv_run t (normL l) 0 [] m1 (by omega)
 rw [List.drop_zero, ← bl_apply] at r1 r2
 rw [bl_len] at r2
 have hap : applyB (applyB t (normL l)) (invS t l) = t := by
  apply bl_inj
  rw [bl_apply, eS, run_normL _ o1, r1]
  unfold outL
  simp
 have hx : extL (invS t l) ≤ (apS t l).size := by
  rw [hs, eS]
  have := normL_ext o1
  omega
 have hE2 : apE (apS t l) (invS t l) = 0 := by unfold apE; rw [hr, if_pos rfl]; exact if_pos hx
 rw [hL]
 exact ⟨hE, hE2, by rw [apS_ok hE2, hs, hap]⟩
theorem out_len : ∀ {l : List Pc} (x : List UInt8), Nn l → (outL (runL ([], x) l)).length ≤ x.length + putLen l
 | [], x, _ => by show ([] ++ x).length ≤ x.length + 0; simp
 | p :: r, x, h => by
  obtain ⟨k1, k2⟩ := h p List.mem_cons_self
  have ih := out_len (x.drop (p.keep + p.drop).toNat) h.tail
  rw [out_cons, List.length_append, List.length_append, List.length_take, bl_len]
  rw [List.length_drop] at ih
  show _ ≤ x.length + (p.put.size + putLen r)
  omega
theorem apS_size (t : ByteArray) (l : List Pc) : (apS t l).size ≤ t.size + 1048576 := by
 by_cases h : apE t l = 0
 ·obtain ⟨h1, h2⟩ := apE_ok h
  obtain ⟨n1, _, _⟩ := right_nn h1
  have hp : putLen l ≤ 1048576 := by
   simp only [pcsRight, Bool.and_eq_true, decide_eq_true_eq] at h1
   have := (pcsOk_nn h1.2).2.2
   omega
  have := out_len (bl t) n1
  rw [apS_ok h, ← bl_len, bl_apply]
  rw [bl_len] at this
  omega
 ·have : apS t l = ⟨#[]⟩ := by unfold apS; rw [if_neg h]
  rw [this]
  exact Nat.zero_le _
end Go.Proofs.Ytkimbpeapolcbaa.Sy
namespace Go.Proofs.Ytkimbpeapolcbaa.Sy
open Go.RowKit Go.Proofs.Ytkimbpeapolcbaa.Bw Go.Proofs.Ytkimbpeapolcbaa.Bs

/-- A view, done to a text. -/
def hdT (d : Bool) : List UInt8 → List UInt8
 | [] => []
 | c :: _ => if d then [] else [c]
def vApp : Vw → List UInt8 → List UInt8
 | [], T => T
 | x :: r, T => bl x.1 ++ hdT x.2 T ++ vApp r T.tail
theorem hd_tail (T : List UInt8) : hdT false T ++ T.tail = T := by cases T <;> rfl
/-- One byte of a text, edited. -/
theorem out_step {l : List Pc} (hn : Nn l) (hr : NR l) (T : List UInt8) (hx : extL l ≤ (T.length : Int)) :
  outL (runL ([], T) l) = bl (hereR l).1 ++ hdT (hereR l).2 T ++ outL (runL ([], T.tail) (nextR l)) := by
 have keepcase : ∀ (x : Pc) (r : List Pc) (T : List UInt8), 0 < x.keep → 0 ≤ x.drop → Nn r → extL (x :: r) ≤ (T.length : Int) → outL (runL ([], T) (x :: r)) = hdT false T ++ outL (runL ([], T.tail) ({ x with keep := x.keep - 1 } :: r)) := by
  intro x r T hk hd hnr hx
  have h3 := extL_nn hnr
  have e0 : extL (x :: r) = x.keep + x.drop + extL r := rfl
  cases T with
  | nil => simp only [List.length_nil] at hx; omega
  | cons c T =>
   rw [out_cons, out_cons]
   obtain ⟨k, hk'⟩ : ∃ k : Nat, x.keep = (k + 1 : Nat) := ⟨x.keep.toNat - 1, by omega⟩
   obtain ⟨d, hd'⟩ : ∃ d : Nat, x.drop = d := ⟨x.drop.toNat, by omega⟩
   have e1 : x.keep.toNat = k + 1 := by omega
   have e2 : (x.keep + x.drop).toNat = k + d + 1 := by omega
   have e3 : (x.keep - 1).toNat = k := by omega
   have e4 : (x.keep - 1 + x.drop).toNat = k + d := by omega
   simp only [e1, e2, e3, e4, hdT, List.tail_cons, List.take_succ_cons, List.drop_succ_cons, List.cons_append, List.nil_append, Bool.false_eq_true, if_false]
 cases l with
 | nil =>
  show [] ++ T = [] ++ hdT false T ++ ([] ++ T.tail)
  simp only [List.nil_append]
  exact (hd_tail T).symm
 | cons x r =>
  obtain ⟨h1, h2⟩ := hn x List.mem_cons_self
  have ha : AK r := hr
  by_cases hk : 0 < x.keep
  ·have e1 : rPut (x :: r) = x :: r := if_pos hk
   have e2 : rSkip (x :: r) = x :: r := if_pos (.inl hk)
   have e3 : hereR (x :: r) = (⟨#[]⟩, false) := by
    unfold hereR
    rw [e1, e2, show rPutS (x :: r) = ⟨#[]⟩ from if_pos hk, show rD (x :: r) = false from if_pos hk]
   have e4 : nextR (x :: r) = { x with keep := x.keep - 1 } :: r := by
    unfold nextR
    rw [e1, e2]
    exact if_pos hk
   rw [e3, e4, keepcase x r T hk h2 hn.tail hx]
   rfl
  ·have k0 : x.keep = 0 := by omega
   have e1 : rPut (x :: r) = { x with put := ⟨#[]⟩ } :: r := if_neg hk
   have e5 : rPutS (x :: r) = x.put := if_neg hk
   by_cases hd : 0 < x.drop
   ·have e2 : rSkip ({ x with put := ⟨#[]⟩ } :: r) = { x with put := ⟨#[]⟩ } :: r := if_pos (.inr hd)
    have e3 : hereR (x :: r) = (x.put, true) := by
     unfold hereR
     rw [e1, e2, e5, show rD ({ x with put := ⟨#[]⟩ } :: r) = true from if_neg hk]
    have e4 : nextR (x :: r) = { x with put := ⟨#[]⟩, drop := x.drop - 1 } :: r := by
     unfold nextR
     rw [e1, e2]
     exact if_neg hk
    rw [e3, e4, out_cons, out_cons]
    have h3 := extL_nn hn.tail
    have e0 : extL (x :: r) = x.keep + x.drop + extL r := rfl
    cases T with
    | nil => simp only [List.length_nil] at hx; omega
    | cons c T =>
     obtain ⟨d, hd'⟩ : ∃ d : Nat, x.drop = (d + 1 : Nat) := ⟨x.drop.toNat - 1, by omega⟩
     have e6 : (x.keep + x.drop).toNat = d + 1 := by omega
     have e7 : (x.keep + (x.drop - 1)).toNat = d := by omega
     have e8 : x.keep.toNat = 0 := by omega
     simp only [e6, e7, e8, hdT, List.tail_cons, List.take_zero, List.drop_succ_cons, List.nil_append, List.append_nil, if_true, bl_nil]
   ·have d0 : x.drop = 0 := by omega
    have e2 : rSkip ({ x with put := ⟨#[]⟩ } :: r) = rSkip r := if_neg (by simp only; omega)
    have eo : outL (runL ([], T) (x :: r)) = bl x.put ++ outL (runL ([], T) r) := by
     rw [out_cons, k0, d0]
     simp
    rw [eo]
    cases r with
    | nil =>
     have e3 : hereR [x] = (x.put, false) := by
      unfold hereR
      rw [e1, e2, e5]; rfl
     have e4 : nextR [x] = [] := by
      unfold nextR
      rw [e1, e2]; rfl
     rw [e3, e4]
     show bl x.put ++ ([] ++ T) = bl x.put ++ hdT false T ++ ([] ++ T.tail)
     simp only [List.nil_append, List.append_assoc]
     rw [hd_tail]
    | cons y t =>
     have hy := ha y List.mem_cons_self
     have e6 : rSkip (y :: t) = y :: t := if_pos (.inl hy)
     have e3 : hereR (x :: y :: t) = (x.put, false) := by
      unfold hereR
      rw [e1, e2, e5, e6, show rD (y :: t) = false from if_pos hy]
     have e4 : nextR (x :: y :: t) = { y with keep := y.keep - 1 } :: t := by
      unfold nextR
      rw [e1, e2, e6]
      exact if_pos hy
     have hxy : extL (x :: y :: t) = x.keep + x.drop + extL (y :: t) := rfl
     rw [e3, e4, keepcase y t T hy (hn y (by simp)).2 hn.tail.tail (by omega), List.append_assoc]
theorem nextR_ext {l : List Pc} (hn : Nn l) : extL (nextR l) ≤ extL l ∧ (0 < extL l → NR l → extL (nextR l) ≤ extL l - 1) := by
 have h1 := ext_put l
 have h2 := ext_skip hn.put
 have h3 := (extL_nn (next_nn hn)).1
 unfold nextR at h3 ⊢
 cases hs : rSkip (rPut l) with
 | nil =>
  rw [hs] at h3 h2
  have := (extL_nn hn).1
  constructor
  ·show (0 : Int) ≤ _; omega
  ·intro h0 _; show (0 : Int) ≤ _; omega
 | cons x r =>
  have h4 := ext_take (n := 1) (l := x :: r) (by simp)
  rw [hs] at h2
  exact ⟨by omega, fun _ _ => by omega⟩
theorem nextR_nr {l : List Pc} (hr : NR l) : NR (nextR l) := hr.put.skip.take
theorem next_nil {l : List Pc} (hn : Nn l) (_hr : NR l) (h0 : extL l ≤ 0) : nextR l = [] := by
 have h1 := ext_put l
 have h2 := ext_skip hn.put
 unfold nextR
 cases hs : rSkip (rPut l) with
 | nil => rfl
 | cons x r =>
  have h3 := rN_skip_pos (l := rPut l) (by rw [hs]; simp)
  have h4 := rN_ext hn.put.skip
  omega
theorem out_view : ∀ (N : Nat) {l : List Pc} (T : List UInt8), Nn l → NR l → extL l ≤ (N : Int) → extL l ≤ (T.length : Int) → outL (runL ([], T) l) = vApp (vwF l N) T
 | 0, l, T, hn, hr, h1, h2 => by
  rw [out_step hn hr T h2, next_nil hn hr h1]
  rfl
 | N + 1, l, T, hn, hr, h1, h2 => by
  rw [out_step hn hr T h2]
  obtain ⟨h3, h4⟩ := nextR_ext hn
  have h5 := (extL_nn (next_nn hn)).1
  show _ = bl (hereR l).1 ++ hdT (hereR l).2 T ++ vApp (vwF (nextR l) N) T.tail
  rcases Int.lt_or_le 0 (extL l) with h0 | h0
  ·have h6 := h4 h0 hr
   rw [out_view N T.tail (next_nn hn) (nextR_nr hr) (by omega) (by rw [List.length_tail]; omega)]
  ·have h6 : extL (nextR l) ≤ 0 := by omega
   rw [out_view N T.tail (next_nn hn) (nextR_nr hr) (by omega) (by omega)]
def both (first : Bool) : Vw → Vw → List UInt8 → List UInt8
 | a :: r, b :: s, T => (if first then bl a.1 ++ bl b.1 else bl b.1 ++ bl a.1) ++ hdT (a.2 || b.2) T ++ both first r s T.tail
 | _, _, T => T
theorem both_comm (first : Bool) : ∀ (A B : Vw) (T : List UInt8), A.length = B.length → both (!first) B A T = both first A B T
 | [], [], _, _ => rfl
 | a :: r, b :: s, T, h => by
  show (if !first then bl b.1 ++ bl a.1 else bl a.1 ++ bl b.1) ++ hdT (b.2 || a.2) T ++ both (!first) s r T.tail = (if first then bl a.1 ++ bl b.1 else bl b.1 ++ bl a.1) ++ hdT (a.2 || b.2) T ++ both first r s T.tail
  rw [both_comm first r s T.tail (by simpa using h), Bool.or_comm]
  cases first <;> rfl
 | [], _ :: _, _, h => by simp at h
 | _ :: _, [], _, h => by simp at h
theorem runL_nil (s : Ap) : runL s [] = s := rfl
theorem both_run (first : Bool) : ∀ (A B : Vw) (T acc : List UInt8), A.length = B.length → A.length ≤ T.length + 1 → (∀ i x, A[i]? = some x → x.2 = true → i < T.length) →
  outL (runL (acc, vApp B T) (bhP first A B)) = acc ++ both first A B T
 | [], [], T, acc, _, _, _ => rfl
 | a :: r, b :: s, T, acc, hl, hT, hf => by
  have hl' : r.length = s.length := by simpa using hl
  have ih := fun acc' => both_run first r s T.tail acc' hl' (by simp only [List.length_cons] at hT; rw [List.length_tail]; omega) (fun i x hi hx => by
   have := hf (i + 1) x (by simpa using hi) hx
   rw [List.length_tail]; omega)
  have hfa : a.2 = true → T ≠ [] := fun h h0 => by
   have := hf 0 a rfl h
   rw [h0] at this
   exact Nat.lt_irrefl 0 this
  have hTn : T = [] → s = [] := fun h0 => by
   rw [h0] at hT
   simp only [List.length_cons, List.length_nil] at hT
   exact List.eq_nil_of_length_eq_zero (by omega)
  show outL (runL (acc, bl b.1 ++ hdT b.2 T ++ vApp s T.tail) (bhStep first a b ++ bhP first r s)) = _
  rw [runL_append]
  have h1 : ∀ (z : List UInt8), stepL (acc, bl b.1 ++ z) ⟨b.1.size, 0, ⟨#[]⟩⟩ = (acc ++ bl b.1, z) := by
   intro z
   unfold stepL
   simp only [Int.add_zero, Int.toNat_natCast, bl_nil, List.append_nil]
   rw [← bl_len, List.take_left, List.drop_left]
  have h2 : ∀ (z u : List UInt8), stepL (z, u) ⟨0, 0, a.1⟩ = (z ++ bl a.1, u) := by
   intro z u
   simp [stepL]
  have hpre : ∀ (tl : List Pc), runL (acc, bl b.1 ++ hdT b.2 T ++ vApp s T.tail) ((if first then [⟨0, 0, a.1⟩, ⟨b.1.size, 0, ⟨#[]⟩⟩] else [⟨b.1.size, 0, ⟨#[]⟩⟩, ⟨0, 0, a.1⟩]) ++ tl) = runL (acc ++ (if first then bl a.1 ++ bl b.1 else bl b.1 ++ bl a.1), hdT b.2 T ++ vApp s T.tail) tl := by
   intro tl
   rw [List.append_assoc]
   cases first
   ·show runL (stepL (stepL (acc, bl b.1 ++ (hdT b.2 T ++ vApp s T.tail)) ⟨b.1.size, 0, ⟨#[]⟩⟩) ⟨0, 0, a.1⟩) tl = _
    rw [h1, h2]
    simp [List.append_assoc]
   ·show runL (stepL (stepL (acc, bl b.1 ++ (hdT b.2 T ++ vApp s T.tail)) ⟨0, 0, a.1⟩) ⟨b.1.size, 0, ⟨#[]⟩⟩) tl = _
    rw [h2]
    have h1' : stepL (acc ++ bl a.1, bl b.1 ++ (hdT b.2 T ++ vApp s T.tail)) ⟨b.1.size, 0, ⟨#[]⟩⟩ = (acc ++ bl a.1 ++ bl b.1, hdT b.2 T ++ vApp s T.tail) := by
     unfold stepL
     simp only [Int.add_zero, Int.toNat_natCast, bl_nil, List.append_nil]
     rw [← bl_len, List.take_left, List.drop_left]
    rw [h1']
    simp [List.append_assoc]
  have hstep : runL (acc, bl b.1 ++ hdT b.2 T ++ vApp s T.tail) (bhStep first a b) = (acc ++ (if first then bl a.1 ++ bl b.1 else bl b.1 ++ bl a.1) ++ hdT (a.2 || b.2) T, vApp s T.tail) := by
   unfold bhStep
   rw [hpre]
   generalize acc ++ (if first then bl a.1 ++ bl b.1 else bl b.1 ++ bl a.1) = ac
   cases hb : b.2 with
   | true =>
    rw [Bool.or_true]
    cases T <;> simp [hdT, runL]
   | false =>
    rw [Bool.or_false]
    cases ha : a.2 with
    | true =>
     cases T with
     | nil => exact absurd rfl (hfa ha)
     | cons c T => simp [hdT, runL, stepL, bl_nil]
    | false =>
     cases T with
     | nil =>
      rw [hTn rfl]
      simp [hdT, runL, stepL, bl_nil, vApp]
     | cons c T => simp [hdT, runL, stepL, bl_nil]
  rw [hstep, ih]
  show _ = acc ++ ((if first then bl a.1 ++ bl b.1 else bl b.1 ++ bl a.1) ++ hdT (a.2 || b.2) T ++ both first r s T.tail)
  simp only [List.append_assoc]
 | [], _ :: _, _, _, h, _, _ => by simp at h
 | _ :: _, [], _, _, h, _, _ => by simp at h
theorem bhP_ext (first : Bool) : ∀ (A B : Vw) (T : List UInt8), A.length = B.length → A.length ≤ T.length + 1 → extL (bhP first A B) ≤ ((vApp B T).length : Int) + 1
 | [], [], T, _, _ => by show (0 : Int) ≤ _; omega
 | a :: r, b :: s, T, hl, hT => by
  have hl' : r.length = s.length := by simpa using hl
  have e0 : extL (bhStep first a b) = (b.1.size : Int) + (if b.2 then 0 else 1) := by
   obtain ⟨a1, a2⟩ := a
   obtain ⟨b1, b2⟩ := b
   cases first <;> cases a2 <;> cases b2 <;> simp [bhStep, extL]
  show extL (bhStep first a b ++ bhP first r s) ≤ ((bl b.1 ++ hdT b.2 T ++ vApp s T.tail).length : Int) + 1
  rw [extL_append, e0, List.length_append, List.length_append, bl_len]
  cases T with
  | nil =>
   simp only [List.length_cons, List.length_nil] at hT
   have hr : r = [] := List.eq_nil_of_length_eq_zero (by omega)
   have hs : s = [] := List.eq_nil_of_length_eq_zero (by rw [← hl', hr]; rfl)
   rw [hr, hs]
   show (b.1.size : Int) + (if b.2 then 0 else 1) + 0 ≤ _
   simp only [hdT, vApp, List.length_nil, List.tail_nil]
   split <;> omega
  | cons c T =>
   have ih := bhP_ext first r s T hl' (by simp only [List.length_cons] at hT; omega)
   simp only [hdT, List.tail_cons]
   cases b.2 <;> simp <;> omega
 | [], _ :: _, _, h, _ => by simp at h
 | _ :: _, [], _, h, _ => by simp at h
theorem bhP_snoc (first : Bool) : ∀ (A B : Vw) (x y : ByteArray × Bool), A.length = B.length → bhP first (A ++ [x]) (B ++ [y]) = bhP first A B ++ bhStep first x y
 | [], [], x, y, _ => by show bhStep first x y ++ [] = [] ++ bhStep first x y; simp
 | a :: r, b :: s, x, y, h => by
  show bhStep first a b ++ bhP first (r ++ [x]) (s ++ [y]) = bhStep first a b ++ bhP first r s ++ bhStep first x y
  rw [bhP_snoc first r s x y (by simpa using h), List.append_assoc]
 | [], _ :: _, _, _, h => by simp at h
 | _ :: _, [], _, _, h => by simp at h
theorem normL_keep1 (l : List Pc) : normL (l ++ [⟨1, 0, ⟨#[]⟩⟩]) = normL l := by
 unfold normL
 rw [pieces_append]
 show ((Mk.pieces ⟨[], 0⟩ l).piece ⟨1, 0, ⟨#[]⟩⟩).l = _
 rw [piece_keep]
 rfl
theorem dropF_false : ∀ {l : List Pc} {n i : Nat}, Nn l → n + extL l ≤ (i : Int) → dropF l n i = false
 | [], _, _, _, _ => rfl
 | p :: r, n, i, h, hi => by
  obtain ⟨h1, h2⟩ := h p List.mem_cons_self
  have h3 := (extL_nn h.tail).1
  have e0 : extL (p :: r) = p.keep + p.drop + extL r := rfl
  have hk : (kN p : Int) = p.keep := by unfold kN; omega
  have hd : (dN p : Int) = p.drop := by unfold dN; omega
  show (decide (n + kN p ≤ i ∧ i < n + kN p + dN p) || dropF r (n + kN p + dN p) i) = false
  rw [dropF_false (l := r) h.tail (by omega), decide_eq_false (by omega)]
  rfl
theorem vwF_flag {l : List Pc} (hn : Nn l) (hr : NR l) {N : Nat} : ∀ (i : Nat) (x : ByteArray × Bool), (vwF l N)[i]? = some x → x.2 = true → (i : Int) < extL l := by
 intro i x hi hx
 have hl : i < (vwF l N).length := (List.getElem?_eq_some_iff.1 hi).1
 rw [vwF_len] at hl
 rw [vwF_get N hn hr (by omega)] at hi
 obtain rfl := Option.some.inj hi
 rcases Int.lt_or_le (i : Int) (extL l) with h | h
 ·exact h
 ·have : dropF l 0 i = false := dropF_false hn (by omega)
  simp only at hx
  rw [this] at hx
  cases hx
theorem vwF_last {l : List Pc} (hn : Nn l) (hr : NR l) {N : Nat} (hx : extL l ≤ (N : Int)) : ∃ A s, vwF l N = A ++ [(s, false)] ∧ A.length = N := by
 have hne : vwF l N ≠ [] := by intro h; have := vwF_len N l; rw [h] at this; simp at this
 obtain ⟨A, x, hA⟩ : ∃ A x, vwF l N = A ++ [x] := ⟨_, _, (List.dropLast_concat_getLast hne).symm⟩
 have hlen : A.length = N := by have := vwF_len N l; rw [hA] at this; simpa using this
 have hget : (vwF l N)[N]? = some x := by rw [hA, ← hlen]; simp
 obtain ⟨s, d⟩ := x
 cases d with
 | false => exact ⟨A, s, hA, hlen⟩
 | true =>
  have := vwF_flag hn hr N _ hget rfl
  omega
end Go.Proofs.Ytkimbpeapolcbaa.Sy
