/- Chapter 05: the square. -/
import Derived.Test.YtmncjknfkkedmaaLxPlainS
namespace Go.Proofs.Ytmncjknfkkedmaa.Lx
open Go.RowKit Go.Proofs.Ytmncjknfkkedmaa.Bw Go.Proofs.Ytmncjknfkkedmaa.Bs

def vSum : Vw → Nat
  | [] => 0
  | x :: r => x.1.size + vSum r
theorem putLen_put : ∀ l : List Pc, putLen (rPut l) + (rPutS l).size = putLen l
  | [] => rfl
  | p :: r => by
    simp only [rPut, rPutS]
    split
    · show p.put.size + putLen r + 0 = _; rfl
    · show 0 + putLen r + p.put.size = p.put.size + putLen r; omega
theorem putLen_skip : ∀ l : List Pc, putLen (rSkip l) ≤ putLen l
  | [] => Nat.le_refl _
  | p :: r => by
    simp only [rSkip]
    split
    · exact Nat.le_refl _
    · have := putLen_skip r
      show _ ≤ p.put.size + putLen r
      omega
theorem putLen_take (n : Int) : ∀ l : List Pc, putLen (rTake n l) = putLen l
  | [] => rfl
  | p :: r => by
    simp only [rTake]
    split <;> rfl
theorem vSum_le : ∀ (N : Nat) (l : List Pc), vSum (vwF l N) ≤ putLen l
  | 0, l => by
    have := putLen_put l
    show (rPutS l).size + 0 ≤ _
    omega
  | N + 1, l => by
    have h1 := putLen_put l
    have h2 := putLen_skip (rPut l)
    have h3 := vSum_le N (nextR l)
    have h4 : putLen (nextR l) = putLen (rSkip (rPut l)) := putLen_take 1 _
    show (rPutS l).size + vSum (vwF (nextR l) N) ≤ _
    omega
theorem bhP_sizes (first : Bool) : ∀ (A B : Vw), A.length = B.length → Nn (bhP first A B) ∧ putLen (bhP first A B) ≤ vSum A ∧ extL (bhP first A B) ≤ ((vSum B + A.length : Nat) : Int) ∧ (bhP first A B).length ≤ 3 * A.length
  | [], [], _ => ⟨fun _ h => absurd h List.not_mem_nil, Nat.le_refl _, Int.le_refl _, Nat.le_refl _⟩
  | a :: r, b :: s, h => by
    obtain ⟨h0, h1, h2, h3⟩ := bhP_sizes first r s (by simpa using h)
    have n1 := (bhStep_nn first a b).1
    have k1 : putLen (bhStep first a b) = a.1.size := by
      obtain ⟨a1, a2⟩ := a
      obtain ⟨b1, b2⟩ := b
      have e : (⟨#[]⟩ : ByteArray).size = 0 := rfl
      cases first <;> cases a2 <;> cases b2 <;> simp [bhStep, putLen, e]
    have k2 : extL (bhStep first a b) ≤ ((b.1.size + 1 : Nat) : Int) := by
      obtain ⟨a1, a2⟩ := a
      obtain ⟨b1, b2⟩ := b
      cases first <;> cases a2 <;> cases b2 <;> simp [bhStep, extL] <;> omega
    have k3 : (bhStep first a b).length ≤ 3 := by
      obtain ⟨a1, a2⟩ := a
      obtain ⟨b1, b2⟩ := b
      cases first <;> cases a2 <;> cases b2 <;> simp [bhStep]
    refine ⟨n1.append h0, ?_, ?_, ?_⟩
    · show putLen (bhStep first a b ++ bhP first r s) ≤ a.1.size + vSum r
      rw [putLen_append]; omega
    · show extL (bhStep first a b ++ bhP first r s) ≤ ((b.1.size + vSum s + (r.length + 1) : Nat) : Int)
      rw [extL_append]; omega
    · show (bhStep first a b ++ bhP first r s).length ≤ 3 * (r.length + 1)
      rw [List.length_append]; omega
  | [], _ :: _, h => by simp at h
  | _ :: _, [], h => by simp at h
/-- What becomes of p behind q fits q's text, and makes the text that both make. -/
theorem behind_ok (first : Bool) {p q : List Pc} {N : Nat} {t : ByteArray} (hp : Nn p) (hq : Nn q) (rp : NR p) (rq : NR q) (p1 : extL p ≤ (N : Int)) (q1 : extL q ≤ (N : Int)) (hN : N ≤ t.size) (hN2 : N ≤ 600) (sp : putLen p ≤ 100000) (sq : putLen q ≤ 100000) :
    pcsRight (normL (bhP first (vwF p N) (vwF q N))) = true ∧ extL (normL (bhP first (vwF p N) (vwF q N))) ≤ ((applyB t q).size : Int) ∧ bl (applyB (applyB t q) (normL (bhP first (vwF p N) (vwF q N)))) = both first (vwF p N) (vwF q N) (bl t) := by
  have hl : (vwF p N).length = (vwF q N).length := by rw [vwF_len, vwF_len]
  have hlen := vwF_len N p
  obtain ⟨b0, b1, b2, b3⟩ := bhP_sizes first (vwF p N) (vwF q N) hl
  have v1 := vSum_le N p
  have v2 := vSum_le N q
  have n1 := normL_nn b0
  have n2 := normL_ext b0
  have n3 := normL_wt b0
  have n4 := normL_len (bhP first (vwF p N) (vwF q N))
  have n5 := putLen_le n1
  have n6 := wt_eq (bhP first (vwF p N) (vwF q N))
  have hR : pcsRight (normL (bhP first (vwF p N) (vwF q N))) = true := right_of n1 (by omega) (by omega) (by omega)
  have hT : bl (applyB t q) = vApp (vwF q N) (bl t) := by rw [bl_apply, out_view N (bl t) hq rq q1 (by rw [bl_len]; omega)]
  have hx : extL (normL (bhP first (vwF p N) (vwF q N))) ≤ ((applyB t q).size : Int) := by
    obtain ⟨A, s, hA, lA⟩ := vwF_last hp rp p1
    obtain ⟨B, u, hB, lB⟩ := vwF_last hq rq q1
    have e1 : bhP first (vwF p N) (vwF q N) = (bhP first A B ++ (if first then [⟨0, 0, s⟩, ⟨u.size, 0, ⟨#[]⟩⟩] else [⟨u.size, 0, ⟨#[]⟩⟩, ⟨0, 0, s⟩])) ++ [⟨1, 0, ⟨#[]⟩⟩] := by
      rw [hA, hB, bhP_snoc first A B _ _ (by rw [lA, lB]), List.append_assoc]
      rfl
    have e2 := bhP_ext first (vwF p N) (vwF q N) (bl t) hl (by rw [hlen, bl_len]; omega)
    rw [← hT, bl_len] at e2
    rw [e1] at e2 b0 ⊢
    rw [normL_keep1]
    rw [extL_append] at e2
    have e3 : extL [(⟨1, 0, ⟨#[]⟩⟩ : Pc)] = 1 := rfl
    have e4 := normL_ext (l := bhP first A B ++ (if first then [⟨0, 0, s⟩, ⟨u.size, 0, ⟨#[]⟩⟩] else [⟨u.size, 0, ⟨#[]⟩⟩, ⟨0, 0, s⟩])) (fun x hx => b0 x (List.mem_append_left _ hx))
    omega
  refine ⟨hR, hx, ?_⟩
  rw [bl_apply, hT, run_normL _ b0, both_run first (vwF p N) (vwF q N) (bl t) [] hl (by rw [hlen, bl_len]; omega) (fun i x hi hf => by
    have := vwF_flag hp rp i x hi hf
    rw [bl_len]; omega)]
  rfl
theorem trE_zero {prior : Bool} {a b : List Pc} (ra : pcsRight a = true) (rb : pcsRight b = true) (h1 : pcsRight (trS prior a b).x.l = true) (h2 : pcsRight (trS prior a b).y.l = true) : trE prior a b = 0 := by
  unfold trE
  rw [ra, rb, h1, h2]
  rfl
/-- The square. -/
theorem square {prior : Bool} {a b : List Pc} {t : ByteArray} (ha : apE t a = 0) (hb : apE t b = 0) (ht : t.size ≤ 600) (sa : sumP a ≤ 1000) (sb : sumP b ≤ 1000) :
    (trE prior a b = 0 ∧ trE (!prior) b a = 0) ∧ (trX (!prior) b a = trY prior a b ∧ trY (!prior) b a = trX prior a b) ∧ apE (apS t a) (trY prior a b) = 0 ∧ apE (apS t b) (trX prior a b) = 0 ∧ apS (apS t a) (trY prior a b) = apS (apS t b) (trX prior a b) := by
  obtain ⟨ra, xa⟩ := apE_ok ha
  obtain ⟨rb, xb⟩ := apE_ok hb
  obtain ⟨na, _, _⟩ := right_nn ra
  obtain ⟨nb, _, _⟩ := right_nn rb
  have wa : wt a ≤ 1000 := by rw [← sumP_eq na]; exact sa
  have wb : wt b ≤ 1000 := by rw [← sumP_eq nb]; exact sb
  have ma := normL_nn na
  have mb := normL_nn nb
  have ea := normL_ext na
  have eb := normL_ext nb
  have ga := normL_wt na
  have gb := normL_wt nb
  have pa := putLen_le ma
  have pb := putLen_le mb
  have ya := extL_nn ma
  have yb := extL_nn mb
  have N1 : extL (normL a) ≤ (t.size : Int) := by omega
  have N2 : extL (normL b) ≤ (t.size : Int) := by omega
  have hAB := trS_eq prior na nb t.size N1 N2
  have hBA := trS_eq (!prior) nb na t.size N2 N1
  rw [Bool.not_not] at hBA
  obtain ⟨x1, x2, x3⟩ := behind_ok prior (t := t) ma mb (NR.normL a) (NR.normL b) N1 N2 (Nat.le_refl _) ht (by omega) (by omega)
  obtain ⟨y1, y2, y3⟩ := behind_ok (!prior) (t := t) mb ma (NR.normL b) (NR.normL a) N2 N1 (Nat.le_refl _) ht (by omega) (by omega)
  rw [← hAB.1] at x1 x2 x3
  rw [← hAB.2] at y1 y2 y3
  have hE : trE prior a b = 0 := trE_zero ra rb x1 y1
  have hE2 : trE (!prior) b a = 0 := trE_zero rb ra (by rw [hBA.1, ← hAB.2]; exact y1) (by rw [hBA.2, ← hAB.1]; exact x1)
  have tX : trX prior a b = (trS prior a b).x.l := if_pos hE
  have tY : trY prior a b = (trS prior a b).y.l := if_pos hE
  have tX2 : trX (!prior) b a = (trS prior a b).y.l := by
    have : trX (!prior) b a = (trS (!prior) b a).x.l := if_pos hE2
    rw [this, hBA.1, ← hAB.2]
  have tY2 : trY (!prior) b a = (trS prior a b).x.l := by
    have : trY (!prior) b a = (trS (!prior) b a).y.l := if_pos hE2
    rw [this, hBA.2, ← hAB.1]
  have sA : apS t a = applyB t (normL a) := by rw [apS_ok ha, apply_normL t na]
  have sB : apS t b = applyB t (normL b) := by rw [apS_ok hb, apply_normL t nb]
  have kY : apE (apS t a) (trS prior a b).y.l = 0 := by
    unfold apE
    rw [y1, if_pos rfl, sA]
    exact if_pos y2
  have kX : apE (apS t b) (trS prior a b).x.l = 0 := by
    unfold apE
    rw [x1, if_pos rfl, sB]
    exact if_pos x2
  refine ⟨⟨hE, hE2⟩, ⟨by rw [tX2, tY], by rw [tY2, tX]⟩, by rw [tY]; exact kY, by rw [tX]; exact kX, ?_⟩
  rw [tX, tY, apS_ok kY, apS_ok kX, sA, sB]
  apply bl_inj
  rw [x3, y3]
  exact both_comm prior _ _ _ (by rw [vwF_len, vwF_len])
end Go.Proofs.Ytmncjknfkkedmaa.Lx
