/- Chapter 10: LxCPlain4 turned to this seat. (Printed by gsyport.py.) -/
import Derived.Test.YtkimbpeapolcbaaSyLxComp
import Derived.Test.YtkimbpeapolcbaaSyLxCPlain3
namespace Go.Proofs.Ytkimbpeapolcbaa.Sy
open Go.RowKit Go.Proofs.Ytkimbpeapolcbaa.Bw Go.Proofs.Ytkimbpeapolcbaa.Bs

theorem fetch_is {s : CS} (np : Nn s.p) (rp : NR s.p) (N : Nat) : ∃ p' FR, s.fetch = ⟨p', s.q, s.x, FR⟩ ∧ Nn p' ∧ NR p' ∧ extL p' = extL s.p ∧ s.sem N = cU N p' (newR (bl FR) s.q s.x).1 (newR (bl FR) s.q s.x).2 ∧ (FR.size = 0 → rPut p' = p' ∧ (rPutS p').size = 0) := by
  by_cases h : 0 < s.f.size
  · exact ⟨s.p, s.f, if_pos h, np, rp, rfl, rfl, fun h0 => absurd h (by omega)⟩
  · refine ⟨rPut s.p, rPutS s.p, if_neg h, np.put, rp.put, ext_put s.p, ?_, fun _ => ⟨(put_here s.p).1, ?_⟩⟩
    · rw [cU_putP]
      unfold CS.sem
      rw [bl_empty (by omega)]
      rfl
    · have := congrArg Prod.fst (put_here s.p).2.1
      have e : rPutS (rPut s.p) = ⟨#[]⟩ := this
      rw [e]; rfl
theorem take_min {Q : List Pc} {n : Int} (h : Q ≠ [] → n ≤ rN Q) : rTake (min n (rN Q)) Q = rTake n Q := by
  by_cases hq : Q = []
  · subst hq; rfl
  · have := h hq
    rw [show min n (rN Q) = n by omega]
theorem ext_take_le {Q : List Pc} {n : Int} (h0 : 0 ≤ n) : extL (rTake n Q) ≤ extL Q := by
  by_cases hq : Q = []
  · subst hq; exact Int.le_refl _
  · rw [ext_take hq]; omega
theorem cRun_sem : ∀ (k N : Nat) (s : CS), s.psi < k → Nn s.p → Nn s.q → NnM s.x → NR s.p → NR s.q → extL s.p + extL s.q ≤ (N : Int) → (cRun k s).l = (s.sem N).l
  | 0, _, _, h, _, _, _, _, _, _ => absurd h (by omega)
  | k + 1, N, s, hk, np, nq, nx, rp, rq, he => by
    have ok : s.Ok (wtM s.x + wt s.p + wt s.q + s.f.size) (s.x.l.length + s.psi) := ⟨np, nq, nx, Int.le_refl _, Nat.le_refl _⟩
    have x1 := (extL_nn np).1
    have x2 := (extL_nn nq).1
    have go : ∀ (t : CS) (M : Nat), s.step = some t → t.sem M = s.sem N → NR t.p → NR t.q → extL t.p + extL t.q ≤ (M : Int) → (cRun (k + 1) s).l = (s.sem N).l := by
      intro t M hs hm h1 h2 h3
      obtain ⟨ok', hlt⟩ := CS.step_ok ok hs
      have e : cRun (k + 1) s = cRun k t := by
        show (match s.step with | none => s.x | some t => cRun k t) = _
        rw [hs]
      rw [e, cRun_sem k M t (by omega) ok'.np ok'.nq ok'.nx h1 h2 h3, hm]
    by_cases hA : 0 < (rPutS s.q).size
    · refine go { s with q := rPut s.q, x := s.x.put (rPutS s.q) } N ?_ ?_ rp rq.put ?_
      · unfold CS.step; rw [if_pos hA]
      · unfold CS.sem
        cases hb : bl s.f with
        | nil => exact cU_putQ N nx np (show extL s.p ≤ (N : Int) by omega)
        | cons c t => rw [newR_putQ]
      · show extL s.p + extL (rPut s.q) ≤ _
        rw [ext_put]; exact he
    · have hQ0 : (rPutS s.q).size = 0 := by omega
      have hsame := same_skip rq hQ0
      obtain ⟨p', FR, hf, np', rp', xp', hsem, hp0⟩ := fetch_is (s := s) np rp N
      have nQ := nq.put.skip
      have rQ := rq.put.skip
      have pQ := PE.of rq
      have sQ := skip_skip (rPut s.q)
      have xQ : extL (rSkip (rPut s.q)) ≤ extL s.q := by
        have := ext_skip nq.put
        rw [ext_put] at this
        exact this
      obtain ⟨Q, hQ⟩ : ∃ Q, rSkip (rPut s.q) = Q := ⟨_, rfl⟩
      have zQ : Q ≠ [] → 0 < rN Q := by rw [← hQ]; exact rN_skip_pos
      rw [hQ] at hsame nQ rQ pQ sQ xQ
      have yQ := (extL_nn nQ).1
      by_cases hfr : 0 < FR.size
      · -- fresh bytes go
        have hn : ∃ n : Nat, frN Q FR = (n : Int) ∧ n ≤ FR.size ∧ (Q ≠ [] → (n : Int) ≤ rN Q) := by
          unfold frN
          by_cases hq : Q = []
          · refine ⟨FR.size, ?_, Nat.le_refl _, fun h => absurd hq h⟩
            rw [hq]; rfl
          · have := zQ hq
            have hl : 0 < Q.length := by cases Q; exact absurd rfl hq; simp
            rw [if_pos hl]
            exact ⟨(min (rN Q) FR.size).toNat, by omega, by omega, fun _ => by omega⟩
        obtain ⟨n, hn1, hn2, hn3⟩ := hn
        refine go _ N (step_fresh (by omega) hf hfr hQ hn1) ?_ rp' ?_ ?_
        · rw [hsem]
          unfold CS.sem
          dsimp only
          obtain ⟨s1, s2⟩ := newR_same hsame (bl FR) s.x
          rw [s1, cU_same N p' _ s2, take_min hn3]
          have hb : bl FR = bl (FR.extract 0 n) ++ bl (FR.extract n FR.size) := by
            rw [bl_extract, bl_extract]
            simp only [Nat.sub_zero, List.drop_zero]
            rw [List.take_of_length_le (l := (bl FR).drop n) (by rw [List.length_drop, bl_len]; omega), List.take_append_drop]
          have hl : (bl (FR.extract 0 n)).length = n := by rw [bl_len, ByteArray.size_extract]; omega
          have hrun := newR_run sQ pQ (bl (FR.extract 0 n)) 0 nx (fun h => by have := hn3 h; rw [hl]; omega)
          rw [hl, Nat.zero_add] at hrun
          have et : rTake ((0 : Nat) : Int) Q = Q := take_zero Q
          rw [et] at hrun
          have ea : (⟨(bl (FR.extract 0 n)).toArray⟩ : ByteArray) = FR.extract 0 n := bl_inj rfl
          rw [ea] at hrun
          rw [hb, newR_append, hrun]
        · exact rQ.take
        · show extL p' + extL (rTake _ Q) ≤ _
          have := ext_take_le (Q := Q) (n := min (n : Int) (rN Q)) (by have := rN_le_wt nQ; omega)
          omega
      · -- nothing is fresh
        obtain ⟨hp1, hp2⟩ := hp0 (by omega)
        have hfb : bl FR = [] := bl_empty (by omega)
        rw [hfb] at hsem
        have hsem : s.sem N = cU N p' s.q s.x := hsem
        rw [cU_same N p' s.x hsame] at hsem
        have hsp := same_skip rp' hp2
        rw [hp1] at hsp
        rw [cU_sameP Q s.x hsp] at hsem
        have nP := np'.skip
        have rP := rp'.skip
        have pP := PE.of rp'
        rw [hp1] at pP
        have sP := skip_skip p'
        have xP := ext_skip np'
        obtain ⟨P, hP⟩ : ∃ P, rSkip p' = P := ⟨_, rfl⟩
        have zP : P ≠ [] → 0 < rN P := by rw [← hP]; exact rN_skip_pos
        rw [hP] at hsem nP rP pP sP xP
        have yP := (extL_nn nP).1
        have lP := rN_ext nP
        have lQ := rN_ext nQ
        have semE : ∀ (M : Nat) (a b : List Pc) (y : Mk), CS.sem M ⟨a, b, y, FR⟩ = cU M a b y := by
          intro M a b y
          show cU M a (newR (bl FR) b y).1 (newR (bl FR) b y).2 = _
          rw [hfb]; rfl
        cases hd : rD P with
        | true =>
          have hne : P ≠ [] := fun h => by rw [h] at hd; exact absurd hd (by decide)
          have hpos := zP hne
          obtain ⟨n, hn⟩ : ∃ n : Nat, rN P = n := ⟨(rN P).toNat, by omega⟩
          refine go _ (N - n) (step_drop (by omega) hf hfr hQ hP hd) ?_ rP.take rQ ?_
          · rw [semE, hsem, hn]
            have := cU_dropN sP pP hd Q nx n 0 N (by omega) (by omega)
            rw [Nat.zero_add] at this
            rw [← this]
            show cU N (rTake 0 P) Q (s.x.drop 0) = _
            rw [take_zero, drop_zero_]
          · show extL (rTake (rN P) P) + extL Q ≤ _
            rw [ext_take hne]
            omega
        | false =>
          cases hb : bSome P Q with
          | false =>
            obtain ⟨rfl, rfl⟩ := more_false hb
            have e : cRun (k + 1) s = s.x := by
              show (match s.step with | none => s.x | some t => cRun k t) = _
              rw [step_done (by omega) hf hfr hQ hP hd hb]
            rw [e, hsem, cU_nil]
          | true =>
            obtain ⟨b0, b1, b2, b3⟩ := bN_facts nP nQ
            obtain ⟨n, hn⟩ : ∃ n : Nat, bN P Q = n := ⟨(bN P Q).toNat, by omega⟩
            rw [hn] at b1 b2 b3
            have hb3 := b3 hb
            have hnN : n ≤ N := by
              rcases hb3 with ⟨h1, h2⟩ | ⟨h1, h2⟩ <;> omega
            refine go _ (N - n) (step_go (by omega) hf hfr hQ hP hd hb hn) ?_ rP.take rQ.take ?_
            · rw [semE, hsem, take_min b1, take_min b2]
              have := cU_goN sP pP hd sQ pQ nx n 0 N (by omega) (fun h => by have := b1 h; omega) (fun h => by have := b2 h; omega)
              rw [Nat.zero_add] at this
              rw [← this]
              have eg : goC (rD Q) ((0 : Nat) : Int) s.x = s.x := by
                unfold goC
                split
                · exact drop_zero_ _
                · exact more_zero _
              rw [eg]
              show cU N (rTake 0 P) (rTake 0 Q) s.x = _
              rw [take_zero, take_zero]
            · show extL (rTake (min (n : Int) (rN P)) P) + extL (rTake (min (n : Int) (rN Q)) Q) ≤ _
              rw [take_min b1, take_min b2]
              have t1 := ext_take_le (Q := P) (n := (n : Int)) (by omega)
              have t2 := ext_take_le (Q := Q) (n := (n : Int)) (by omega)
              rcases hb3 with ⟨h1, h2⟩ | ⟨h1, h2⟩
              · have := ext_take (n := (n : Int)) h1; omega
              · have := ext_take (n := (n : Int)) h1; omega
theorem coX_eq {a b : List Pc} (ha : Nn a) (hb : Nn b) (N : Nat) (h : extL (normL a) + extL (normL b) ≤ (N : Int)) : (coX a b).l = (cU N (normL a) (normL b) ⟨[], 0⟩).l :=
  cRun_sem _ N ⟨normL a, normL b, ⟨[], 0⟩, ⟨#[]⟩⟩ (Nat.lt_succ_self _) (normL_nn ha) (normL_nn hb) NnM.zero (NR.normL a) (NR.normL b) h
end Go.Proofs.Ytkimbpeapolcbaa.Sy
