/- Chapter 10: LxCPlain3 turned to this seat. (Printed by gsyport.py.) -/
import Derived.Test.YtkimbpeapolcbaaSyLxCPlain2
import Derived.Test.YtkimbpeapolcbaaSyLxPlainS
import Derived.Test.YtkimbpeapolcbaaSyLxComp
import Derived.Test.YtkimbpeapolcbaaSyLxPlainA
namespace Go.Proofs.Ytkimbpeapolcbaa.Sy
open Go.RowKit Go.Proofs.Ytkimbpeapolcbaa.Bw Go.Proofs.Ytkimbpeapolcbaa.Bs

/-- Bytes that the first edit puts. -/
def newR : List UInt8 → List Pc → Mk → List Pc × Mk
 | [], q, x => (q, x)
 | c :: t, q, x => newR t (nextR q) (if (hereR q).2 then x.put (hereR q).1 else (x.put (hereR q).1).put ⟨#[c]⟩)
/-- A byte of the text. -/
def oldR (d : Bool) (q : List Pc) (x : Mk) : List Pc × Mk := if d then (q, x.drop 1) else (nextR q, goC (hereR q).2 1 (x.put (hereR q).1))
def place (p q : List Pc) (x : Mk) : List Pc × Mk := oldR (hereR p).2 (newR (bl (hereR p).1) q x).1 (newR (bl (hereR p).1) q x).2
def cU : Nat → List Pc → List Pc → Mk → Mk
 | 0, p, q, x => (place p q x).2
 | N + 1, p, q, x => cU N (nextR p) (place p q x).1 (place p q x).2
def CS.sem (N : Nat) (s : CS) : Mk := cU N s.p (newR (bl s.f) s.q s.x).1 (newR (bl s.f) s.q s.x).2
theorem newR_append : ∀ (a b : List UInt8) (q : List Pc) (x : Mk), newR (a ++ b) q x = newR b (newR a q x).1 (newR a q x).2
 | [], _, _, _ => rfl
 | _ :: t, b, q, _ => newR_append t b (nextR q) _
def SameR (q r : List Pc) : Prop := hereR q = hereR r ∧ nextR q = nextR r
theorem newR_same {q r : List Pc} (h : SameR q r) : ∀ (f : List UInt8) (x : Mk), (newR f q x).2 = (newR f r x).2 ∧ SameR (newR f q x).1 (newR f r x).1
 | [], _ => ⟨rfl, h⟩
 | c :: t, x => by
  have e : newR (c :: t) q x = newR (c :: t) r x := by
   show newR t (nextR q) (if (hereR q).2 then x.put (hereR q).1 else (x.put (hereR q).1).put ⟨#[c]⟩) = newR t (nextR r) (if (hereR r).2 then x.put (hereR r).1 else (x.put (hereR r).1).put ⟨#[c]⟩)
   rw [h.1, h.2]
  rw [e]
  exact ⟨rfl, rfl, rfl⟩
theorem oldR_same {q r : List Pc} (h : SameR q r) (d : Bool) (x : Mk) : (oldR d q x).2 = (oldR d r x).2 ∧ SameR (oldR d q x).1 (oldR d r x).1 := by
 cases d
 ·have e : oldR false q x = oldR false r x := by
   show (nextR q, goC (hereR q).2 1 (x.put (hereR q).1)) = (nextR r, goC (hereR r).2 1 (x.put (hereR r).1))
   rw [h.1, h.2]
  rw [e]
  exact ⟨rfl, rfl, rfl⟩
 ·exact ⟨rfl, h⟩
theorem place_same {q r : List Pc} (h : SameR q r) (p : List Pc) (x : Mk) : (place p q x).2 = (place p r x).2 ∧ SameR (place p q x).1 (place p r x).1 := by
 obtain ⟨a, b⟩ := newR_same h (bl (hereR p).1) x
 unfold place
 rw [a]
 exact oldR_same b _ _
theorem cU_same : ∀ (N : Nat) (p : List Pc) {q r : List Pc} (x : Mk), SameR q r → cU N p q x = cU N p r x
 | 0, p, _, _, x, h => (place_same h p x).1
 | N + 1, p, q, r, x, h => by
  obtain ⟨a, b⟩ := place_same h p x
  show cU N (nextR p) (place p q x).1 (place p q x).2 = cU N (nextR p) (place p r x).1 (place p r x).2
  rw [a]
  exact cU_same N _ _ b
theorem cU_sameP {N : Nat} {p r : List Pc} (q : List Pc) (x : Mk) (h : SameR p r) : cU N p q x = cU N r q x := by
 have e : place p q x = place r q x := by unfold place; rw [h.1]
 cases N with
 | zero => show (place p q x).2 = (place r q x).2; rw [e]
 | succ N => show cU N (nextR p) (place p q x).1 (place p q x).2 = cU N (nextR r) (place r q x).1 (place r q x).2; rw [e, h.2]
theorem put_here (q : List Pc) : rPut (rPut q) = rPut q ∧ hereR (rPut q) = (⟨#[]⟩, (hereR q).2) ∧ nextR (rPut q) = nextR q := by
 have e : rPut (rPut q) = rPut q ∧ rPutS (rPut q) = ⟨#[]⟩ := by
  cases q with
  | nil => exact ⟨rfl, rfl⟩
  | cons p r =>
   by_cases h : 0 < p.keep
   ·rw [show rPut (p :: r) = p :: r from if_pos h]
    exact ⟨if_pos h, if_pos h⟩
   ·rw [show rPut (p :: r) = { p with put := ⟨#[]⟩ } :: r from if_neg h]
    exact ⟨if_neg h, if_neg h⟩
 refine ⟨e.1, ?_, ?_⟩
 ·unfold hereR; rw [e.1, e.2]
 ·unfold nextR; rw [e.1]
theorem put_e {x : Mk} : x.put ⟨#[]⟩ = x := put_none x rfl
theorem newR_putQ (c : UInt8) (t : List UInt8) (q : List Pc) (x : Mk) : newR (c :: t) (rPut q) (x.put (rPutS q)) = newR (c :: t) q x := by
 obtain ⟨_, h1, h2⟩ := put_here q
 show newR t (nextR (rPut q)) (if (hereR (rPut q)).2 then (x.put (rPutS q)).put (hereR (rPut q)).1 else ((x.put (rPutS q)).put (hereR (rPut q)).1).put ⟨#[c]⟩) = newR t (nextR q) (if (hereR q).2 then x.put (rPutS q) else (x.put (rPutS q)).put ⟨#[c]⟩)
 rw [h1, h2, put_e]
theorem here_flag {p : List Pc} (hn : Nn p) (h0 : extL p ≤ 0) : (hereR p).2 = false := by
 show rD (rSkip (rPut p)) = false
 cases hs : rSkip (rPut p) with
 | nil => rfl
 | cons y t =>
  exfalso
  have h1 := ext_put p
  have h2 := ext_skip hn.put
  have h3 := rN_skip_pos (l := rPut p) (by rw [hs]; simp)
  have h4 := rN_ext hn.put.skip
  omega
theorem oldR_putQ {x : Mk} (hx : NnM x) (d : Bool) (q : List Pc) : oldR d (rPut q) (x.put (rPutS q)) = if d then (rPut q, (x.drop 1).put (rPutS q)) else oldR d q x := by
 obtain ⟨_, h1, h2⟩ := put_here q
 cases d
 ·show (nextR (rPut q), goC (hereR (rPut q)).2 1 ((x.put (rPutS q)).put (hereR (rPut q)).1)) = (nextR q, goC (hereR q).2 1 (x.put (rPutS q)))
  rw [h1, h2, put_e]
 ·show (rPut q, (x.put (rPutS q)).drop 1) = (rPut q, (x.drop 1).put (rPutS q))
  rw [drop_put hx.2 _ (by decide)]
theorem nextR_zero {p : List Pc} (hn : Nn p) (N : Nat) (h : extL p ≤ ((N + 1 : Nat) : Int)) : extL (nextR p) ≤ (N : Int) := by
 have h1 := ext_put p
 have h2 := ext_skip hn.put
 unfold nextR
 cases hs : rSkip (rPut p) with
 | nil => show (0 : Int) ≤ _; omega
 | cons y t =>
  rw [← hs, ext_take (by rw [hs]; simp)]
  omega
theorem cU_putQ : ∀ (N : Nat) {p q : List Pc} {x : Mk}, NnM x → Nn p → extL p ≤ (N : Int) → cU N p (rPut q) (x.put (rPutS q)) = cU N p q x := by
 intro N
 induction N with
 | zero =>
  intro p q x hx hn he
  show (place p (rPut q) (x.put (rPutS q))).2 = (place p q x).2
  unfold place
  rw [here_flag hn he]
  cases hb : bl (hereR p).1 with
  | nil =>
   show (oldR false (rPut q) (x.put (rPutS q))).2 = (oldR false q x).2
   rw [oldR_putQ hx]; rfl
  | cons c t => rw [newR_putQ]
 | succ N ih =>
  intro p q x hx hn he
  show cU N (nextR p) (place p (rPut q) (x.put (rPutS q))).1 (place p (rPut q) (x.put (rPutS q))).2 = cU N (nextR p) (place p q x).1 (place p q x).2
  unfold place
  cases hb : bl (hereR p).1 with
  | cons c t => rw [newR_putQ]
  | nil =>
   show cU N (nextR p) (oldR (hereR p).2 (rPut q) (x.put (rPutS q))).1 (oldR (hereR p).2 (rPut q) (x.put (rPutS q))).2 = cU N (nextR p) (oldR (hereR p).2 q x).1 (oldR (hereR p).2 q x).2
   rw [oldR_putQ hx]
   cases (hereR p).2 with
   | false => rfl
   | true => exact ih (hx.drop 1) (next_nn hn) (nextR_zero hn N he)
theorem cU_putP (N : Nat) (p q : List Pc) (x : Mk) : cU N (rPut p) (newR (bl (rPutS p)) q x).1 (newR (bl (rPutS p)) q x).2 = cU N p q x := by
 obtain ⟨_, h1, h2⟩ := put_here p
 have e : place (rPut p) (newR (bl (rPutS p)) q x).1 (newR (bl (rPutS p)) q x).2 = place p q x := by
  unfold place
  rw [h1]
  rfl
 cases N with
 | zero => show (place _ _ _).2 = (place p q x).2; rw [e]
 | succ N => show cU N (nextR (rPut p)) _ _ = cU N (nextR p) (place p q x).1 (place p q x).2; rw [e, h2]
theorem take_zero : ∀ l : List Pc, rTake 0 l = l
 | [] => rfl
 | p :: r => by
  simp only [rTake]
  split
  ·rw [show p.keep - 0 = p.keep by omega]
  ·rw [show p.drop - 0 = p.drop by omega]
theorem row_here {a : List Pc} {j : Int} (hs : rSkip a = a) (hp : PE a) (hj : 0 ≤ j) (hn : a ≠ [] → j < rN a) : hereR (rTake j a) = (⟨#[]⟩, rD a) ∧ nextR (rTake j a) = rTake (j + 1) a := by
 obtain ⟨h1, h2, h3, h4, h5⟩ := row_step hs hp hj hn
 constructor
 ·unfold hereR; rw [h1, h2, h3, h4]
 ·unfold nextR; rw [h2, h3, h5]
/-- Where nothing is to be put, the skip changes nothing. -/
theorem same_skip {q : List Pc} (hr : NR q) (h0 : (rPutS q).size = 0) : SameR q (rSkip (rPut q)) := by
 have hp := PE.of hr
 have hs := skip_skip (rPut q)
 have h1 := row_here hs hp (Int.le_refl 0) (fun h => rN_skip_pos h)
 rw [take_zero] at h1
 constructor
 ·rw [h1.1]
  unfold hereR
  rw [bytes_empty h0]
 ·rw [h1.2]; rfl
theorem newR_run {Q : List Pc} (hs : rSkip Q = Q) (hp : PE Q) : ∀ (cs : List UInt8) (j : Nat) {x : Mk}, NnM x → (Q ≠ [] → ((j + cs.length : Nat) : Int) ≤ rN Q) → newR cs (rTake j Q) x = (rTake ((j + cs.length : Nat) : Int) Q, if rD Q then x else x.put ⟨cs.toArray⟩)
 | [], j, x, _, _ => by
  show (rTake j Q, x) = _
  have : (if rD Q then x else x.put ⟨#[]⟩) = x := by split; rfl; exact put_e
  rw [this]; rfl
 | c :: t, j, x, hx, h => by
  obtain ⟨h1, h2⟩ := row_here hs hp (j := (j : Int)) (by omega) (fun hne => by have := h hne; rw [List.length_cons] at this; omega)
  show newR t (nextR (rTake j Q)) (if (hereR (rTake j Q)).2 then x.put (hereR (rTake j Q)).1 else (x.put (hereR (rTake j Q)).1).put ⟨#[c]⟩) = _
  rw [h1, h2, put_e]
  have hx' : NnM (if rD Q then x else x.put ⟨#[c]⟩) := by split; exact hx; exact hx.put _
  have ih := newR_run hs hp t (j + 1) hx' (fun hne => by have := h hne; rw [List.length_cons] at this; omega)
  rw [show ((j : Int) + 1) = ((j + 1 : Nat) : Int) by omega, ih, show j + 1 + t.length = j + (c :: t).length by rw [List.length_cons]; omega]
  congr 1
  cases rD Q
  ·show (x.put ⟨#[c]⟩).put ⟨t.toArray⟩ = x.put ⟨(c :: t).toArray⟩
   rw [put_put hx.2]
   congr 1
  ·rfl
theorem cU_dropN {P : List Pc} (hs : rSkip P = P) (hp : PE P) (hd : rD P = true) (q : List Pc) {x : Mk} (hx : NnM x) : ∀ (d j N : Nat), j + d ≤ N → ((j + d : Nat) : Int) ≤ rN P → cU (N - j) (rTake j P) q (x.drop j) = cU (N - (j + d)) (rTake ((j + d : Nat) : Int) P) q (x.drop ((j + d : Nat) : Int))
 | 0, _, _, _, _ => rfl
 | d + 1, j, N, h1, h2 => by
  obtain ⟨h3, h4⟩ := row_here hs hp (j := (j : Int)) (by omega) (fun _ => by omega)
  have e : N - j = (N - (j + 1)) + 1 := by omega
  rw [e]
  show cU (N - (j + 1)) (nextR (rTake j P)) (place (rTake j P) q (x.drop j)).1 (place (rTake j P) q (x.drop j)).2 = _
  have e2 : place (rTake j P) q (x.drop j) = (q, x.drop ((j + 1 : Nat) : Int)) := by
   unfold place
   rw [h3, hd]
   show (q, (x.drop j).drop 1) = _
   rw [drop_drop' hx.2 (by omega) (show (0 : Int) ≤ 1 by decide)]
   rfl
  rw [e2, h4]
  have ih := cU_dropN hs hp hd q hx d (j + 1) N (by omega) (by omega)
  rw [show j + 1 + d = j + (d + 1) by omega] at ih
  exact ih
theorem goC_one {x : Mk} (hx : NnM x) (g : Bool) {j : Int} (hj : 0 ≤ j) : goC g 1 (goC g j x) = goC g (j + 1) x := by
 cases g
 ·exact more_more x j 1
 ·exact drop_drop' hx.2 hj (show (0 : Int) ≤ 1 by decide)
theorem cU_goN {P Q : List Pc} (hs : rSkip P = P) (hp : PE P) (hd : rD P = false) (hs' : rSkip Q = Q) (hq : PE Q) {x : Mk} (hx : NnM x) : ∀ (d j N : Nat), j + d ≤ N → (P ≠ [] → ((j + d : Nat) : Int) ≤ rN P) → (Q ≠ [] → ((j + d : Nat) : Int) ≤ rN Q) → cU (N - j) (rTake j P) (rTake j Q) (goC (rD Q) j x) = cU (N - (j + d)) (rTake ((j + d : Nat) : Int) P) (rTake ((j + d : Nat) : Int) Q) (goC (rD Q) ((j + d : Nat) : Int) x)
 | 0, _, _, _, _, _ => rfl
 | d + 1, j, N, h1, h2, h2' => by
  obtain ⟨h3, h4⟩ := row_here hs hp (j := (j : Int)) (by omega) (fun h => by have := h2 h; omega)
  obtain ⟨h5, h6⟩ := row_here hs' hq (j := (j : Int)) (by omega) (fun h => by have := h2' h; omega)
  have e : N - j = (N - (j + 1)) + 1 := by omega
  rw [e]
  show cU (N - (j + 1)) (nextR (rTake j P)) (place (rTake j P) (rTake j Q) (goC (rD Q) j x)).1 (place (rTake j P) (rTake j Q) (goC (rD Q) j x)).2 = _
  have e2 : place (rTake j P) (rTake j Q) (goC (rD Q) j x) = (rTake ((j + 1 : Nat) : Int) Q, goC (rD Q) ((j + 1 : Nat) : Int) x) := by
   unfold place
   rw [h3, hd]
   show (nextR (rTake j Q), goC (hereR (rTake j Q)).2 1 ((goC (rD Q) j x).put (hereR (rTake j Q)).1)) = _
   rw [h5, h6, put_e]
   show (_, goC (rD Q) 1 (goC (rD Q) j x)) = _
   rw [goC_one hx _ (by omega)]
   rfl
  rw [e2, h4]
  have ih := cU_goN hs hp hd hs' hq hx d (j + 1) N (by omega) (fun h => by have := h2 h; omega) (fun h => by have := h2' h; omega)
  rw [show j + 1 + d = j + (d + 1) by omega] at ih
  exact ih
theorem cU_nil : ∀ (N : Nat) (x : Mk), (cU N [] [] x).l = x.l
 | 0, x => by
  show (goC false 1 (x.put ⟨#[]⟩)).l = x.l
  rw [put_e]; rfl
 | N + 1, x => by
  show (cU N [] [] (goC false 1 (x.put ⟨#[]⟩))).l = x.l
  rw [cU_nil N, put_e]; rfl
end Go.Proofs.Ytkimbpeapolcbaa.Sy
namespace Go.Proofs.Ytkimbpeapolcbaa.Sy
open Go.RowKit Go.Proofs.Ytkimbpeapolcbaa.Bw Go.Proofs.Ytkimbpeapolcbaa.Bs

theorem fetch_is {s : CS} (np : Nn s.p) (rp : NR s.p) (N : Nat) : ∃ p' FR, s.fetch = ⟨p', s.q, s.x, FR⟩ ∧ Nn p' ∧ NR p' ∧ extL p' = extL s.p ∧ s.sem N = cU N p' (newR (bl FR) s.q s.x).1 (newR (bl FR) s.q s.x).2 ∧ (FR.size = 0 → rPut p' = p' ∧ (rPutS p').size = 0) := by
 by_cases h : 0 < s.f.size
 ·exact ⟨s.p, s.f, if_pos h, np, rp, rfl, rfl, fun h0 => absurd h (by omega)⟩
 ·refine ⟨rPut s.p, rPutS s.p, if_neg h, np.put, rp.put, ext_put s.p, ?_, fun _ => ⟨(put_here s.p).1, ?_⟩⟩
  ·rw [cU_putP]
   unfold CS.sem
   rw [bl_empty (by omega)]
   rfl
  ·have := congrArg Prod.fst (put_here s.p).2.1
   have e : rPutS (rPut s.p) = ⟨#[]⟩ := this
   rw [e]; rfl
theorem take_min {Q : List Pc} {n : Int} (h : Q ≠ [] → n ≤ rN Q) : rTake (min n (rN Q)) Q = rTake n Q := by
 by_cases hq : Q = []
 ·subst hq; rfl
 ·have := h hq
  rw [show min n (rN Q) = n by omega]
theorem ext_take_le {Q : List Pc} {n : Int} (h0 : 0 ≤ n) : extL (rTake n Q) ≤ extL Q := by
 by_cases hq : Q = []
 ·subst hq; exact Int.le_refl _
 ·rw [ext_take hq]; omega
theorem cRun_sem : ∀ (k N : Nat) (s : CS), s.psi < k → Nn s.p → Nn s.q → NnM s.x → NR s.p → NR s.q → extL s.p + extL s.q ≤ (N : Int) → (cRun k s).l = (s.sem N).l
 | 0, _, _, h, _, _, _, _, _, _ => absurd h (by omega)
 | k + 1, N, s, hk, np, nq, nx, rp, rq, he => by
  have ok : s.Ok (wtM s.x + wt s.p + wt s.q + s.f.size) (s.x.l.length + s.psi) := ⟨np, nq, nx, Int.le_refl _, Nat.le_refl _⟩
  have x1 := (extL_nn np).1
  have x2 := (extL_nn nq).1
  have go : ∀ (t : CS) (M : Nat), s.step = some t → t.sem M = s.sem N → NR t.p → NR t.q → extL t.p + extL t.q ≤ (M : Int) → (cRun (k + 1) s).l = (s.sem N).l := by
   intro t M hs hm h1 h2 h3
   obtain ⟨ok', hlt⟩ := CS.step_ok ok hs
   have e : cRun (k + 1) s = cRun k t := by
    show (match s.step with | none => s.x | some t => cRun k t) = _
    rw [hs]
   rw [e, cRun_sem k M t (by omega) ok'.np ok'.nq ok'.nx h1 h2 h3, hm]
  by_cases hA : 0 < (rPutS s.q).size
  ·refine go { s with q := rPut s.q, x := s.x.put (rPutS s.q) } N ?_ ?_ rp rq.put ?_
   ·unfold CS.step; rw [if_pos hA]
   ·unfold CS.sem
    cases hb : bl s.f with
    | nil => exact cU_putQ N nx np (show extL s.p ≤ (N : Int) by omega)
    | cons c t => rw [newR_putQ]
   ·show extL s.p + extL (rPut s.q) ≤ _
    rw [ext_put]; exact he
  ·have hQ0 : (rPutS s.q).size = 0 := by omega
   have hsame := same_skip rq hQ0
   obtain ⟨p', FR, hf, np', rp', xp', hsem, hp0⟩ := fetch_is (s := s) np rp N
   have nQ := nq.put.skip
   have rQ := rq.put.skip
   have pQ := PE.of rq
   have sQ := skip_skip (rPut s.q)
   have xQ : extL (rSkip (rPut s.q)) ≤ extL s.q := by
    have := ext_skip nq.put
    rw [ext_put] at this
    exact this
   obtain ⟨Q, hQ⟩ : ∃ Q, rSkip (rPut s.q) = Q := ⟨_, rfl⟩
   have zQ : Q ≠ [] → 0 < rN Q := by rw [← hQ]; exact rN_skip_pos
   rw [hQ] at hsame nQ rQ pQ sQ xQ
   have yQ := (extL_nn nQ).1
   by_cases hfr : 0 < FR.size
   ·-- fresh bytes go
    have hn : ∃ n : Nat, frN Q FR = (n : Int) ∧ n ≤ FR.size ∧ (Q ≠ [] → (n : Int) ≤ rN Q) := by
     unfold frN
     by_cases hq : Q = []
     ·refine ⟨FR.size, ?_, Nat.le_refl _, fun h => absurd hq h⟩
      rw [hq]; rfl
     ·have := zQ hq
      have hl : 0 < Q.length := by cases Q; exact absurd rfl hq; simp
      rw [if_pos hl]
      exact ⟨(min (rN Q) FR.size).toNat, by omega, by omega, fun _ => by omega⟩
    obtain ⟨n, hn1, hn2, hn3⟩ := hn
    refine go _ N (step_fresh (by omega) hf hfr hQ hn1) ?_ rp' ?_ ?_
    ·rw [hsem]
     unfold CS.sem
     dsimp only
     obtain ⟨s1, s2⟩ := newR_same hsame (bl FR) s.x
     rw [s1, cU_same N p' _ s2, take_min hn3]
     have hb : bl FR = bl (FR.extract 0 n) ++ bl (FR.extract n FR.size) := by
      rw [bl_extract, bl_extract]
      simp only [Nat.sub_zero, List.drop_zero]
      rw [List.take_of_length_le (l := (bl FR).drop n) (by rw [List.length_drop, bl_len]; omega), List.take_append_drop]
     have hl : (bl (FR.extract 0 n)).length = n := by rw [bl_len, ByteArray.size_extract]; omega
     have hrun := newR_run sQ pQ (bl (FR.extract 0 n)) 0 nx (fun h => by have := hn3 h; rw [hl]; omega)
     rw [hl, Nat.zero_add] at hrun
     have et : rTake ((0 : Nat) : Int) Q = Q := take_zero Q
     rw [et] at hrun
     have ea : (⟨(bl (FR.extract 0 n)).toArray⟩ : ByteArray) = FR.extract 0 n := bl_inj rfl
     rw [ea] at hrun
     rw [hb, newR_append, hrun]
    ·exact rQ.take
    ·show extL p' + extL (rTake _ Q) ≤ _
     have := ext_take_le (Q := Q) (n := min (n : Int) (rN Q)) (by have := rN_le_wt nQ; omega)
     omega
   ·-- nothing is fresh
    obtain ⟨hp1, hp2⟩ := hp0 (by omega)
    have hfb : bl FR = [] := bl_empty (by omega)
    rw [hfb] at hsem
    have hsem : s.sem N = cU N p' s.q s.x := hsem
    rw [cU_same N p' s.x hsame] at hsem
    have hsp := same_skip rp' hp2
    rw [hp1] at hsp
    rw [cU_sameP Q s.x hsp] at hsem
    have nP := np'.skip
    have rP := rp'.skip
    have pP := PE.of rp'
    rw [hp1] at pP
    have sP := skip_skip p'
    have xP := ext_skip np'
    obtain ⟨P, hP⟩ : ∃ P, rSkip p' = P := ⟨_, rfl⟩
    have zP : P ≠ [] → 0 < rN P := by rw [← hP]; exact rN_skip_pos
    rw [hP] at hsem nP rP pP sP xP
    have yP := (extL_nn nP).1
    have lP := rN_ext nP
    have lQ := rN_ext nQ
    have semE : ∀ (M : Nat) (a b : List Pc) (y : Mk), CS.sem M ⟨a, b, y, FR⟩ = cU M a b y := by
     intro M a b y
     show cU M a (newR (bl FR) b y).1 (newR (bl FR) b y).2 = _
     rw [hfb]; rfl
    cases hd : rD P with
    | true =>
     have hne : P ≠ [] := fun h => by rw [h] at hd; exact absurd hd (by decide)
     have hpos := zP hne
     obtain ⟨n, hn⟩ : ∃ n : Nat, rN P = n := ⟨(rN P).toNat, by omega⟩
     refine go _ (N - n) (step_drop (by omega) hf hfr hQ hP hd) ?_ rP.take rQ ?_
     ·rw [semE, hsem, hn]
      have := cU_dropN sP pP hd Q nx n 0 N (by omega) (by omega)
      rw [Nat.zero_add] at this
      rw [← this]
      show cU N (rTake 0 P) Q (s.x.drop 0) = _
      rw [take_zero, drop_zero_]
     ·show extL (rTake (rN P) P) + extL Q ≤ _
      rw [ext_take hne]
      omega
    | false =>
     cases hb : bSome P Q with
     | false =>
      obtain ⟨rfl, rfl⟩ := more_false hb
      have e : cRun (k + 1) s = s.x := by
       show (match s.step with | none => s.x | some t => cRun k t) = _
       rw [step_done (by omega) hf hfr hQ hP hd hb]
      rw [e, hsem, cU_nil]
     | true =>
      obtain ⟨b0, b1, b2, b3⟩ := bN_facts nP nQ
      obtain ⟨n, hn⟩ : ∃ n : Nat, bN P Q = n := ⟨(bN P Q).toNat, by omega⟩
      rw [hn] at b1 b2 b3
      have hb3 := b3 hb
      have hnN : n ≤ N := by
       rcases hb3 with ⟨h1, h2⟩ | ⟨h1, h2⟩ <;> omega
      refine go _ (N - n) (step_go (by omega) hf hfr hQ hP hd hb hn) ?_ rP.take rQ.take ?_
      ·rw [semE, hsem, take_min b1, take_min b2]
       have := cU_goN sP pP hd sQ pQ nx n 0 N (by omega) (fun h => by have := b1 h; omega) (fun h => by have := b2 h; omega)
       rw [Nat.zero_add] at this
       rw [← this]
       have eg : goC (rD Q) ((0 : Nat) : Int) s.x = s.x := by
        unfold goC
        split
        ·exact drop_zero_ _
        ·exact more_zero _
       rw [eg]
       show cU N (rTake 0 P) (rTake 0 Q) s.x = _
       rw [take_zero, take_zero]
      ·show extL (rTake (min (n : Int) (rN P)) P) + extL (rTake (min (n : Int) (rN Q)) Q) ≤ _
       rw [take_min b1, take_min b2]
       have t1 := ext_take_le (Q := P) (n := (n : Int)) (by omega)
       have t2 := ext_take_le (Q := Q) (n := (n : Int)) (by omega)
       rcases hb3 with ⟨h1, h2⟩ | ⟨h1, h2⟩
       ·have := ext_take (n := (n : Int)) h1; omega
       ·have := ext_take (n := (n : Int)) h1; omega
theorem coX_eq {a b : List Pc} (ha : Nn a) (hb : Nn b) (N : Nat) (h : extL (normL a) + extL (normL b) ≤ (N : Int)) : (coX a b).l = (cU N (normL a) (normL b) ⟨[], 0⟩).l :=
 cRun_sem _ N ⟨normL a, normL b, ⟨[], 0⟩, ⟨#[]⟩⟩ (Nat.lt_succ_self _) (normL_nn ha) (normL_nn hb) NnM.zero (NR.normL a) (NR.normL b) h
end Go.Proofs.Ytkimbpeapolcbaa.Sy
namespace Go.Proofs.Ytkimbpeapolcbaa.Sy
open Go.RowKit Go.Proofs.Ytkimbpeapolcbaa.Bw Go.Proofs.Ytkimbpeapolcbaa.Bs

/-- An item: is it the text's; and its byte. -/
abbrev It := Bool × UInt8
def It.vals (x : It) : List Value := [.bool x.1, .int .u8 x.2.toNat]
def itVals (l : List It) : List Value := l.flatMap It.vals
theorem itVals_len (l : List It) : (itVals l).length = l.length * 2 := by
 induction l with
 | nil => rfl
 | cons p r ih =>
  have : itVals (p :: r) = It.vals p ++ itVals r := rfl
  rw [this, List.length_append, ih, List.length_cons]
  simp [It.vals]; omega
theorem itVals_append (l r : List It) : itVals (l ++ r) = itVals l ++ itVals r := by simp [itVals]
theorem itVals_one (l : List It) : ∀ u ∈ itVals l, u.oneCell' = true := by
 intro u hu
 obtain ⟨p, _, hp⟩ := List.mem_flatMap.1 hu
 simp only [It.vals, List.mem_cons, List.not_mem_nil, or_false] at hp
 rcases hp with rfl | rfl <;> rfl
/-- Items, edited. -/
def edM (l : List It) : List Pc → List It
 | [] => l
 | p :: r => l.take p.keep.toNat ++ (bl p.put).map (fun c => (false, c)) ++ edM (l.drop (p.keep + p.drop).toNat) r
theorem edM_at (l : List It) {e : List Pc} {i : Nat} {p : Pc} (hp : e[i]? = some p) : edM l (e.drop i) = l.take p.keep.toNat ++ (bl p.put).map (fun c => (false, c)) ++ edM (l.drop (p.keep + p.drop).toNat) (e.drop (i + 1)) := by rw [drop_at hp]; rfl
theorem itVals_get {l : List It} {i j : Nat} {x : It} (h : l[i]? = some x) (hj : j < 2) : (itVals l)[i * 2 + j]? = (It.vals x)[j]? := by
 induction l generalizing i with
 | nil => simp at h
 | cons y r ih =>
  have e : itVals (y :: r) = It.vals y ++ itVals r := rfl
  have el : (It.vals y).length = 2 := rfl
  cases i with
  | zero =>
   simp at h
   subst h
   rw [e, List.getElem?_append_left (by omega)]
   congr 1
   omega
  | succ i =>
   rw [e, List.getElem?_append_right (by omega), ← ih (by simpa using h)]
   congr 1
   omega
theorem itVals_drop (l : List It) (i : Nat) : itVals (l.drop i) = (itVals l).drop (i * 2) := by
 induction l generalizing i with
 | nil => simp [itVals]
 | cons y r ih =>
  cases i with
  | zero => rfl
  | succ i =>
   show itVals (r.drop i) = _
   rw [ih]
   have e : itVals (y :: r) = .bool y.1 :: .int .u8 y.2.toNat :: itVals r := rfl
   rw [e, show (i + 1) * 2 = i * 2 + 1 + 1 by omega]
   rfl
theorem itVals_take (l : List It) (i : Nat) : itVals (l.take i) = (itVals l).take (i * 2) := by
 induction l generalizing i with
 | nil => simp [itVals]
 | cons y r ih =>
  cases i with
  | zero => simp [itVals]
  | succ i =>
   have e : itVals (y :: r) = .bool y.1 :: .int .u8 y.2.toNat :: itVals r := rfl
   rw [e, show (i + 1) * 2 = i * 2 + 1 + 1 by omega]
   show It.vals y ++ itVals (r.take i) = _
   rw [ih]
   rfl
/-- A part of a row of items. -/
theorem RdS.part {W : World} {l : List It} {b off c : Nat} (hc : c ≤ maxLen) (hcell : ∀ j u, (itVals l)[j]? = some u → W.cell? ⟨b, off + j, none⟩ = some u) {i k cc : Nat} {A : Option Addr} (hk : i + k ≤ l.length) (hcc : k ≤ cc) (hc2 : cc ≤ c) (hA : 0 < k → A = some ⟨b, off + i * 2, none⟩) :
  RdS W 2 k (itVals ((l.drop i).take k)) (.slice A k cc) := by
 refine ⟨A, cc, rfl, ?_, hcc, Nat.le_trans hc2 hc, fun h0 => ⟨b, off + i * 2, hA h0, fun j u hu => ?_⟩⟩
 ·rw [itVals_len, List.length_take, List.length_drop]
  congr 1
  omega
 ·rw [itVals_take, itVals_drop] at hu
  have hj : j < k * 2 := by
   rcases Nat.lt_or_ge j (k * 2) with h | h
   ·exact h
   ·rw [List.getElem?_eq_none (by rw [List.length_take]; omega)] at hu; cases hu
  rw [List.getElem?_take, if_pos hj, List.getElem?_drop] at hu
  have := hcell _ _ hu
  rwa [show off + i * 2 + j = off + (i * 2 + j) by omega]
end Go.Proofs.Ytkimbpeapolcbaa.Sy
