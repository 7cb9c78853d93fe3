/- Chapter 10: LxCPlain3 turned to this seat. (Printed by gsyport.py.) -/
import Derived.Test.YtkimbpeapolcbaaSyLxPlainI
import Derived.Test.YtkimbpeapolcbaaSyLxPlainS
namespace Go.Proofs.Ytkimbpeapolcbaa.Sy
open Go.RowKit Go.Proofs.Ytkimbpeapolcbaa.Bw Go.Proofs.Ytkimbpeapolcbaa.Bs

/-- Bytes that the first edit puts. -/
def newR : List UInt8 → List Pc → Mk → List Pc × Mk
  | [], q, x => (q, x)
  | c :: t, q, x => newR t (nextR q) (if (hereR q).2 then x.put (hereR q).1 else (x.put (hereR q).1).put ⟨#[c]⟩)
/-- A byte of the text. -/
def oldR (d : Bool) (q : List Pc) (x : Mk) : List Pc × Mk := if d then (q, x.drop 1) else (nextR q, goC (hereR q).2 1 (x.put (hereR q).1))
def place (p q : List Pc) (x : Mk) : List Pc × Mk := oldR (hereR p).2 (newR (bl (hereR p).1) q x).1 (newR (bl (hereR p).1) q x).2
def cU : Nat → List Pc → List Pc → Mk → Mk
  | 0, p, q, x => (place p q x).2
  | N + 1, p, q, x => cU N (nextR p) (place p q x).1 (place p q x).2
def CS.sem (N : Nat) (s : CS) : Mk := cU N s.p (newR (bl s.f) s.q s.x).1 (newR (bl s.f) s.q s.x).2
theorem newR_append : ∀ (a b : List UInt8) (q : List Pc) (x : Mk), newR (a ++ b) q x = newR b (newR a q x).1 (newR a q x).2
  | [], _, _, _ => rfl
  | _ :: t, b, q, _ => newR_append t b (nextR q) _
def SameR (q r : List Pc) : Prop := hereR q = hereR r ∧ nextR q = nextR r
theorem newR_same {q r : List Pc} (h : SameR q r) : ∀ (f : List UInt8) (x : Mk), (newR f q x).2 = (newR f r x).2 ∧ SameR (newR f q x).1 (newR f r x).1
  | [], _ => ⟨rfl, h⟩
  | c :: t, x => by
    have e : newR (c :: t) q x = newR (c :: t) r x := by
      show newR t (nextR q) (if (hereR q).2 then x.put (hereR q).1 else (x.put (hereR q).1).put ⟨#[c]⟩) = newR t (nextR r) (if (hereR r).2 then x.put (hereR r).1 else (x.put (hereR r).1).put ⟨#[c]⟩)
      rw [h.1, h.2]
    rw [e]
    exact ⟨rfl, rfl, rfl⟩
theorem oldR_same {q r : List Pc} (h : SameR q r) (d : Bool) (x : Mk) : (oldR d q x).2 = (oldR d r x).2 ∧ SameR (oldR d q x).1 (oldR d r x).1 := by
  cases d
  · have e : oldR false q x = oldR false r x := by
      show (nextR q, goC (hereR q).2 1 (x.put (hereR q).1)) = (nextR r, goC (hereR r).2 1 (x.put (hereR r).1))
      rw [h.1, h.2]
    rw [e]
    exact ⟨rfl, rfl, rfl⟩
  · exact ⟨rfl, h⟩
theorem place_same {q r : List Pc} (h : SameR q r) (p : List Pc) (x : Mk) : (place p q x).2 = (place p r x).2 ∧ SameR (place p q x).1 (place p r x).1 := by
  obtain ⟨a, b⟩ := newR_same h (bl (hereR p).1) x
  unfold place
  rw [a]
  exact oldR_same b _ _
theorem cU_same : ∀ (N : Nat) (p : List Pc) {q r : List Pc} (x : Mk), SameR q r → cU N p q x = cU N p r x
  | 0, p, _, _, x, h => (place_same h p x).1
  | N + 1, p, q, r, x, h => by
    obtain ⟨a, b⟩ := place_same h p x
    show cU N (nextR p) (place p q x).1 (place p q x).2 = cU N (nextR p) (place p r x).1 (place p r x).2
    rw [a]
    exact cU_same N _ _ b
theorem cU_sameP {N : Nat} {p r : List Pc} (q : List Pc) (x : Mk) (h : SameR p r) : cU N p q x = cU N r q x := by
  have e : place p q x = place r q x := by unfold place; rw [h.1]
  cases N with
  | zero => show (place p q x).2 = (place r q x).2; rw [e]
  | succ N => show cU N (nextR p) (place p q x).1 (place p q x).2 = cU N (nextR r) (place r q x).1 (place r q x).2; rw [e, h.2]
theorem put_here (q : List Pc) : rPut (rPut q) = rPut q ∧ hereR (rPut q) = (⟨#[]⟩, (hereR q).2) ∧ nextR (rPut q) = nextR q := by
  have e : rPut (rPut q) = rPut q ∧ rPutS (rPut q) = ⟨#[]⟩ := by
    cases q with
    | nil => exact ⟨rfl, rfl⟩
    | cons p r =>
      by_cases h : 0 < p.keep
      · rw [show rPut (p :: r) = p :: r from if_pos h]
        exact ⟨if_pos h, if_pos h⟩
      · rw [show rPut (p :: r) = { p with put := ⟨#[]⟩ } :: r from if_neg h]
        exact ⟨if_neg h, if_neg h⟩
  refine ⟨e.1, ?_, ?_⟩
  · unfold hereR; rw [e.1, e.2]
  · unfold nextR; rw [e.1]
theorem put_e {x : Mk} : x.put ⟨#[]⟩ = x := put_none x rfl
theorem newR_putQ (c : UInt8) (t : List UInt8) (q : List Pc) (x : Mk) : newR (c :: t) (rPut q) (x.put (rPutS q)) = newR (c :: t) q x := by
  obtain ⟨_, h1, h2⟩ := put_here q
  show newR t (nextR (rPut q)) (if (hereR (rPut q)).2 then (x.put (rPutS q)).put (hereR (rPut q)).1 else ((x.put (rPutS q)).put (hereR (rPut q)).1).put ⟨#[c]⟩) = newR t (nextR q) (if (hereR q).2 then x.put (rPutS q) else (x.put (rPutS q)).put ⟨#[c]⟩)
  rw [h1, h2, put_e]
theorem here_flag {p : List Pc} (hn : Nn p) (h0 : extL p ≤ 0) : (hereR p).2 = false := by
  show rD (rSkip (rPut p)) = false
  cases hs : rSkip (rPut p) with
  | nil => rfl
  | cons y t =>
    exfalso
    have h1 := ext_put p
    have h2 := ext_skip hn.put
    have h3 := rN_skip_pos (l := rPut p) (by rw [hs]; simp)
    have h4 := rN_ext hn.put.skip
    omega
theorem oldR_putQ {x : Mk} (hx : NnM x) (d : Bool) (q : List Pc) : oldR d (rPut q) (x.put (rPutS q)) = if d then (rPut q, (x.drop 1).put (rPutS q)) else oldR d q x := by
  obtain ⟨_, h1, h2⟩ := put_here q
  cases d
  · show (nextR (rPut q), goC (hereR (rPut q)).2 1 ((x.put (rPutS q)).put (hereR (rPut q)).1)) = (nextR q, goC (hereR q).2 1 (x.put (rPutS q)))
    rw [h1, h2, put_e]
  · show (rPut q, (x.put (rPutS q)).drop 1) = (rPut q, (x.drop 1).put (rPutS q))
    rw [drop_put hx.2 _ (by decide)]
theorem nextR_zero {p : List Pc} (hn : Nn p) (N : Nat) (h : extL p ≤ ((N + 1 : Nat) : Int)) : extL (nextR p) ≤ (N : Int) := by
  have h1 := ext_put p
  have h2 := ext_skip hn.put
  unfold nextR
  cases hs : rSkip (rPut p) with
  | nil => show (0 : Int) ≤ _; omega
  | cons y t =>
    rw [← hs, ext_take (by rw [hs]; simp)]
    omega
theorem cU_putQ : ∀ (N : Nat) {p q : List Pc} {x : Mk}, NnM x → Nn p → extL p ≤ (N : Int) → cU N p (rPut q) (x.put (rPutS q)) = cU N p q x := by
  intro N
  induction N with
  | zero =>
    intro p q x hx hn he
    show (place p (rPut q) (x.put (rPutS q))).2 = (place p q x).2
    unfold place
    rw [here_flag hn he]
    cases hb : bl (hereR p).1 with
    | nil =>
      show (oldR false (rPut q) (x.put (rPutS q))).2 = (oldR false q x).2
      rw [oldR_putQ hx]; rfl
    | cons c t => rw [newR_putQ]
  | succ N ih =>
    intro p q x hx hn he
    show cU N (nextR p) (place p (rPut q) (x.put (rPutS q))).1 (place p (rPut q) (x.put (rPutS q))).2 = cU N (nextR p) (place p q x).1 (place p q x).2
    unfold place
    cases hb : bl (hereR p).1 with
    | cons c t => rw [newR_putQ]
    | nil =>
      show cU N (nextR p) (oldR (hereR p).2 (rPut q) (x.put (rPutS q))).1 (oldR (hereR p).2 (rPut q) (x.put (rPutS q))).2 = cU N (nextR p) (oldR (hereR p).2 q x).1 (oldR (hereR p).2 q x).2
      rw [oldR_putQ hx]
      cases (hereR p).2 with
      | false => rfl
      | true => exact ih (hx.drop 1) (next_nn hn) (nextR_zero hn N he)
theorem cU_putP (N : Nat) (p q : List Pc) (x : Mk) : cU N (rPut p) (newR (bl (rPutS p)) q x).1 (newR (bl (rPutS p)) q x).2 = cU N p q x := by
  obtain ⟨_, h1, h2⟩ := put_here p
  have e : place (rPut p) (newR (bl (rPutS p)) q x).1 (newR (bl (rPutS p)) q x).2 = place p q x := by
    unfold place
    rw [h1]
    rfl
  cases N with
  | zero => show (place _ _ _).2 = (place p q x).2; rw [e]
  | succ N => show cU N (nextR (rPut p)) _ _ = cU N (nextR p) (place p q x).1 (place p q x).2; rw [e, h2]
theorem take_zero : ∀ l : List Pc, rTake 0 l = l
  | [] => rfl
  | p :: r => by
    simp only [rTake]
    split
    · rw [show p.keep - 0 = p.keep by omega]
    · rw [show p.drop - 0 = p.drop by omega]
theorem row_here {a : List Pc} {j : Int} (hs : rSkip a = a) (hp : PE a) (hj : 0 ≤ j) (hn : a ≠ [] → j < rN a) : hereR (rTake j a) = (⟨#[]⟩, rD a) ∧ nextR (rTake j a) = rTake (j + 1) a := by
  obtain ⟨h1, h2, h3, h4, h5⟩ := row_step hs hp hj hn
  constructor
  · unfold hereR; rw [h1, h2, h3, h4]
  · unfold nextR; rw [h2, h3, h5]
/-- Where nothing is to be put, the skip changes nothing. -/
theorem same_skip {q : List Pc} (hr : NR q) (h0 : (rPutS q).size = 0) : SameR q (rSkip (rPut q)) := by
  have hp := PE.of hr
  have hs := skip_skip (rPut q)
  have h1 := row_here hs hp (Int.le_refl 0) (fun h => rN_skip_pos h)
  rw [take_zero] at h1
  constructor
  · rw [h1.1]
    unfold hereR
    rw [bytes_empty h0]
  · rw [h1.2]; rfl
theorem newR_run {Q : List Pc} (hs : rSkip Q = Q) (hp : PE Q) : ∀ (cs : List UInt8) (j : Nat) {x : Mk}, NnM x → (Q ≠ [] → ((j + cs.length : Nat) : Int) ≤ rN Q) → newR cs (rTake j Q) x = (rTake ((j + cs.length : Nat) : Int) Q, if rD Q then x else x.put ⟨cs.toArray⟩)
  | [], j, x, _, _ => by
    show (rTake j Q, x) = _
    have : (if rD Q then x else x.put ⟨#[]⟩) = x := by split; rfl; exact put_e
    rw [this]; rfl
  | c :: t, j, x, hx, h => by
    obtain ⟨h1, h2⟩ := row_here hs hp (j := (j : Int)) (by omega) (fun hne => by have := h hne; rw [List.length_cons] at this; omega)
    show newR t (nextR (rTake j Q)) (if (hereR (rTake j Q)).2 then x.put (hereR (rTake j Q)).1 else (x.put (hereR (rTake j Q)).1).put ⟨#[c]⟩) = _
    rw [h1, h2, put_e]
    have hx' : NnM (if rD Q then x else x.put ⟨#[c]⟩) := by split; exact hx; exact hx.put _
    have ih := newR_run hs hp t (j + 1) hx' (fun hne => by have := h hne; rw [List.length_cons] at this; omega)
    rw [show ((j : Int) + 1) = ((j + 1 : Nat) : Int) by omega, ih, show j + 1 + t.length = j + (c :: t).length by rw [List.length_cons]; omega]
    congr 1
    cases rD Q
    · show (x.put ⟨#[c]⟩).put ⟨t.toArray⟩ = x.put ⟨(c :: t).toArray⟩
      rw [put_put hx.2]
      congr 1
    · rfl
theorem cU_dropN {P : List Pc} (hs : rSkip P = P) (hp : PE P) (hd : rD P = true) (q : List Pc) {x : Mk} (hx : NnM x) : ∀ (d j N : Nat), j + d ≤ N → ((j + d : Nat) : Int) ≤ rN P → cU (N - j) (rTake j P) q (x.drop j) = cU (N - (j + d)) (rTake ((j + d : Nat) : Int) P) q (x.drop ((j + d : Nat) : Int))
  | 0, _, _, _, _ => rfl
  | d + 1, j, N, h1, h2 => by
    obtain ⟨h3, h4⟩ := row_here hs hp (j := (j : Int)) (by omega) (fun _ => by omega)
    have e : N - j = (N - (j + 1)) + 1 := by omega
    rw [e]
    show cU (N - (j + 1)) (nextR (rTake j P)) (place (rTake j P) q (x.drop j)).1 (place (rTake j P) q (x.drop j)).2 = _
    have e2 : place (rTake j P) q (x.drop j) = (q, x.drop ((j + 1 : Nat) : Int)) := by
      unfold place
      rw [h3, hd]
      show (q, (x.drop j).drop 1) = _
      rw [drop_drop' hx.2 (by omega) (show (0 : Int) ≤ 1 by decide)]
      rfl
    rw [e2, h4]
    have ih := cU_dropN hs hp hd q hx d (j + 1) N (by omega) (by omega)
    rw [show j + 1 + d = j + (d + 1) by omega] at ih
    exact ih
theorem goC_one {x : Mk} (hx : NnM x) (g : Bool) {j : Int} (hj : 0 ≤ j) : goC g 1 (goC g j x) = goC g (j + 1) x := by
  cases g
  · exact more_more x j 1
  · exact drop_drop' hx.2 hj (show (0 : Int) ≤ 1 by decide)
theorem cU_goN {P Q : List Pc} (hs : rSkip P = P) (hp : PE P) (hd : rD P = false) (hs' : rSkip Q = Q) (hq : PE Q) {x : Mk} (hx : NnM x) : ∀ (d j N : Nat), j + d ≤ N → (P ≠ [] → ((j + d : Nat) : Int) ≤ rN P) → (Q ≠ [] → ((j + d : Nat) : Int) ≤ rN Q) → cU (N - j) (rTake j P) (rTake j Q) (goC (rD Q) j x) = cU (N - (j + d)) (rTake ((j + d : Nat) : Int) P) (rTake ((j + d : Nat) : Int) Q) (goC (rD Q) ((j + d : Nat) : Int) x)
  | 0, _, _, _, _, _ => rfl
  | d + 1, j, N, h1, h2, h2' => by
    obtain ⟨h3, h4⟩ := row_here hs hp (j := (j : Int)) (by omega) (fun h => by have := h2 h; omega)
    obtain ⟨h5, h6⟩ := row_here hs' hq (j := (j : Int)) (by omega) (fun h => by have := h2' h; omega)
    have e : N - j = (N - (j + 1)) + 1 := by omega
    rw [e]
    show cU (N - (j + 1)) (nextR (rTake j P)) (place (rTake j P) (rTake j Q) (goC (rD Q) j x)).1 (place (rTake j P) (rTake j Q) (goC (rD Q) j x)).2 = _
    have e2 : place (rTake j P) (rTake j Q) (goC (rD Q) j x) = (rTake ((j + 1 : Nat) : Int) Q, goC (rD Q) ((j + 1 : Nat) : Int) x) := by
      unfold place
      rw [h3, hd]
      show (nextR (rTake j Q), goC (hereR (rTake j Q)).2 1 ((goC (rD Q) j x).put (hereR (rTake j Q)).1)) = _
      rw [h5, h6, put_e]
      show (_, goC (rD Q) 1 (goC (rD Q) j x)) = _
      rw [goC_one hx _ (by omega)]
      rfl
    rw [e2, h4]
    have ih := cU_goN hs hp hd hs' hq hx d (j + 1) N (by omega) (fun h => by have := h2 h; omega) (fun h => by have := h2' h; omega)
    rw [show j + 1 + d = j + (d + 1) by omega] at ih
    exact ih
theorem cU_nil : ∀ (N : Nat) (x : Mk), (cU N [] [] x).l = x.l
  | 0, x => by
    show (goC false 1 (x.put ⟨#[]⟩)).l = x.l
    rw [put_e]; rfl
  | N + 1, x => by
    show (cU N [] [] (goC false 1 (x.put ⟨#[]⟩))).l = x.l
    rw [cU_nil N, put_e]; rfl
end Go.Proofs.Ytkimbpeapolcbaa.Sy
