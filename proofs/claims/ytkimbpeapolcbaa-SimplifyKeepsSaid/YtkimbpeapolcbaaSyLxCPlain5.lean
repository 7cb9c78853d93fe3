/- Chapter 10: LxCPlain5 turned to this seat. (Printed by gsyport.py.) -/
import Derived.Test.YtkimbpeapolcbaaSyLxEdP
namespace Go.Proofs.Ytkimbpeapolcbaa.Sy
open Go.RowKit Go.Proofs.Ytkimbpeapolcbaa.Bw Go.Proofs.Ytkimbpeapolcbaa.Bs

/-- As many of the text's bytes. -/
def olds (n : Nat) : List It := List.replicate n (true, 0)
/-- Of the text's bytes, up to a place, those that an edit leaves. -/
def stayL (D : List Bool) (i : Nat) : List Nat := (List.range i).filter (fun j => !(D.getD j false))
theorem stayL_succ (D : List Bool) (i : Nat) : stayL D (i + 1) = if D.getD i false then stayL D i else stayL D i ++ [i] := by
 unfold stayL
 rw [List.range_succ, List.filter_append]
 cases h : D.getD i false
 ·rw [List.filter_cons_of_pos (by rw [h]; rfl)]
  rfl
 ·rw [List.filter_cons_of_neg (by rw [h]; decide)]
  exact List.append_nil _
/-- The document's list, from a place of the text between on. -/
def docC : List It → Vw → List Nat → Nat → ByteArray → List Pc
 | (true, _) :: r, y :: s, which :: st, last, put => if y.2 then docC r s st last (put ++ y.1) else ⟨0, (which : Int) - (last : Int), put ++ y.1⟩ :: ⟨1, 0, ⟨#[]⟩⟩ :: docC r s st (which + 1) ⟨#[]⟩
 | (false, c) :: r, y :: s, stay, last, put => if y.2 then docC r s stay last (put ++ y.1) else docC r s stay last (put ++ y.1 ++ ⟨#[c]⟩)
 | _, _, _, _, _ => []
def edV : Vw → List It
 | [] => []
 | x :: r => (bl x.1).map (fun c => (false, c)) ++ ((if x.2 then [] else [(true, 0)]) ++ edV r)
def stV : Nat → Vw → List Nat
 | _, [] => []
 | j, x :: r => if x.2 then stV (j + 1) r else j :: stV (j + 1) r
theorem edM_step {l : List Pc} (hn : Nn l) (hr : NR l) (x0 : It) (T : List It) (hx : extL l ≤ (T.length : Int) + 1) :
  edM (x0 :: T) l = (bl (hereR l).1).map (fun c => (false, c)) ++ ((if (hereR l).2 then [] else [x0]) ++ edM T (nextR l)) := by
 have keepcase : ∀ (x : Pc) (r : List Pc), 0 < x.keep → 0 ≤ x.drop → edM (x0 :: T) (x :: r) = [x0] ++ edM T ({ x with keep := x.keep - 1 } :: r) := by
  intro x r hk hd
  obtain ⟨k, hk'⟩ : ∃ k : Nat, x.keep = (k + 1 : Nat) := ⟨x.keep.toNat - 1, by omega⟩
  obtain ⟨d, hd'⟩ : ∃ d : Nat, x.drop = d := ⟨x.drop.toNat, by omega⟩
  have e1 : x.keep.toNat = k + 1 := by omega
  have e2 : (x.keep + x.drop).toNat = k + d + 1 := by omega
  have e3 : (x.keep - 1).toNat = k := by omega
  have e4 : (x.keep - 1 + x.drop).toNat = k + d := by omega
  simp only [edM, e1, e2, e3, e4, List.take_succ_cons, List.drop_succ_cons, List.cons_append, List.nil_append]
 cases l with
 | nil => rfl
 | cons x r =>
  obtain ⟨h1, h2⟩ := hn x List.mem_cons_self
  have ha : AK r := hr
  by_cases hk : 0 < x.keep
  ·have e1 : rPut (x :: r) = x :: r := if_pos hk
   have e2 : rSkip (x :: r) = x :: r := if_pos (.inl hk)
   have e3 : hereR (x :: r) = (⟨#[]⟩, false) := by
    unfold hereR
    rw [e1, e2, show rPutS (x :: r) = ⟨#[]⟩ from if_pos hk, show rD (x :: r) = false from if_pos hk]
   have e4 : nextR (x :: r) = { x with keep := x.keep - 1 } :: r := by
    unfold nextR
    rw [e1, e2]
    exact if_pos hk
   rw [e3, e4, keepcase x r hk h2]
   rfl
  ·have k0 : x.keep = 0 := by omega
   have e1 : rPut (x :: r) = { x with put := ⟨#[]⟩ } :: r := if_neg hk
   have e5 : rPutS (x :: r) = x.put := if_neg hk
   by_cases hd : 0 < x.drop
   ·have e2 : rSkip ({ x with put := ⟨#[]⟩ } :: r) = { x with put := ⟨#[]⟩ } :: r := if_pos (.inr hd)
    have e3 : hereR (x :: r) = (x.put, true) := by
     unfold hereR
     rw [e1, e2, e5, show rD ({ x with put := ⟨#[]⟩ } :: r) = true from if_neg hk]
    have e4 : nextR (x :: r) = { x with put := ⟨#[]⟩, drop := x.drop - 1 } :: r := by
     unfold nextR
     rw [e1, e2]
     exact if_neg hk
    rw [e3, e4]
    obtain ⟨d, hd'⟩ : ∃ d : Nat, x.drop = (d + 1 : Nat) := ⟨x.drop.toNat - 1, by omega⟩
    have e6 : (x.keep + x.drop).toNat = d + 1 := by omega
    have e7 : (x.keep + (x.drop - 1)).toNat = d := by omega
    have e8 : x.keep.toNat = 0 := by omega
    simp only [edM, e6, e7, e8, List.take_zero, List.drop_succ_cons, List.nil_append, if_true, bl_nil, List.map_nil]
   ·have d0 : x.drop = 0 := by omega
    have e2 : rSkip ({ x with put := ⟨#[]⟩ } :: r) = rSkip r := if_neg (by simp only; omega)
    have eo : edM (x0 :: T) (x :: r) = (bl x.put).map (fun c => (false, c)) ++ edM (x0 :: T) r := by
     simp [edM, k0, d0]
    rw [eo]
    cases r with
    | nil =>
     have e3 : hereR [x] = (x.put, false) := by
      unfold hereR
      rw [e1, e2, e5]; rfl
     have e4 : nextR [x] = [] := by
      unfold nextR
      rw [e1, e2]; rfl
     rw [e3, e4]
     rfl
    | cons y t =>
     have hy := ha y List.mem_cons_self
     have e6 : rSkip (y :: t) = y :: t := if_pos (.inl hy)
     have e3 : hereR (x :: y :: t) = (x.put, false) := by
      unfold hereR
      rw [e1, e2, e5, e6, show rD (y :: t) = false from if_pos hy]
     have e4 : nextR (x :: y :: t) = { y with keep := y.keep - 1 } :: t := by
      unfold nextR
      rw [e1, e2, e6]
      exact if_pos hy
     rw [e3, e4, keepcase y t hy (hn y (by simp)).2]
     rfl
theorem edM_view : ∀ (N : Nat) {l : List Pc}, Nn l → NR l → extL l ≤ (N : Int) → edM (olds (N + 1)) l = edV (vwF l N)
 | 0, l, hn, hr, h => by
  show edM ((true, 0) :: []) l = _
  rw [edM_step hn hr _ [] (by show extL l ≤ ((0 : Nat) : Int) + 1; omega), next_nil hn hr h]
  rfl
 | N + 1, l, hn, hr, h => by
  show edM ((true, 0) :: olds (N + 1)) l = (bl (hereR l).1).map _ ++ ((if (hereR l).2 then [] else [(true, 0)]) ++ edV (vwF (nextR l) N))
  have hl : (olds (N + 1)).length = N + 1 := List.length_replicate
  rw [edM_step hn hr _ (olds (N + 1)) (by rw [hl]; omega), edM_view N (next_nn hn) (nextR_nr hr) (nextR_zero hn N h)]
theorem stV_eq (D : List Bool) : ∀ (A : Vw) (j : Nat), (∀ i x, A[i]? = some x → D.getD (j + i) false = x.2) → (List.range' j A.length).filter (fun i => !(D.getD i false)) = stV j A
 | [], _, _ => rfl
 | x :: r, j, h => by
  have h0 := h 0 x rfl
  have ih := stV_eq D r (j + 1) (fun i y hi => by have := h (i + 1) y (by simpa using hi); rw [← this]; congr 1; omega)
  rw [List.length_cons, List.range'_succ, List.filter_cons, ih]
  rw [Nat.add_zero] at h0
  rw [h0]
  show _ = if x.2 then _ else _
  cases x.2 <;> rfl
theorem stayL_view {D : List Bool} {A : Vw} (h : A.map Prod.snd = D) : stayL D A.length = stV 0 A := by
 unfold stayL
 rw [List.range_eq_range']
 refine stV_eq D A 0 (fun i x hi => ?_)
 rw [← h, List.getD_eq_getElem?_getD, List.getElem?_map, Nat.zero_add, hi]
 rfl
theorem newR_ok : ∀ (cs : List UInt8) {q : List Pc}, Nn q → NR q → ∀ x, Nn (newR cs q x).1 ∧ NR (newR cs q x).1 ∧ extL (newR cs q x).1 ≤ extL q
 | [], _, hn, hr, _ => ⟨hn, hr, Int.le_refl _⟩
 | c :: t, q, hn, hr, x => by
  obtain ⟨a, b, d⟩ := newR_ok t (next_nn hn) (nextR_nr hr) (if (hereR q).2 then x.put (hereR q).1 else (x.put (hereR q).1).put ⟨#[c]⟩)
  exact ⟨a, b, Int.le_trans d (nextR_ext hn).1⟩
theorem put_drop_put {m : Mk} (hm : NnM m) (s u : ByteArray) {d : Int} (hd : 0 ≤ d) : ((m.put s).drop d).put u = (m.put (s ++ u)).drop d := by
 rw [drop_put (hm.put s).2 u hd, put_put hm.2]
theorem doc_new {m : Mk} (hm : NnM m) {d : Int} (hd : 0 ≤ d) (rest : List It) (stay : List Nat) (last : Nat) : ∀ (cs : List UInt8) (K : Nat) (q : List Pc) (put : ByteArray), ∃ put', docC (cs.map (fun c => (false, c)) ++ rest) (vwF q (K + cs.length)) stay last put = docC rest (vwF (newR cs q ((m.put put).drop d)).1 K) stay last put' ∧ (newR cs q ((m.put put).drop d)).2 = (m.put put').drop d
 | [], K, q, put => ⟨put, rfl, rfl⟩
 | c :: t, K, q, put => by
  obtain ⟨x', hx'⟩ : ∃ x', (if (hereR q).2 then ((m.put put).drop d).put (hereR q).1 else (((m.put put).drop d).put (hereR q).1).put ⟨#[c]⟩) = x' := ⟨_, rfl⟩
  have e1 : newR (c :: t) q ((m.put put).drop d) = newR t (nextR q) x' := by rw [← hx']; rfl
  rw [e1]
  cases hb : (hereR q).2 with
  | true =>
   rw [hb] at hx'
   have e2 : x' = (m.put (put ++ (hereR q).1)).drop d := by rw [← hx']; exact put_drop_put hm _ _ hd
   rw [e2]
   obtain ⟨p', h1, h2⟩ := doc_new hm hd rest stay last t K (nextR q) (put ++ (hereR q).1)
   refine ⟨p', ?_, h2⟩
   rw [← h1]
   show (if (hereR q).2 then _ else _) = _
   rw [hb]
   rfl
  | false =>
   rw [hb] at hx'
   have e2 : x' = (m.put (put ++ (hereR q).1 ++ ⟨#[c]⟩)).drop d := by
    rw [← hx']
    show (((m.put put).drop d).put (hereR q).1).put ⟨#[c]⟩ = _
    rw [put_drop_put hm _ _ hd, put_drop_put hm _ _ hd]
   rw [e2]
   obtain ⟨p', h1, h2⟩ := doc_new hm hd rest stay last t K (nextR q) (put ++ (hereR q).1 ++ ⟨#[c]⟩)
   refine ⟨p', ?_, h2⟩
   rw [← h1]
   show (if (hereR q).2 then _ else _) = _
   rw [hb]
   rfl
theorem piece_both (m : Mk) (s : ByteArray) (d : Int) : m.piece ⟨0, d, s⟩ = (m.put s).drop d := by
 rw [Mk.piece_eq]
 show ((m.more 0).put s).drop d = _
 rw [more_zero]
theorem doc_cU : ∀ (N : Nat) (p q : List Pc) (K : Nat) (m : Mk) (put : ByteArray) (last j : Nat), NnM m → Nn p → NR p → Nn q → NR q → extL p + extL q ≤ (N : Int) → (edV (vwF p N)).length ≤ K → last ≤ j →
  m.pieces (docC (edV (vwF p N)) (vwF q K) (stV j (vwF p N)) last put) = cU N p q ((m.put put).drop ((j : Int) - (last : Int))) := by
 intro N
 induction N with
 | zero =>
  intro p q K m put last j hm np rp nq rq he hK hl
  have x1 := (extL_nn np).1
  have x2 := (extL_nn nq).1
  have hf := here_flag np (by omega : extL p ≤ 0)
  have e1 : edV (vwF p 0) = (bl (hereR p).1).map (fun c => (false, c)) ++ [(true, 0)] := by
   show _ ++ ((if (hereR p).2 then _ else _) ++ []) = _
   rw [hf]; rfl
  have e2 : stV j (vwF p 0) = [j] := by
   show (if (hereR p).2 then _ else _) = _
   rw [hf]; rfl
  rw [e1, List.length_append, List.length_map, List.length_singleton] at hK
  obtain ⟨K', rfl⟩ : ∃ K', K = (K' + 1) + (bl (hereR p).1).length := ⟨K - 1 - (bl (hereR p).1).length, by omega⟩
  obtain ⟨put', h1, h2⟩ := doc_new hm (d := (j : Int) - (last : Int)) (by omega) [(true, 0)] [j] last (bl (hereR p).1) (K' + 1) q put
  obtain ⟨n1, n2, n3⟩ := newR_ok (bl (hereR p).1) nq rq ((m.put put).drop ((j : Int) - (last : Int)))
  rw [e1, e2, h1]
  show _ = (place p q ((m.put put).drop ((j : Int) - (last : Int)))).2
  unfold place
  rw [h2, hf]
  generalize (newR (bl (hereR p).1) q ((m.put put).drop ((j : Int) - (last : Int)))).1 = q' at *
  have hf' := here_flag n1 (by omega : extL q' ≤ 0)
  show m.pieces (if (hereR q').2 then _ else _) = goC (hereR q').2 1 (((m.put put').drop ((j : Int) - (last : Int))).put (hereR q').1)
  rw [hf', put_drop_put hm _ _ (by omega)]
  show (m.piece ⟨0, (j : Int) - (last : Int), put' ++ (hereR q').1⟩).piece ⟨1, 0, ⟨#[]⟩⟩ = _
  rw [piece_both, piece_keep]
  rfl
 | succ N ih =>
  intro p q K m put last j hm np rp nq rq he hK hl
  have x1 := (extL_nn np).1
  have x2 := (extL_nn nq).1
  have e1 : edV (vwF p (N + 1)) = (bl (hereR p).1).map (fun c => (false, c)) ++ ((if (hereR p).2 then [] else [(true, 0)]) ++ edV (vwF (nextR p) N)) := rfl
  have e2 : stV j (vwF p (N + 1)) = if (hereR p).2 then stV (j + 1) (vwF (nextR p) N) else j :: stV (j + 1) (vwF (nextR p) N) := rfl
  rw [e1, List.length_append, List.length_map, List.length_append] at hK
  obtain ⟨K', rfl⟩ : ∃ K', K = K' + (bl (hereR p).1).length := ⟨K - (bl (hereR p).1).length, by omega⟩
  obtain ⟨put', h1, h2⟩ := doc_new hm (d := (j : Int) - (last : Int)) (by omega) ((if (hereR p).2 then [] else [(true, 0)]) ++ edV (vwF (nextR p) N)) (stV j (vwF p (N + 1))) last (bl (hereR p).1) K' q put
  obtain ⟨n1, n2, n3⟩ := newR_ok (bl (hereR p).1) nq rq ((m.put put).drop ((j : Int) - (last : Int)))
  obtain ⟨p1, p2⟩ := nextR_ext np
  rw [e1, h1, e2]
  show _ = cU N (nextR p) (place p q ((m.put put).drop ((j : Int) - (last : Int)))).1 (place p q ((m.put put).drop ((j : Int) - (last : Int)))).2
  unfold place
  rw [h2]
  generalize (newR (bl (hereR p).1) q ((m.put put).drop ((j : Int) - (last : Int)))).1 = q' at *
  cases hd : (hereR p).2 with
  | true =>
   have hpos : 0 < extL p := by
    rcases Int.lt_or_le 0 (extL p) with h | h
    ·exact h
    ·have := here_flag np h; rw [hd] at this; cases this
   have hp := p2 hpos rp
   rw [hd] at hK
   have := ih (nextR p) q' K' m put' last (j + 1) hm (next_nn np) (nextR_nr rp) n1 n2 (by omega) (by simp only [if_true, List.length_nil] at hK; omega) (by omega)
   show m.pieces (docC (edV (vwF (nextR p) N)) (vwF q' K') (stV (j + 1) (vwF (nextR p) N)) last put') = cU N (nextR p) q' (((m.put put').drop ((j : Int) - (last : Int))).drop 1)
   rw [this, drop_drop' (hm.put put').2 (by omega) (show (0 : Int) ≤ 1 by decide)]
   congr 2
   omega
  | false =>
   rw [hd] at hK
   have hK1 : 1 + (edV (vwF (nextR p) N)).length ≤ K' := by
    simp only [Bool.false_eq_true, if_false, List.length_singleton] at hK
    omega
   obtain ⟨K'', rfl⟩ : ∃ K'', K' = K'' + 1 := ⟨K' - 1, by omega⟩
   obtain ⟨q1, q2⟩ := nextR_ext n1
   have x3 := (extL_nn n1).1
   have hsum : extL (nextR p) + extL (nextR q') ≤ (N : Int) := by
    rcases Int.lt_or_le 0 (extL p) with h | h
    ·have := p2 h rp; omega
    ·rcases Int.lt_or_le 0 (extL q') with h' | h'
     ·have := q2 h' n2; omega
     ·omega
   have hpd := put_drop_put hm put' (hereR q').1 (d := (j : Int) - (last : Int)) (by omega)
   show m.pieces (if (hereR q').2 then docC (edV (vwF (nextR p) N)) (vwF (nextR q') K'') (stV (j + 1) (vwF (nextR p) N)) last (put' ++ (hereR q').1) else ⟨0, (j : Int) - (last : Int), put' ++ (hereR q').1⟩ :: ⟨1, 0, ⟨#[]⟩⟩ :: docC (edV (vwF (nextR p) N)) (vwF (nextR q') K'') (stV (j + 1) (vwF (nextR p) N)) (j + 1) ⟨#[]⟩) = cU N (nextR p) (nextR q') (goC (hereR q').2 1 (((m.put put').drop ((j : Int) - (last : Int))).put (hereR q').1))
   rw [hpd]
   cases hq : (hereR q').2 with
   | true =>
    have := ih (nextR p) (nextR q') K'' m (put' ++ (hereR q').1) last (j + 1) hm (next_nn np) (nextR_nr rp) (next_nn n1) (nextR_nr n2) hsum (by omega) (by omega)
    show m.pieces (docC (edV (vwF (nextR p) N)) (vwF (nextR q') K'') (stV (j + 1) (vwF (nextR p) N)) last (put' ++ (hereR q').1)) = cU N (nextR p) (nextR q') (((m.put (put' ++ (hereR q').1)).drop ((j : Int) - (last : Int))).drop 1)
    rw [this, drop_drop' (hm.put _).2 (by omega) (show (0 : Int) ≤ 1 by decide)]
    congr 2
    omega
   | false =>
    have hm' : NnM (((m.put (put' ++ (hereR q').1)).drop ((j : Int) - (last : Int))).more 1) := ((hm.put _).drop _).more (by decide)
    have := ih (nextR p) (nextR q') K'' (((m.put (put' ++ (hereR q').1)).drop ((j : Int) - (last : Int))).more 1) ⟨#[]⟩ (j + 1) (j + 1) hm' (next_nn np) (nextR_nr rp) (next_nn n1) (nextR_nr n2) hsum (by omega) (by omega)
    show ((m.piece ⟨0, (j : Int) - (last : Int), put' ++ (hereR q').1⟩).piece ⟨1, 0, ⟨#[]⟩⟩).pieces (docC (edV (vwF (nextR p) N)) (vwF (nextR q') K'') (stV (j + 1) (vwF (nextR p) N)) (j + 1) ⟨#[]⟩) = _
    rw [piece_both, piece_keep, this, put_e, show (((j + 1 : Nat) : Int) - ((j + 1 : Nat) : Int)) = 0 by omega, drop_zero_]
    rfl
/-- What the walk makes is what the document makes. -/
theorem coX_doc {a b : List Pc} (ha : Nn a) (hb : Nn b) (N : Nat) (h : extL (normL a) + extL (normL b) ≤ (N : Int)) (mid : List It) (hm : edM (olds (N + 1)) (normL a) = mid) :
  (coX a b).l = normL (docC mid (vwF (normL b) mid.length) (stayL ((vwF (normL a) N).map Prod.snd) (N + 1)) 0 ⟨#[]⟩) := by
 have na := normL_nn ha
 have nb := normL_nn hb
 have ra := NR.normL a
 have rb := NR.normL b
 have x2 := (extL_nn nb).1
 rw [edM_view N na ra (by omega)] at hm
 have hst := stayL_view (A := vwF (normL a) N) rfl
 rw [vwF_len] at hst
 rw [coX_eq ha hb N h, hst, ← hm]
 have := doc_cU N (normL a) (normL b) (edV (vwF (normL a) N)).length ⟨[], 0⟩ ⟨#[]⟩ 0 0 NnM.zero na ra nb rb h (Nat.le_refl _) (Nat.le_refl _)
 unfold normL at *
 rw [this, put_e]
 rfl
theorem new_app (S0 : Ap) (T : List UInt8) (R : List UInt8) : ∀ (cs : List UInt8) {q : List Pc} {x : Mk} (acc : List UInt8), NnM x → Nn q → NR q → runM S0 x = (acc, T) → extL q ≤ ((cs ++ R).length : Int) →
  ∃ acc', runM S0 (newR cs q x).2 = (acc', T) ∧ acc ++ outL (runL ([], cs ++ R) q) = acc' ++ outL (runL ([], R) (newR cs q x).1) ∧ extM (newR cs q x).2 = extM x ∧ NnM (newR cs q x).2 ∧ extL (newR cs q x).1 ≤ (R.length : Int)
 | [], q, x, acc, hx, _, _, h, he => ⟨acc, h, rfl, rfl, hx, he⟩
 | c :: t, q, x, acc, hx, hn, hr, h, he => by
  have hput : ∀ (y : Mk) (a u : List UInt8) (v : ByteArray), NnM y → runM S0 y = (a, u) → runM S0 (y.put v) = (a ++ bl v, u) := by
   intro y a u v hy hz
   rw [runM_put _ hy.2, hz]
   simp [stepL]
  have e1 : newR (c :: t) q x = newR t (nextR q) (if (hereR q).2 then x.put (hereR q).1 else (x.put (hereR q).1).put ⟨#[c]⟩) := rfl
  rw [e1]
  have hstep := out_step hn hr (c :: t ++ R) he
  have he' : extL (nextR q) ≤ ((t ++ R).length : Int) := nextR_zero hn _ (by simpa using he)
  have h1 := hput x acc T (hereR q).1 hx h
  cases hb : (hereR q).2 with
  | true =>
   obtain ⟨acc', a1, a2, a3, a4, a5⟩ := new_app S0 T R t (x := x.put (hereR q).1) (acc ++ bl (hereR q).1) (hx.put _) (next_nn hn) (nextR_nr hr) h1 he'
   refine ⟨acc', a1, ?_, by rw [← extM_put x (hereR q).1]; exact a3, a4, a5⟩
   rw [hstep, hb]
   show acc ++ (bl (hereR q).1 ++ [] ++ outL (runL ([], t ++ R) (nextR q))) = _
   rw [List.append_nil, ← List.append_assoc, a2]
   rfl
  | false =>
   have h2 := hput (x.put (hereR q).1) _ T ⟨#[c]⟩ (hx.put _) h1
   obtain ⟨acc', a1, a2, a3, a4, a5⟩ := new_app S0 T R t (x := (x.put (hereR q).1).put ⟨#[c]⟩) (acc ++ bl (hereR q).1 ++ bl ⟨#[c]⟩) ((hx.put _).put _) (next_nn hn) (nextR_nr hr) h2 he'
   refine ⟨acc', a1, ?_, by rw [← extM_put x (hereR q).1, ← extM_put (x.put (hereR q).1) ⟨#[c]⟩]; exact a3, a4, a5⟩
   rw [hstep, hb]
   show acc ++ (bl (hereR q).1 ++ [c] ++ outL (runL ([], t ++ R) (nextR q))) = _
   rw [← List.append_assoc, ← List.append_assoc]
   exact a2
theorem vApp_none : ∀ (N : Nat) (T : List UInt8), vApp (vwF [] N) T = T
 | 0, T => by
  show [] ++ hdT false T ++ T.tail = T
  exact hd_tail T
 | N + 1, T => by
  show [] ++ hdT false T ++ vApp (vwF [] N) T.tail = T
  rw [vApp_none N]
  exact hd_tail T
theorem outM (s : Ap) (m : Mk) : outL (runM s m) = outL (runL s m.l) := outL_keep _ _
theorem extM_le {m : Mk} (h : NnM m) : extL m.l ≤ extM m := by have := h.2; unfold extM; omega
theorem cU_app (S0 : Ap) : ∀ (N : Nat) (p q : List Pc) (x : Mk) (acc T : List UInt8), NnM x → Nn p → NR p → Nn q → NR q → runM S0 x = (acc, T) → extL p ≤ (T.length : Int) → extL p + extL q ≤ (N : Int) → extL q ≤ ((vApp (vwF p N) T).length : Int) →
  outL (runL S0 (cU N p q x).l) = acc ++ outL (runL ([], vApp (vwF p N) T) q) ∧ extL (cU N p q x).l ≤ extM x + T.length := by
 have hput : ∀ (y : Mk) (a u : List UInt8) (v : ByteArray), NnM y → runM S0 y = (a, u) → runM S0 (y.put v) = (a ++ bl v, u) := by
  intro y a u v hy hz
  rw [runM_put _ hy.2, hz]
  simp [stepL]
 intro N
 induction N with
 | zero =>
  intro p q x acc T hx np rp nq rq hr hp hs hq
  have x1 := (extL_nn np).1
  have x2 := (extL_nn nq).1
  have hf := here_flag np (by omega : extL p ≤ 0)
  have ev : vApp (vwF p 0) T = bl (hereR p).1 ++ T := by
   show bl (hereR p).1 ++ hdT (hereR p).2 T ++ T.tail = _
   rw [hf, List.append_assoc, hd_tail]
  rw [ev] at hq ⊢
  obtain ⟨acc', a1, a2, a3, a4, a5⟩ := new_app S0 T T (bl (hereR p).1) acc hx nq rq hr hq
  obtain ⟨n1, n2, n3⟩ := newR_ok (bl (hereR p).1) nq rq x
  rw [a2]
  show outL (runL S0 (place p q x).2.l) = _ ∧ extL (place p q x).2.l ≤ _
  unfold place
  rw [hf]
  generalize (newR (bl (hereR p).1) q x).1 = q' at *
  generalize (newR (bl (hereR p).1) q x).2 = x' at *
  have hf' := here_flag n1 (by omega : extL q' ≤ 0)
  have hn' := next_nil n1 n2 (by omega)
  show outL (runL S0 (goC (hereR q').2 1 (x'.put (hereR q').1)).l) = _ ∧ extL (goC (hereR q').2 1 (x'.put (hereR q').1)).l ≤ _
  rw [hf']
  show outL (runL S0 (x'.put (hereR q').1).l) = _ ∧ extL (x'.put (hereR q').1).l ≤ _
  constructor
  ·rw [← outM, hput x' acc' T _ a4 a1, out_step n1 n2 T (by omega), hf', hn']
   show acc' ++ bl (hereR q').1 ++ T = acc' ++ (bl (hereR q').1 ++ hdT false T ++ ([] ++ T.tail))
   rw [List.nil_append, List.append_assoc (bl (hereR q').1), hd_tail, List.append_assoc]
  ·have := extM_le (a4.put (hereR q').1)
   rw [extM_put, a3] at this
   omega
 | succ N ih =>
  intro p q x acc T hx np rp nq rq hr hp hs hq
  have x1 := (extL_nn np).1
  have x2 := (extL_nn nq).1
  obtain ⟨R, hR⟩ : ∃ R, hdT (hereR p).2 T ++ vApp (vwF (nextR p) N) T.tail = R := ⟨_, rfl⟩
  have ev : vApp (vwF p (N + 1)) T = bl (hereR p).1 ++ R := by
   show bl (hereR p).1 ++ hdT (hereR p).2 T ++ vApp (vwF (nextR p) N) T.tail = _
   rw [List.append_assoc, hR]
  rw [ev] at hq ⊢
  obtain ⟨acc', a1, a2, a3, a4, a5⟩ := new_app S0 T R (bl (hereR p).1) acc hx nq rq hr hq
  obtain ⟨n1, n2, n3⟩ := newR_ok (bl (hereR p).1) nq rq x
  obtain ⟨p1, p2⟩ := nextR_ext np
  rw [a2]
  show outL (runL S0 (cU N (nextR p) (place p q x).1 (place p q x).2).l) = _ ∧ extL (cU N (nextR p) (place p q x).1 (place p q x).2).l ≤ _
  unfold place
  generalize (newR (bl (hereR p).1) q x).1 = q' at *
  generalize (newR (bl (hereR p).1) q x).2 = x' at *
  have x3 := (extL_nn n1).1
  obtain ⟨q1, q2⟩ := nextR_ext n1
  cases hd : (hereR p).2 with
  | true =>
   have hpos : 0 < extL p := by
    rcases Int.lt_or_le 0 (extL p) with h | h
    ·exact h
    ·have := here_flag np h; rw [hd] at this; cases this
   have hp' := p2 hpos rp
   rw [hd] at hR
   have hR' : R = vApp (vwF (nextR p) N) T.tail := by rw [← hR]; cases T <;> rfl
   show outL (runL S0 (cU N (nextR p) q' (x'.drop 1)).l) = _ ∧ extL (cU N (nextR p) q' (x'.drop 1)).l ≤ _
   have hrun : runM S0 (x'.drop 1) = (acc', T.tail) := by
    rw [runM_drop _ a4 (by decide), a1]
    cases T <;> simp [stepL, bl_nil]
   have hT : T.tail.length = T.length - 1 := List.length_tail
   obtain ⟨i1, i2⟩ := ih (nextR p) q' (x'.drop 1) acc' T.tail (a4.drop 1) (next_nn np) (nextR_nr rp) n1 n2 hrun (by omega) (by omega) (by rw [← hR']; exact a5)
   rw [← hR'] at i1
   refine ⟨i1, ?_⟩
   rw [extM_drop _ _ (by decide), a3] at i2
   omega
  | false =>
   rw [hd] at hR
   have hsum : extL (nextR p) + extL (nextR q') ≤ (N : Int) := by
    rcases Int.lt_or_le 0 (extL p) with h | h
    ·have := p2 h rp; omega
    ·rcases Int.lt_or_le 0 (extL q') with h' | h'
     ·have := q2 h' n2; omega
     ·omega
   have hrun1 := hput x' acc' T (hereR q').1 a4 a1
   have a6 := a4.put (hereR q').1
   have a7 : extM (x'.put (hereR q').1) = extM x := by rw [extM_put, a3]
   show outL (runL S0 (cU N (nextR p) (nextR q') (goC (hereR q').2 1 (x'.put (hereR q').1))).l) = _ ∧ extL (cU N (nextR p) (nextR q') (goC (hereR q').2 1 (x'.put (hereR q').1))).l ≤ _
   generalize x'.put (hereR q').1 = x2 at *
   cases T with
   | nil =>
    simp only [List.length_nil] at hp
    have en := next_nil np rp (by omega : extL p ≤ 0)
    rw [en] at hR ⊢
    have hR' : R = [] := by rw [← hR]; exact vApp_none N []
    rw [hR'] at a5 ⊢
    simp only [List.length_nil] at a5
    have hf' := here_flag n1 a5
    have en' := next_nil n1 n2 a5
    rw [en', hf']
    show outL (runL S0 (cU N [] [] (x2.more 1)).l) = _ ∧ extL (cU N [] [] (x2.more 1)).l ≤ _
    rw [cU_nil]
    show outL (runL S0 x2.l) = _ ∧ extL x2.l ≤ _
    constructor
    ·rw [← outM, hrun1, out_step n1 n2 [] a5, hf', en']
     show acc' ++ bl (hereR q').1 ++ [] = acc' ++ (bl (hereR q').1 ++ [] ++ ([] ++ []))
     simp
    ·have := extM_le a6
     rw [a7] at this
     omega
   | cons c T =>
    have hR' : R = c :: vApp (vwF (nextR p) N) T := by rw [← hR]; rfl
    rw [hR'] at a5 ⊢
    rw [out_step n1 n2 _ a5]
    simp only [List.length_cons] at a5 hp
    have hrun2 : runM S0 (goC (hereR q').2 1 x2) = (acc' ++ bl (hereR q').1 ++ hdT (hereR q').2 (c :: vApp (vwF (nextR p) N) T), T) ∧ NnM (goC (hereR q').2 1 x2) ∧ extM (goC (hereR q').2 1 x2) = extM x + 1 := by
     cases (hereR q').2 with
     | true =>
      refine ⟨?_, a6.drop 1, ?_⟩
      ·show runM S0 (x2.drop 1) = _
       rw [runM_drop _ a6 (by decide), hrun1]
       simp [stepL, bl_nil, hdT]
      ·show extM (x2.drop 1) = _
       rw [extM_drop _ _ (by decide), a7]
     | false =>
      refine ⟨?_, a6.more (by decide), ?_⟩
      ·show runM S0 (x2.more 1) = _
       rw [runM_more _ _ a6.2 (by decide), hrun1]
       simp [stepL, bl_nil, hdT]
      ·show extM (x2.more 1) = _
       rw [extM_more, a7]
    obtain ⟨r1, r2, r3⟩ := hrun2
    have hpe := nextR_zero np T.length (by omega)
    obtain ⟨i1, i2⟩ := ih (nextR p) (nextR q') (goC (hereR q').2 1 x2) _ T r2 (next_nn np) (nextR_nr rp) (next_nn n1) (nextR_nr n2) r1 hpe hsum (nextR_zero n1 _ (by omega))
    refine ⟨?_, ?_⟩
    ·rw [i1]
     simp only [List.append_assoc, List.tail_cons]
    ·rw [r3] at i2
     simp only [List.length_cons]
     omega
/-- The composed edit does what both do one behind the other. -/
theorem co_both {t : ByteArray} {a b : List Pc} (hc : coE a b = 0) (ha : apE t a = 0) (hb : apE (apS t a) b = 0) : apE t (coL a b) = 0 ∧ apS t (coL a b) = apS (apS t a) b := by
 obtain ⟨a1, a2⟩ := apE_ok ha
 obtain ⟨b1, b2⟩ := apE_ok hb
 obtain ⟨na, _, _⟩ := right_nn a1
 obtain ⟨nb, _, _⟩ := right_nn b1
 have ma := normL_nn na
 have mb := normL_nn nb
 have ra := NR.normL a
 have rb := NR.normL b
 have xa := normL_ext na
 have xb := normL_ext nb
 have ya := (extL_nn ma).1
 have yb := (extL_nn mb).1
 have eL : coL a b = (coX a b).l := by unfold coL; rw [if_pos hc]
 have hr : pcsRight (coX a b).l = true := by
  unfold coE at hc
  rw [a1, b1] at hc
  cases h : pcsRight (coX a b).l with
  | true => rfl
  | false => rw [h] at hc; exact absurd hc (by decide)
 obtain ⟨N, hN⟩ : ∃ N : Nat, extL (normL a) + extL (normL b) = N := ⟨(extL (normL a) + extL (normL b)).toNat, by omega⟩
 have hv := out_view N (bl t) ma ra (by omega) (by rw [bl_len]; omega)
 have eS : bl (apS t a) = vApp (vwF (normL a) N) (bl t) := by
  rw [apS_ok ha, bl_apply, ← hv, run_normL _ na]
 have hlen : ((vApp (vwF (normL a) N) (bl t)).length : Int) = (apS t a).size := by rw [← eS, bl_len]
 obtain ⟨c1, c2⟩ := cU_app ([], bl t) N (normL a) (normL b) ⟨[], 0⟩ [] (bl t) NnM.zero ma ra mb rb (stepL_zero _) (by rw [bl_len]; omega) (by omega) (by rw [hlen]; omega)
 rw [← coX_eq na nb N (by omega)] at c1 c2
 rw [eL]
 have e0 : apE t (coX a b).l = 0 := by
  unfold apE
  rw [hr, if_pos rfl]
  refine if_pos ?_
  rw [bl_len] at c2
  have : extM ⟨[], 0⟩ = 0 := rfl
  omega
 refine ⟨e0, ?_⟩
 rw [apS_ok e0, apS_ok hb]
 apply bl_inj
 rw [bl_apply, bl_apply, c1, eS, ← run_normL _ nb]
 rfl
end Go.Proofs.Ytkimbpeapolcbaa.Sy
