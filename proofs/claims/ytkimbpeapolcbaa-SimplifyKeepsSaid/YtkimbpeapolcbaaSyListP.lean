/- Chapter 10: the document's list is the program's; it is its own list; its weight. Plain. -/
import Derived.Test.YtkimbpeapolcbaaSyListD
import Derived.Test.YtkimbpeapolcbaaSyLxPlainA
import Derived.Test.YtkimbpeapolcbaaSyIdle
import Derived.Test.YtkimbpeapolcbaaSyLxCPlain2
namespace Go.Proofs.Ytkimbpeapolcbaa.Sy
open Go.RowKit Go.Proofs.Ytkimbpeapolcbaa.Bw Go.Proofs.Ytkimbpeapolcbaa.Bs

/-! ### What the document does -/
def docR : Nat → List OpD → Nat → List OpD
 | 0, row, _ => row
 | k + 1, row, i => match row[i]?, row[i + 1]? with
  | some x, some y => match pairD x y with
   | none => docR k row (i + 1)
   | some l => docR k (row.take i ++ l ++ row.drop (i + 2)) 0
  | _, _ => row
/-- From the place i on the document comes to fin. -/
def Doc (row : List OpD) (i : Nat) (fin : List OpD) : Prop := ∃ k0, ∀ k, k0 ≤ k → docR k row i = fin
theorem Doc.det {row : List OpD} {i : Nat} {a b : List OpD} (h : Doc row i a) (k : Doc row i b) : a = b := by
 obtain ⟨k1, h1⟩ := h
 obtain ⟨k2, h2⟩ := k
 rw [← h1 (max k1 k2) (Nat.le_max_left _ _), h2 (max k1 k2) (Nat.le_max_right _ _)]
theorem Doc.fin {row : List OpD} {i : Nat} (h : row.length ≤ i + 1) : Doc row i row := by
 refine ⟨0, fun k _ => ?_⟩
 cases k with
 | zero => rfl
 | succ k =>
  have : row[i + 1]? = none := List.getElem?_eq_none h
  unfold docR
  rw [this]
  cases row[i]? <;> rfl
theorem Doc.next {row : List OpD} {i : Nat} {x y : OpD} {fin : List OpD} (hx : row[i]? = some x) (hy : row[i + 1]? = some y) (hp : pairD x y = none) (h : Doc row (i + 1) fin) : Doc row i fin := by
 obtain ⟨k0, h⟩ := h
 refine ⟨k0 + 1, fun k hk => ?_⟩
 obtain ⟨j, rfl⟩ : ∃ j, k = j + 1 := ⟨k - 1, by omega⟩
 unfold docR
 rw [hx, hy]
 simp only [hp]
 exact h j (by omega)
theorem Doc.less {row : List OpD} {i : Nat} {x y : OpD} {l fin : List OpD} (hx : row[i]? = some x) (hy : row[i + 1]? = some y) (hp : pairD x y = some l) (h : Doc (row.take i ++ l ++ row.drop (i + 2)) 0 fin) : Doc row i fin := by
 obtain ⟨k0, h⟩ := h
 refine ⟨k0 + 1, fun k hk => ?_⟩
 obtain ⟨j, rfl⟩ : ∃ j, k = j + 1 := ⟨k - 1, by omega⟩
 unfold docR
 rw [hx, hy]
 simp only [hp]
 exact h j (by omega)
/-- No two neighbours (the last one first) can be made fewer. -/
def Irr : List OpD → Prop
 | y :: x :: r => pairD x y = none ∧ Irr (x :: r)
 | _ => True
theorem Irr.tail {y : OpD} {r : List OpD} (h : Irr (y :: r)) : Irr r := by
 cases r with
 | nil => trivial
 | cons x r => exact h.2
theorem Irr.skip : ∀ {s : List OpD}, Irr s → ∀ (m fin : List OpD), Doc (s.reverse ++ m) (s.length - 1) fin → Doc (s.reverse ++ m) 0 fin
 | [], _, _, _, h => h
 | [x], _, _, _, h => h
 | y :: x :: r, hi, m, fin, h => by
  have e : (y :: x :: r).reverse ++ m = (x :: r).reverse ++ (y :: m) := by simp
  rw [e] at h ⊢
  refine Irr.skip hi.2 (y :: m) fin ?_
  have h1 : ((x :: r).reverse ++ (y :: m))[r.length]? = some x := by simp
  have h2 : ((x :: r).reverse ++ (y :: m))[r.length + 1]? = some y := by
   rw [List.getElem?_append_right (by simp)]
   simp
  exact Doc.next h1 h2 hi.1 h
theorem redF_irr (k : Nat) : ∀ {s : List OpD}, Irr s → redF k s = s
 | [], _ => redF_small k (by simp)
 | [y], _ => redF_small k (by simp)
 | y :: x :: r, h => by
  cases k with
  | zero => unfold redF; rfl
  | succ k => rw [redF_two, h.1]; rfl
theorem pairD_len {a b : OpD} {l : List OpD} (h : pairD a b = some l) : l = [] ∨ ∃ z, l = [z] := by
 unfold pairD at h
 split at h
 ·unfold pairT at h
  split at h
  ·cases h; exact .inl rfl
  ·split at h
   ·cases h; exact .inr ⟨_, rfl⟩
   ·split at h
    ·unfold pairS at h
     split at h
     ·cases h; exact .inr ⟨_, rfl⟩
     ·split at h
      ·split at h
       ·cases h; exact .inr ⟨_, rfl⟩
       ·cases h
      ·split at h
       ·split at h
        ·split at h
         ·cases h; exact .inl rfl
         ·cases h; exact .inr ⟨_, rfl⟩
        ·cases h
       ·cases h
    ·cases h
 ·cases h
/-- One operation is laid on. -/
theorem red_push : ∀ (s : List OpD) (o : OpD), Irr s → Irr (redF (s.length + 1) (o :: s)) ∧ ∀ (m fin : List OpD), Doc ((redF (s.length + 1) (o :: s)).reverse ++ m) 0 fin → Doc (s.reverse ++ o :: m) 0 fin
 | [], o, _ => by
  rw [redF_small _ (by simp)]
  exact ⟨trivial, fun m fin h => by simpa using h⟩
 | x :: r, o, hi => by
  rw [List.length_cons, redF_two]
  cases hp : pairD x o with
  | none => exact ⟨⟨hp, hi⟩, fun m fin h => by simpa [redO] using h⟩
  | some l =>
   have key : ∀ (m fin : List OpD), Doc (r.reverse ++ l ++ m) 0 fin → Doc ((x :: r).reverse ++ o :: m) 0 fin := fun m fin h => by
    refine Irr.skip hi (o :: m) fin ?_
    rw [show (x :: r).length - 1 = r.length by simp]
    have h1 : ((x :: r).reverse ++ (o :: m))[r.length]? = some x := by simp
    have h2 : ((x :: r).reverse ++ (o :: m))[r.length + 1]? = some o := by
     rw [List.getElem?_append_right (by simp)]
     simp
    refine Doc.less h1 h2 hp ?_
    have e : ((x :: r).reverse ++ (o :: m)).take r.length ++ l ++ ((x :: r).reverse ++ (o :: m)).drop (r.length + 2) = r.reverse ++ l ++ m := by
     have e1 : (x :: r).reverse ++ (o :: m) = r.reverse ++ (x :: o :: m) := by simp
     rw [e1, List.take_append_of_le_length (by simp), List.take_of_length_le (by simp), List.drop_append]
     simp
    rw [e]
    exact h
   show Irr (redF (r.length + 1) (l.reverse ++ r)) ∧ _
   rcases pairD_len hp with rfl | ⟨z, rfl⟩
   ·show Irr (redF (r.length + 1) r) ∧ ∀ m fin, Doc ((redF (r.length + 1) r).reverse ++ m) 0 fin → _
    rw [redF_irr _ hi.tail]
    exact ⟨hi.tail, fun m fin h => key m fin (by simpa using h)⟩
   ·obtain ⟨h1, h2⟩ := red_push r z hi.tail
    exact ⟨h1, fun m fin h => key m fin (by simpa using h2 m fin h)⟩
/-- The rest of a list is laid on, one behind the other. -/
def layD (s m : List OpD) : List OpD := m.foldl (fun s o => redF (s.length + 1) (o :: s)) s
theorem lay_doc : ∀ (m s : List OpD), Irr s → Irr (layD s m) ∧ Doc (s.reverse ++ m) 0 (layD s m).reverse
 | [], s, h => by
  refine ⟨h, ?_⟩
  show Doc (s.reverse ++ []) 0 s.reverse
  have := Irr.skip h [] s.reverse (by rw [List.append_nil]; exact Doc.fin (by rw [List.length_reverse]; omega))
  simpa using this
 | o :: m, s, h => by
  obtain ⟨h1, h2⟩ := red_push s o h
  obtain ⟨h3, h4⟩ := lay_doc m _ h1
  exact ⟨h3, h2 m _ h4⟩
/-- What is not idle, bare. -/
def rowD (l : List OpD) : List OpD := (l.filter (fun o => !idleD o)).map bareD
theorem rowD_cons (o : OpD) (l : List OpD) : rowD (o :: l) = if idleD o then rowD l else bareD o :: rowD l := by
 unfold rowD
 cases h : idleD o <;> simp [h]
theorem steps_lay : ∀ (l s : List OpD), stepsD s l = layD s (rowD l)
 | [], s => rfl
 | o :: l, s => by
  rw [stepsD_cons, rowD_cons, steps_lay l]
  unfold stepD
  cases idleD o <;> rfl
/-- The document's list is the program's. -/
theorem list_doc (l : List OpD) : Irr (stepsD [] l) ∧ Doc (rowD l) 0 (listD l) := by
 have := lay_doc (rowD l) [] trivial
 rw [← steps_lay] at this
 exact this

/-! ### It is its own list -/
/-- An operation that stays: not idle, bare. -/
def Stay (o : OpD) : Prop := idleD o = false ∧ bareD o = o
theorem bare_stay {o : OpD} (h : idleD o = false) : Stay (bareD o) := ⟨by rw [idle_bare]; exact h, bareD_bare o⟩
theorem idle_kind {o : OpD} (h6 : o.kind ≠ 6) (h3 : o.kind ≠ 3) : idleD o = false := by
 unfold idleD
 rw [if_neg h6, if_neg h3, Bool.and_false]
def GoodP (l : List Pc) : Prop := ∀ p ∈ l, 0 < p.put.size ∨ 0 < p.drop
theorem good_put {m : Mk} (h : GoodP m.l) (s : ByteArray) : GoodP (m.put s).l := by
 unfold Mk.put
 split
 ·next hs =>
  unfold Mk.last
  split
  ·show GoodP (onLast _ (m.l ++ [_]))
   rw [onLast_snoc]
   intro p hp
   rcases List.mem_append.1 hp with hp | hp
   ·exact h p hp
   ·rw [List.mem_singleton] at hp
    subst hp
    left
    show 0 < (ByteArray.empty ++ s).size
    rw [ByteArray.size_append]
    omega
  ·refine onLast_all (P := fun p => 0 < p.put.size ∨ 0 < p.drop) (fun p hp => ?_) _ h
   rcases hp with hp | hp
   ·left
    show 0 < (p.put ++ s).size
    rw [ByteArray.size_append]
    omega
   ·exact .inr hp
 ·exact h
theorem good_drop {m : Mk} (h : GoodP m.l) (hd : ∀ p ∈ m.l, 0 ≤ p.drop) (n : Int) : GoodP (m.drop n).l := by
 unfold Mk.drop
 split
 ·next hn =>
  unfold Mk.last
  split
  ·show GoodP (onLast _ (m.l ++ [_]))
   rw [onLast_snoc]
   intro p hp
   rcases List.mem_append.1 hp with hp | hp
   ·exact h p hp
   ·rw [List.mem_singleton] at hp
    subst hp
    right
    show 0 < (0 : Int) + n
    omega
  ·have h2 : ∀ p ∈ m.l, (0 < p.put.size ∨ 0 < p.drop) ∧ 0 ≤ p.drop := fun p hp => ⟨h p hp, hd p hp⟩
   have := onLast_all (P := fun p => (0 < p.put.size ∨ 0 < p.drop) ∧ 0 ≤ p.drop) (f := fun p => { p with drop := p.drop + n }) (fun p hp => ⟨by
    rcases hp.1 with h | h
    ·exact .inl h
    ·right; show 0 < p.drop + n; omega, by show 0 ≤ p.drop + n; have := hp.2; omega⟩) _ h2
   exact fun p hp => (this p hp).1
 ·exact h
theorem good_go {m : Mk} (h : GoodP m.l) (hn : NnM m) (g : Bool) (n : Int) : GoodP (goC g n m).l := by
 unfold goC
 split
 ·exact good_drop h (fun p hp => (hn.1 p hp).2) n
 ·exact h
theorem good_step {s t : CS} (h : GoodP s.x.l) (hn : NnM s.x) (hs : s.step = some t) : GoodP t.x.l := by
 have hf : s.fetch.x = s.x := by unfold CS.fetch; split <;> rfl
 unfold CS.step at hs
 split at hs
 ·cases hs; exact good_put h _
 ·dsimp only at hs
  split at hs
  ·cases hs
   show GoodP (if _ then _ else _ : Mk).l
   rw [hf]
   split
   ·exact h
   ·exact good_put h _
  ·split at hs
   ·cases hs
    show GoodP (s.fetch.x.drop _).l
    rw [hf]
    exact good_drop h (fun p hp => (hn.1 p hp).2) _
   ·split at hs
    ·cases hs
     show GoodP (goC _ _ s.fetch.x).l
     rw [hf]
     exact good_go h hn _ _
    ·cases hs
theorem cRun_ok : ∀ (k : Nat) (s : CS) {T : Int} {L : Nat}, s.Ok T L → GoodP s.x.l → NnM (cRun k s) ∧ wtM (cRun k s) ≤ T ∧ GoodP (cRun k s).l
 | 0, s, T, L, h, g => by
  refine ⟨h.nx, ?_, g⟩
  have h1 := h.tx
  have h2 := wt_nn h.np
  have h3 := wt_nn h.nq
  show wtM s.x ≤ T
  omega
 | k + 1, s, T, L, h, g => by
  unfold cRun
  split
  ·refine ⟨h.nx, ?_, g⟩
   have h1 := h.tx
   have h2 := wt_nn h.np
   have h3 := wt_nn h.nq
   omega
  ·next t ht => exact cRun_ok k t (CS.step_ok h ht).1 (good_step g h.nx ht)
theorem coX_ok {a b : List Pc} (ha : Nn a) (hb : Nn b) : NnM (coX a b) ∧ wtM (coX a b) ≤ wt a + wt b ∧ GoodP (coX a b).l := by
 have q1 := normL_wt ha
 have q2 := normL_wt hb
 have ok0 : (CS.mk (normL a) (normL b) ⟨[], 0⟩ ⟨#[]⟩).Ok (wt a + wt b) ((CS.mk (normL a) (normL b) ⟨[], 0⟩ ⟨#[]⟩).psi) := by
  refine ⟨normL_nn ha, normL_nn hb, NnM.zero, ?_, ?_⟩
  ·show wtM ⟨[], 0⟩ + wt (normL a) + wt (normL b) + ((0 : Nat) : Int) ≤ _
   rw [show wtM ⟨[], 0⟩ = 0 from rfl]; omega
  ·show 0 + _ ≤ _; omega
 exact cRun_ok _ _ ok0 (fun p hp => absurd hp List.not_mem_nil)
/-- What two edits make one of. -/
theorem coL_facts {a b : List Pc} (h : coE a b = 0) : sumP (coL a b) ≤ sumP a + sumP b ∧ GoodP (coL a b) ∧ pcsRight (coL a b) = true ∧ (coL a b).length ≤ 4096 := by
 have hc : coL a b = (coX a b).l := by unfold coL; rw [if_pos h]
 unfold coE at h
 split at h
 ·next hr =>
  rw [Bool.and_eq_true] at hr
  split at h
  ·next hx =>
   have n1 := (right_nn hr.1).1
   have n2 := (right_nn hr.2).1
   obtain ⟨k1, k2, k3⟩ := coX_ok n1 n2
   rw [hc, sumP_eq n1, sumP_eq n2, sumP_eq k1.1]
   refine ⟨?_, k3, hx, (right_nn hx).2.2⟩
   have := k1.2
   unfold wtM at k2
   omega
  ·cases h
 ·cases h
theorem piece_ne {m : Mk} {p : Pc} (h : m.l ≠ [] ∨ 0 < p.put.size ∨ 0 < p.drop) : (m.piece p).l ≠ [] := by
 have hput : ∀ (m : Mk) (s : ByteArray), m.l ≠ [] ∨ 0 < s.size → (m.put s).l ≠ [] := fun m s h => by
  unfold Mk.put
  split
  ·exact onLast_ne (Mk.last_ne m)
  ·next hs => exact h.resolve_right hs
 have hdrop : ∀ (m : Mk) (n : Int), m.l ≠ [] ∨ 0 < n → (m.drop n).l ≠ [] := fun m n h => by
  unfold Mk.drop
  split
  ·exact onLast_ne (Mk.last_ne m)
  ·next hs => exact h.resolve_right hs
 unfold Mk.piece
 refine hdrop _ _ ?_
 rcases h with h | h | h
 ·exact .inl (hput _ _ (.inl h))
 ·exact .inl (hput _ _ (.inr h))
 ·exact .inr h
theorem pieces_ne : ∀ (l : List Pc) (m : Mk), m.l ≠ [] → (m.pieces l).l ≠ []
 | [], _, h => h
 | _ :: r, _, h => pieces_ne r _ (piece_ne (.inl h))
theorem norm_ne {l : List Pc} (g : GoodP l) (h : l.length ≠ 0) : (normL l).length ≠ 0 := by
 cases l with
 | nil => exact absurd rfl h
 | cons p r =>
  have := pieces_ne r (Mk.piece ⟨[], 0⟩ p) (piece_ne (.inr (g p (List.mem_cons_self ..))))
  intro h0
  exact this (List.eq_nil_of_length_eq_zero h0)
theorem pairD_stay {a b : OpD} {l : List OpD} (h : pairD a b = some l) : ∀ o ∈ l, Stay o := by
 unfold pairD at h
 split at h
 ·unfold pairT at h
  split at h
  ·cases h; exact fun o ho => absurd ho List.not_mem_nil
  ·split at h
   ·next hc =>
    cases h
    intro o ho
    rw [List.mem_singleton] at ho
    subst ho
    have k1 : a.kind = 1 := hc.1.1
    exact bare_stay (idle_kind (by show a.kind ≠ 6; omega) (by show a.kind ≠ 3; omega))
   ·split at h
    ·next hc =>
     have hkk : a.kind = b.kind := hc.1
     unfold pairS at h
     split at h
     ·next k5 =>
      cases h
      intro o ho
      rw [List.mem_singleton] at ho
      subst ho
      exact bare_stay (idle_kind (by omega) (by omega))
     ·split at h
      ·next k4 =>
       split at h
       ·cases h
        intro o ho
        rw [List.mem_singleton] at ho
        subst ho
        exact bare_stay (idle_kind (by omega) (by omega))
       ·cases h
      ·split at h
       ·next k6 =>
        split at h
        ·next he =>
         split at h
         ·cases h; exact fun o ho => absurd ho List.not_mem_nil
         ·next hn =>
          cases h
          intro o ho
          rw [List.mem_singleton] at ho
          subst ho
          refine bare_stay ?_
          obtain ⟨-, g, hr, -⟩ := coL_facts he
          have kb : b.kind = 6 := by omega
          unfold idleD
          rw [if_pos (show ({ b with pcs := coL a.pcs b.pcs } : OpD).kind = 6 from kb)]
          have : decide ((normR (coL a.pcs b.pcs)).length = 0) = false := by
           refine decide_eq_false ?_
           unfold normR
           rw [if_pos hr]
           exact norm_ne g hn
          show (_ && decide ((normR (coL a.pcs b.pcs)).length = 0)) = false
          rw [this, Bool.and_false]
        ·cases h
       ·cases h
    ·cases h
 ·cases h
theorem redF_stay : ∀ (k : Nat) (s : List OpD), (∀ o ∈ s, Stay o) → ∀ o ∈ redF k s, Stay o
 | 0, s, h => by unfold redF; exact h
 | k + 1, [], h => by rw [redF_small _ (by simp)]; exact h
 | k + 1, [y], h => by rw [redF_small _ (by simp)]; exact h
 | k + 1, y :: x :: r, h => by
  rw [redF_two]
  cases hp : pairD x y with
  | none => exact h
  | some l =>
   refine redF_stay k _ (fun o ho => ?_)
   rcases List.mem_append.1 ho with ho | ho
   ·exact pairD_stay hp o (List.mem_reverse.1 ho)
   ·exact h o (List.mem_cons_of_mem _ (List.mem_cons_of_mem _ ho))
theorem steps_stay : ∀ (l s : List OpD), (∀ o ∈ s, Stay o) → ∀ o ∈ stepsD s l, Stay o
 | [], s, h => h
 | o :: l, s, h => by
  rw [stepsD_cons]
  refine steps_stay l _ ?_
  unfold stepD
  cases hi : idleD o with
  | true => exact h
  | false =>
   refine redF_stay _ _ (fun q hq => ?_)
   rcases List.mem_cons.1 hq with rfl | hq
   ·exact bare_stay hi
   ·exact h q hq
theorem redF_len : ∀ (k : Nat) (s : List OpD), (redF k s).length ≤ s.length
 | 0, s => by unfold redF; exact Nat.le_refl _
 | k + 1, [] => by rw [redF_small _ (by simp)]; exact Nat.le_refl _
 | k + 1, [y] => by rw [redF_small _ (by simp)]; exact Nat.le_refl _
 | k + 1, y :: x :: r => by
  rw [redF_two]
  cases hp : pairD x y with
  | none => exact Nat.le_refl _
  | some l =>
   refine Nat.le_trans (redF_len k _) ?_
   rw [List.length_append, List.length_reverse, List.length_cons, List.length_cons]
   rcases pairD_len hp with rfl | ⟨z, rfl⟩
   ·rw [List.length_nil]; omega
   ·rw [List.length_cons, List.length_nil]; omega
theorem steps_len : ∀ (l s : List OpD), (stepsD s l).length ≤ s.length + l.length
 | [], s => Nat.le_refl _
 | o :: l, s => by
  rw [stepsD_cons, List.length_cons]
  have h1 := steps_len l (stepD s o)
  have h2 : (stepD s o).length ≤ s.length + 1 := by
   unfold stepD
   split
   ·omega
   ·exact Nat.le_trans (redF_len _ _) (by simp)
  omega
/-- It has no more operations. -/
theorem list_len (l : List OpD) : (listD l).length ≤ l.length := by
 have := steps_len l []
 unfold listD
 rw [List.length_reverse]
 simpa using this
theorem steps_own : ∀ (s t : List OpD), Irr (s.reverse ++ t) → (∀ o ∈ s, Stay o) → stepsD t s = s.reverse ++ t
 | [], t, _, _ => rfl
 | o :: s, t, h, hs => by
  have e : (o :: s).reverse ++ t = s.reverse ++ (o :: t) := by simp
  rw [e] at h ⊢
  have hsub : ∀ (u v : List OpD), Irr (u ++ v) → Irr v := fun u => by
   induction u with
   | nil => exact fun v h => h
   | cons x u ih => exact fun v h => ih v h.tail
  obtain ⟨h1, h2⟩ := hs o (List.mem_cons_self ..)
  have hst : stepD t o = o :: t := by
   unfold stepD
   rw [h1, h2]
   exact redF_irr _ (hsub _ _ h)
  rw [stepsD_cons, hst]
  exact steps_own s (o :: t) h (fun q hq => hs q (List.mem_cons_of_mem _ hq))
/-- It is its own list. -/
theorem list_own (l : List OpD) : listD (listD l) = listD l := by
 have h1 := (list_doc l).1
 have h2 := steps_stay l [] (fun o ho => absurd ho List.not_mem_nil)
 have h3 := steps_own (stepsD [] l).reverse [] (by simpa using h1) (fun o ho => h2 o (List.mem_reverse.1 ho))
 show (stepsD [] (stepsD [] l).reverse).reverse = (stepsD [] l).reverse
 rw [h3]
 simp

/-! ### Weight -/
def totD : List OpD → Int
 | [] => 0
 | o :: r => sumP o.pcs + totD r
theorem totD_nn : ∀ l, 0 ≤ totD l
 | [] => Int.le_refl _
 | o :: r => by have := totD_nn r; have := sumP_nn o.pcs; simp only [totD]; omega
theorem totD_app : ∀ a b, totD (a ++ b) = totD a + totD b
 | [], b => by simp [totD]
 | o :: r, b => by simp only [List.cons_append, totD, totD_app r b]; omega
theorem totD_mem : ∀ {l : List OpD} {o : OpD}, o ∈ l → sumP o.pcs ≤ totD l
 | x :: r, o, h => by
  have h1 := totD_nn r
  have h2 := sumP_nn x.pcs
  rcases List.mem_cons.1 h with rfl | h
  ·simp only [totD]; omega
  ·have := totD_mem h; simp only [totD]; omega
theorem bare_sum (o : OpD) : sumP (bareD o).pcs ≤ sumP o.pcs := by
 have := sumP_nn o.pcs
 unfold bareD
 repeat' split
 all_goals first | exact Int.le_refl _ | exact this
theorem pairD_tot {a b : OpD} {l : List OpD} (h : pairD a b = some l) : totD l ≤ sumP a.pcs + sumP b.pcs := by
 have na := sumP_nn a.pcs
 have nb := sumP_nn b.pcs
 have hb : totD [bareD b] ≤ sumP a.pcs + sumP b.pcs := by
  have := bare_sum b
  show sumP (bareD b).pcs + 0 ≤ _
  omega
 have h0 : totD [] ≤ sumP a.pcs + sumP b.pcs := by show (0 : Int) ≤ _; omega
 unfold pairD at h
 split at h
 ·unfold pairT at h
  split at h
  ·cases h; exact h0
  ·split at h
   ·cases h
    have := bare_sum { a with label := b.label }
    show sumP (bareD { a with label := b.label }).pcs + 0 ≤ _
    have e : sumP ({ a with label := b.label } : OpD).pcs = sumP a.pcs := rfl
    omega
   ·split at h
    ·unfold pairS at h
     split at h
     ·cases h; exact hb
     ·split at h
      ·split at h
       ·cases h; exact hb
       ·cases h
      ·split at h
       ·split at h
        ·next he =>
         split at h
         ·cases h; exact h0
         ·cases h
          have := bare_sum { b with pcs := coL a.pcs b.pcs }
          have h2 := (coL_facts he).1
          show sumP (bareD { b with pcs := coL a.pcs b.pcs }).pcs + 0 ≤ _
          have e : sumP ({ b with pcs := coL a.pcs b.pcs } : OpD).pcs = sumP (coL a.pcs b.pcs) := rfl
          omega
        ·cases h
       ·cases h
    ·cases h
 ·cases h
theorem pairD_plen {a b : OpD} {l : List OpD} (h : pairD a b = some l) (ha : a.pcs.length ≤ 10000) (hb : b.pcs.length ≤ 10000) : ∀ o ∈ l, o.pcs.length ≤ 10000 := by
 have hbb : ∀ o ∈ [bareD b], o.pcs.length ≤ 10000 := fun o ho => by
  rw [List.mem_singleton] at ho
  subst ho
  exact Nat.le_trans (bareD_len b).2.2 hb
 unfold pairD at h
 split at h
 ·unfold pairT at h
  split at h
  ·cases h; exact fun o ho => absurd ho List.not_mem_nil
  ·split at h
   ·cases h
    intro o ho
    rw [List.mem_singleton] at ho
    subst ho
    exact Nat.le_trans (bareD_len _).2.2 ha
   ·split at h
    ·unfold pairS at h
     split at h
     ·cases h; exact hbb
     ·split at h
      ·split at h
       ·cases h; exact hbb
       ·cases h
      ·split at h
       ·split at h
        ·next he =>
         split at h
         ·cases h; exact fun o ho => absurd ho List.not_mem_nil
         ·cases h
          intro o ho
          rw [List.mem_singleton] at ho
          subst ho
          refine Nat.le_trans (bareD_len _).2.2 ?_
          show (coL a.pcs b.pcs).length ≤ 10000
          have := (coL_facts he).2.2.2
          omega
        ·cases h
       ·cases h
    ·cases h
 ·cases h
end Go.Proofs.Ytkimbpeapolcbaa.Sy
