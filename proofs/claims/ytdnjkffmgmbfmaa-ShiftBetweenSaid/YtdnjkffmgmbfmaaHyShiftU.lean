/- SyShiftU turned to this seat. (Printed by gport.py.) -/
import Derived.Test.YtdnjkffmgmbfmaaHyShiftT
namespace Go.Proofs.Ytdnjkffmgmbfmaa.Sy
open Go.RowKit Go.Proofs.Ytdnjkffmgmbfmaa.Bw Go.Proofs.Ytdnjkffmgmbfmaa.Bs
theorem insL_len {L : List Int} {i : Nat} (hi : i ≤ L.length) (v : Int) : (insL L i v).length = L.length + 1 := by
 unfold insL
 simp only [List.length_append, List.length_take, List.length_drop, List.length_singleton]
 omega
theorem delL_len {L : List Int} {i : Nat} (hi : i < L.length) : (delL L i).length + 1 = L.length := by
 unfold delL
 simp only [List.length_append, List.length_take, List.length_drop]
 omega
theorem insL_lt {L : List Int} {i j : Nat} (hi : i ≤ L.length) (h : j < i) (v : Int) : (insL L i v)[j]? = L[j]? := by
 unfold insL
 rw [List.append_assoc, List.getElem?_append_left (by rw [List.length_take]; omega), List.getElem?_take_of_lt h]
theorem insL_eq {L : List Int} {i : Nat} (hi : i ≤ L.length) (v : Int) : (insL L i v)[i]? = some v := by
 unfold insL
 rw [List.append_assoc, List.getElem?_append_right (by rw [List.length_take]; omega)]
 have : i - (L.take i).length = 0 := by rw [List.length_take]; omega
 rw [this]
 rfl
theorem insL_gt {L : List Int} {i j : Nat} (hi : i ≤ L.length) (h : i ≤ j) (v : Int) : (insL L i v)[j + 1]? = L[j]? := by
 unfold insL
 rw [List.append_assoc, List.getElem?_append_right (by rw [List.length_take]; omega)]
 have : j + 1 - (L.take i).length = (j - i) + 1 := by rw [List.length_take]; omega
 rw [this, List.singleton_append, List.getElem?_cons_succ, List.getElem?_drop]
 congr 1
 omega
theorem delL_lt {L : List Int} {i j : Nat} (hi : i < L.length) (h : j < i) : (delL L i)[j]? = L[j]? := by
 unfold delL
 rw [List.getElem?_append_left (by rw [List.length_take]; omega), List.getElem?_take_of_lt h]
theorem delL_ge {L : List Int} {i j : Nat} (hi : i < L.length) (h : i ≤ j) : (delL L i)[j]? = L[j + 1]? := by
 unfold delL
 rw [List.getElem?_append_right (by rw [List.length_take]; omega), List.getElem?_drop]
 congr 1
 rw [List.length_take]
 omega
theorem del_insL {L : List Int} {i k : Nat} (hi : i ≤ L.length) (hk : k < L.length) (v : Int) : delL (insL L i v) (if i ≤ k then k + 1 else k) = insL (delL L k) (if k < i then i - 1 else i) v := by
 have hl := insL_len hi v
 have hd := delL_len hk
 apply List.ext_getElem?
 intro j
 by_cases hik : i ≤ k
 ·rw [if_pos hik, if_neg (by omega)]
  rcases Nat.lt_or_ge j (k + 1) with h | h
  ·rw [delL_lt (by omega) h]
   rcases Nat.lt_trichotomy j i with h2 | h2 | h2
   ·rw [insL_lt hi h2, insL_lt (by omega) h2, delL_lt hk (by omega)]
   ·subst h2
    rw [insL_eq hi, insL_eq (by omega)]
   ·obtain ⟨j', rfl⟩ : ∃ j', j = j' + 1 := ⟨j - 1, by omega⟩
    rw [insL_gt hi (by omega), insL_gt (by omega) (by omega), delL_lt hk (by omega)]
  ·rw [delL_ge (by omega) h, insL_gt hi (by omega)]
   obtain ⟨j', rfl⟩ : ∃ j', j = j' + 1 := ⟨j - 1, by omega⟩
   rw [insL_gt (by omega) (by omega), delL_ge hk (by omega)]
 ·rw [if_neg hik, if_pos (by omega)]
  rcases Nat.lt_or_ge j k with h | h
  ·rw [delL_lt (by omega) h, insL_lt hi (by omega), insL_lt (by omega) (by omega), delL_lt hk h]
  ·rw [delL_ge (by omega) h]
   rcases Nat.lt_trichotomy (j + 1) i with h2 | h2 | h2
   ·rw [insL_lt hi h2, insL_lt (by omega) (by omega), delL_ge hk h]
   ·subst h2
    rw [insL_eq hi, show j + 1 - 1 = j by omega, insL_eq (by omega)]
   ·rw [insL_gt hi (by omega)]
    obtain ⟨j', rfl⟩ : ∃ j', j = j' + 1 := ⟨j - 1, by omega⟩
    rw [insL_gt (by omega) (by omega), delL_ge hk (by omega)]
def Apart (t : Nd) : Prop := ∀ (p q : List Int) (x y : Nd), t.at? p = some x → t.at? q = some y → x.id = y.id → p = q
mutual
/-- A tree whose identities are numbered anew. -/
def numN : Nd → Int → Nd
 | .mk _ lf lb ats tx ks, a => .mk a lf lb ats tx (numK ks (a + 1))
def numK : List Nd → Int → List Nd
 | [], _ => []
 | x :: xs, a => numN x a :: numK xs (a + x.cnt)
end
theorem numN_id (t : Nd) (a : Int) : (numN t a).id = a := by cases t; rw [numN]; rfl
theorem numN_kids (t : Nd) (a : Int) : (numN t a).kids = numK t.kids (a + 1) := by cases t; rw [numN]; rfl
theorem numK_get : ∀ (ks : List Nd) (a : Int) (j : Nat) {c : Nd}, (numK ks a)[j]? = some c → ∃ x, ks[j]? = some x ∧ c = numN x (a + cntK (ks.take j)) ∧ cntK (ks.take j) + x.cnt ≤ cntK ks
 | [], a, j, c, h => by rw [numK] at h; simp at h
 | x :: xs, a, 0, c, h => by
  rw [numK] at h
  simp only [List.getElem?_cons_zero, Option.some.injEq] at h
  refine ⟨x, rfl, ?_, ?_⟩
  ·rw [List.take_zero, cntK, ← h]
   simp
  ·rw [List.take_zero, cntK, cntK]
   omega
 | x :: xs, a, j + 1, c, h => by
  rw [numK, List.getElem?_cons_succ] at h
  obtain ⟨y, h1, h2, h3⟩ := numK_get xs (a + x.cnt) j h
  refine ⟨y, by simpa using h1, ?_, ?_⟩
  ·rw [List.take_succ_cons, cntK, h2]
   congr 1
   omega
  ·rw [List.take_succ_cons, cntK, cntK]
   omega
theorem cntK_take {ks : List Nd} {i j : Nat} {x : Nd} (hi : ks[i]? = some x) (hij : i < j) : cntK (ks.take i) + x.cnt ≤ cntK (ks.take j) := by
 induction ks generalizing i j with
 | nil => simp at hi
 | cons y ys ih =>
  cases j with
  | zero => omega
  | succ j =>
   rw [List.take_succ_cons, cntK]
   cases i with
   | zero =>
    simp only [List.getElem?_cons_zero, Option.some.injEq] at hi
    rw [List.take_zero, cntK, hi]
    omega
   | succ i =>
    rw [List.take_succ_cons, cntK]
    have := ih (i := i) (j := j) (by simpa using hi) (by omega)
    omega
theorem num_range : ∀ (p : List Int) {t x : Nd} {a : Int}, (numN t a).at? p = some x → a ≤ x.id ∧ x.id < a + t.cnt
 | [], t, x, a, h => by
  rw [at_nil] at h
  cases h
  rw [numN_id, Nd.cnt_eq]
  omega
 | i :: p, t, x, a, h => by
  obtain ⟨m, c, rfl, hk, hc⟩ := at_split h
  rw [numN_kids] at hk
  obtain ⟨y, h1, rfl, h3⟩ := numK_get _ _ _ hk
  have := num_range p hc
  rw [Nd.cnt_eq t]
  omega
theorem num_apart : ∀ (p : List Int) {t : Nd} {a : Int} (q : List Int) (x y : Nd), (numN t a).at? p = some x → (numN t a).at? q = some y → x.id = y.id → p = q
 | [], t, a, [], x, y, _, _, _ => rfl
 | [], t, a, j :: q, x, y, hx, hy, he => by
  rw [at_nil] at hx
  cases hx
  obtain ⟨m, c, rfl, hk, hc⟩ := at_split hy
  rw [numN_kids] at hk
  obtain ⟨y2, h1, rfl, h3⟩ := numK_get _ _ _ hk
  have := num_range q hc
  rw [numN_id] at he
  omega
 | i :: p, t, a, [], x, y, hx, hy, he => by
  rw [at_nil] at hy
  cases hy
  obtain ⟨m, c, rfl, hk, hc⟩ := at_split hx
  rw [numN_kids] at hk
  obtain ⟨y2, h1, rfl, h3⟩ := numK_get _ _ _ hk
  have := num_range p hc
  rw [numN_id] at he
  omega
 | i :: p, t, a, j :: q, x, y, hx, hy, he => by
  obtain ⟨m, c, rfl, hk, hc⟩ := at_split hx
  obtain ⟨l, d, rfl, hl, hd⟩ := at_split hy
  have hk0 := hk
  have hl0 := hl
  rw [numN_kids] at hk hl
  obtain ⟨x2, h1, rfl, h3⟩ := numK_get _ _ _ hk
  obtain ⟨y2, g1, rfl, g3⟩ := numK_get _ _ _ hl
  have r1 := num_range p hc
  have r2 := num_range q hd
  rcases Nat.lt_trichotomy m l with h | h | h
  ·have := cntK_take h1 h
   omega
  ·subst h
   rw [hk] at hl
   injection hl with hl
   rw [← hl] at hd
   rw [num_apart p q x y hc hd he]
  ·have := cntK_take g1 h
   omega
def gapI (s : Sh) (p : List Int) : Int := if s.takes = true ∧ p = s.from_ ∧ s.num < s.gap then s.gap - 1 else s.gap
def fK (s : Sh) (nid : Int) (p : List Int) (L : List Int) : List Int :=
 if s.puts = true ∧ p = s.goal then insL (if s.takes = true ∧ p = s.from_ then delL L s.num.toNat else L) (gapI s p).toNat nid
 else if s.takes = true ∧ p = s.from_ then delL L s.num.toNat else L
structure Corr (t m : Nd) (s : Sh) (nid : Int) : Prop where
 root : m.id = t.id
 apart : Apart m
 here : ∀ (p : List Int) (y : Nd), t.at? p = some y → (s.takes = true → s.puts = false → within s.path p = false) → ∃ q y', m.at? q = some y' ∧ y'.id = y.id ∧ kidIds y' = fK s nid p (kidIds y)
 gone : s.takes = true → s.puts = false → ∀ (p : List Int) (y : Nd), t.at? p = some y → within s.path p = true → ∀ (q : List Int) (y' : Nd), m.at? q = some y' → y'.id ≠ y.id
theorem corr_ins {t n u x : Nd} {s : Sh} {i : Nat} (hk : s.kind = 1) (hg : s.gap = i) (hn : t.at? s.path = some n) (hu : t.put s.path (insD n i x) = some u) (hi : i ≤ n.kids.length) (hx : x.kids = []) (ha : Apart t) (hpos : ∀ (p : List Int) (y : Nd), t.at? p = some y → x.id ≠ y.id) : Corr t u s x.id := by
 have ht : s.takes = false := by simp [Sh.takes, hk]
 have hp : s.puts = true := by simp [Sh.puts, hk]
 have hgo : s.goal = s.path := by simp [Sh.goal, hk]
 have hnew : ∀ (q : List Int) (y : Nd), u.at? q = some y → within (s.path ++ [(i : Int)]) q = true → q = s.path ++ [(i : Int)] ∧ y.id = x.id := by
  intro q y hy hw
  obtain ⟨r, rfl⟩ := (Bs.within_iff _ _).1 hw
  rw [List.append_assoc, List.singleton_append, ins_new hu hi] at hy
  cases r with
  | nil =>
   rw [at_nil] at hy
   cases hy
   exact ⟨List.append_nil _, rfl⟩
  | cons j r =>
   obtain ⟨m, c, rfl, hk, hc⟩ := at_split hy
   rw [hx] at hk
   simp at hk
 have hold : ∀ (q : List Int) (y : Nd), u.at? q = some y → within (s.path ++ [(i : Int)]) q = false → ∃ p y', t.at? p = some y' ∧ y'.id = y.id ∧ q = shP s.path i p := by
  intro q y hy hw
  obtain ⟨p, y', h1, h2⟩ := ins_onto _ _ hn hu hi hy hw
  obtain ⟨y2, h3, h4, _⟩ := ins_at hn hu hi h2
  rw [h1, hy] at h3
  cases h3
  exact ⟨p, y', h2, h4.symm, h1.symm⟩
 refine ⟨put_id _ hn hu rfl, ?_, ?_, ?_⟩
 ·intro p q a b hpa hqb he
  cases h1 : within (s.path ++ [(i : Int)]) p with
  | true =>
   obtain ⟨rfl, e1⟩ := hnew p a hpa h1
   cases h2 : within (s.path ++ [(i : Int)]) q with
   | true => obtain ⟨rfl, e2⟩ := hnew q b hqb h2; rfl
   | false =>
    obtain ⟨q', b', g1, g2, _⟩ := hold q b hqb h2
    exact absurd (by rw [← e1, he, g2]) (hpos q' b' g1)
  | false =>
   obtain ⟨p', a', f1, f2, f3⟩ := hold p a hpa h1
   cases h2 : within (s.path ++ [(i : Int)]) q with
   | true =>
    obtain ⟨rfl, e2⟩ := hnew q b hqb h2
    exact absurd (by rw [← e2, ← he, f2]) (hpos p' a' f1)
   | false =>
    obtain ⟨q', b', g1, g2, g3⟩ := hold q b hqb h2
    rw [f3, g3, ha p' q' a' b' f1 g1 (by rw [f2, g2, he])]
 ·intro p y hy _
  obtain ⟨y', h1, h2, h3⟩ := ins_at hn hu hi hy
  refine ⟨_, y', h1, h2, ?_⟩
  rw [h3]
  unfold fK gapI
  rw [ht, hp, hgo, hg]
  by_cases h : p = s.path
  ·rw [if_pos h, if_pos ⟨rfl, h⟩, if_neg (by simp), if_neg (by simp), Int.toNat_natCast]
  ·rw [if_neg h, if_neg (fun h' => h h'.2), if_neg (by simp)]
 ·intro h; rw [ht] at h; cases h
/-- What taking a node out does. -/
theorem del_here {t x : Nd} {path : List Int} (hne : path ≠ []) (hx : t.at? path = some x) :
  ∃ (k : Nat) (m : Nd), path = path.dropLast ++ [(k : Int)] ∧ withoutD t path = m ∧ m.id = t.id ∧
   (∀ (p : List Int) (y : Nd), t.at? p = some y → within path p = false → ∃ q y', m.at? q = some y' ∧ y'.id = y.id ∧ kidIds y' = if p = path.dropLast then delL (kidIds y) k else kidIds y) ∧
   (∀ (q : List Int) (y' : Nd), m.at? q = some y' → ∃ y, t.at? (shP path.dropLast k q) = some y ∧ y'.id = y.id) := by
 obtain ⟨k, z, m, hsp, hm, hz, hkx, hmz, hinv, hk, hid⟩ := del_inv hne hx
 have hback : ∀ (q : List Int) (y' : Nd), m.at? q = some y' → ∃ y, t.at? (shP path.dropLast k q) = some y ∧ y.id = y'.id ∧ kidIds y = if q = path.dropLast then insL (kidIds y') k x.id else kidIds y' := fun q y' h => ins_at hmz hinv hk h
 refine ⟨k, m, hsp, hm, hid, ?_, ?_⟩
 ·intro p y hy hw
  rw [hsp] at hw
  obtain ⟨q, y', h1, h2⟩ := ins_onto _ p hmz hinv hk hy hw
  obtain ⟨y2, h3, h4, h5⟩ := hback q y' h2
  rw [h1, hy] at h3
  cases h3
  refine ⟨q, y', h2, h4.symm, ?_⟩
  by_cases hp : p = path.dropLast
  ·rw [if_pos hp]
   rw [hp] at hy h1
   rw [hz] at hy
   cases hy
   have hq : q = path.dropLast := sh_inj k _ (h1.trans (sh_self _ _).symm)
   rw [hq, hmz] at h2
   cases h2
   exact del_ids _ _
  ·rw [if_neg hp]
   rw [if_neg (fun hq => hp (by rw [← h1, hq, sh_self]))] at h5
   exact h5.symm
 ·intro q y' h
  obtain ⟨y, h1, h2, _⟩ := hback q y' h
  exact ⟨y, h1, h2.symm⟩
theorem corr_del {t x : Nd} {s : Sh} (hk : s.kind = 2) (hne : s.path ≠ []) (hx : t.at? s.path = some x) (ha : Apart t) (nid : Int) : Corr t (withoutD t s.path) s nid := by
 have ht : s.takes = true := by simp [Sh.takes, hk]
 have hp : s.puts = false := by simp [Sh.puts, hk]
 obtain ⟨k, m, hsp, rfl, hid, hhere, hback⟩ := del_here hne hx
 have hnum : s.num = (k : Int) := by
  unfold Sh.num
  rw [hsp]
  simp
 refine ⟨hid, ?_, ?_, ?_⟩
 ·intro p q a b hpa hqb he
  obtain ⟨y1, h1, h2⟩ := hback p a hpa
  obtain ⟨y2, g1, g2⟩ := hback q b hqb
  exact sh_inj _ _ (ha _ _ y1 y2 h1 g1 (by rw [← h2, ← g2, he]))
 ·intro p y hy hw
  obtain ⟨q, y', h1, h2, h3⟩ := hhere p y hy (hw ht hp)
  refine ⟨q, y', h1, h2, ?_⟩
  rw [h3]
  unfold fK
  rw [if_neg (c := s.puts = true ∧ p = s.goal) (fun h => by rw [hp] at h; cases h.1), hnum, Int.toNat_natCast]
  by_cases h : p = s.from_
  ·rw [if_pos (c := s.takes = true ∧ p = s.from_) ⟨ht, h⟩, if_pos (show p = s.path.dropLast from h)]
  ·rw [if_neg (c := s.takes = true ∧ p = s.from_) (fun h' => h h'.2), if_neg (show ¬ p = s.path.dropLast from h)]
 ·intro _ _ p y hy hw q y' hq he
  obtain ⟨y2, g1, g2⟩ := hback q y' hq
  have := ha _ _ y2 y g1 hy (by rw [← g2, he])
  have hv := sh_avoid (k : Int) s.path.dropLast q
  rw [← hsp, this, hw] at hv
  cases hv
theorem sh_snoc (i : Int) : ∀ (du f : List Int) (n : Int), shP du i (f ++ [n]) = shP du i f ++ [if du = f ∧ i ≤ n then n + 1 else n]
 | [], [], n => by
  rw [List.nil_append, sh_nil, sh_nil0]
  by_cases h : i ≤ n
  ·rw [if_pos h, if_pos ⟨rfl, h⟩]; rfl
  ·rw [if_neg h, if_neg (fun h' => h h'.2)]; rfl
 | d :: du, [], n => by
  rw [List.nil_append, sh_nil0, if_neg (by simp)]
  by_cases h : n = d
  ·subst h
   rw [sh_cons, sh_nil0]; rfl
  ·rw [sh_ne h]; rfl
 | [], a :: f, n => by
  rw [List.cons_append, sh_nil, sh_nil, if_neg (c := ([] : List Int) = a :: f ∧ i ≤ n) (by simp)]; rfl
 | d :: du, a :: f, n => by
  by_cases h : a = d
  ·subst h
   rw [List.cons_append, sh_cons, sh_cons, sh_snoc i du f n, List.cons_append]
   congr 3
   simp
  ·rw [List.cons_append, sh_ne h, sh_ne h, if_neg (fun h' => h (by injection h'.1 with h1 _; exact h1.symm))]; rfl
theorem corr_mov {t x n : Nd} {o : OpD} {s : Sh} {i : Nat} (hsk : s.kind = 3) (hsp : s.path = o.path) (hst : s.to = o.to) (hsg : s.gap = o.at_) (hx : t.at? o.path = some x) (hy : t.at? o.to = some n) (hne : o.path ≠ []) (hi : o.at_ = i) (h1 : i ≤ n.kids.length) (hnw : within o.path o.to = false) (ha : Apart t) : Corr t (moveD t o) s x.id := by
 have ht : s.takes = true := by simp [Sh.takes, hsk]
 have hp : s.puts = true := by simp [Sh.puts, hsk]
 have hgo : s.goal = o.to := by simp [Sh.goal, hsk, hst]
 obtain ⟨u, hu⟩ := put_is (insD n i x) hy
 obtain ⟨hFne, hFx, -, hmv⟩ := move_from hx hy hi h1 hnw (put_getD hu)
 rw [hmv]
 obtain ⟨k, m, hF, hm, hid, hhere, hback⟩ := del_here hFne hFx
 rw [hm]
 obtain ⟨num, hnum⟩ : ∃ q : Int, lastN o.path = q := ⟨_, rfl⟩
 have hpath : o.path = o.path.dropLast ++ [num] := by rw [← hnum]; exact snoc_of hne
 have hsn : s.num = num := by
  unfold Sh.num
  rw [hsp, hpath]
  simp
 have hsf : s.from_ = o.path.dropLast := by unfold Sh.from_; rw [hsp]
 have hFsh : fromD o = shP o.to i o.path := by rw [from_sh, hi]
 have hF2 : fromD o = shP o.to i o.path.dropLast ++ [if o.to = o.path.dropLast ∧ (i : Int) ≤ num then num + 1 else num] := by
  rw [hFsh, ← sh_snoc]
  exact congrArg _ hpath
 have hpre : (fromD o).dropLast = shP o.to i o.path.dropLast := by rw [hF2]; simp
 have hk : (k : Int) = if o.to = o.path.dropLast ∧ (i : Int) ≤ num then num + 1 else num := by
  have h := hF
  rw [hpre] at h
  rw [hF2] at h
  have := (List.append_inj' h rfl).2
  injection this with this _
  exact this.symm
 obtain ⟨num', zf, hnum', hzf, hzx⟩ : ∃ (k : Nat) (b : Nd), num = k ∧ t.at? o.path.dropLast = some b ∧ b.kids[k]? = some x := at_snoc _ _ (by rw [← hpath]; exact hx)
 have hzl := (List.getElem?_eq_some_iff.1 hzx).1
 have hw1 : ∀ p, within o.path p = false → within (fromD o) (shP o.to i p) = false := by
  intro p hp0
  cases hc : within (fromD o) (shP o.to i p) with
  | false => rfl
  | true =>
   obtain ⟨r, hr⟩ := (Bs.within_iff _ _).1 hc
   rw [hFsh, ← sh_app (i : Int) r _ _ hnw] at hr
   rw [sh_inj _ _ hr, (Bs.within_iff _ _).2 ⟨r, rfl⟩] at hp0
   cases hp0
 have hav := sh_avoid (i : Int) o.to o.path
 rw [← hFsh] at hav
 have hw2 : ∀ r, within (fromD o) (o.to ++ (i : Int) :: r) = false := by
  intro r
  cases hc : within (fromD o) (o.to ++ (i : Int) :: r) with
  | false => rfl
  | true =>
   obtain ⟨r2, hr2⟩ := (Bs.within_iff _ _).1 hc
   have hl : (fromD o).length = o.path.length := by rw [hFsh, sh_len]
   rcases Nat.lt_or_ge o.to.length o.path.length with hlt | hge
   ·have : within (o.to ++ [(i : Int)]) (fromD o) = true := by
     rw [show o.to ++ (i : Int) :: r = (o.to ++ [(i : Int)]) ++ r by simp] at hr2
     have h3 := congrArg (List.take (o.to.length + 1)) hr2
     rw [List.take_append_of_le_length (l₁ := o.to ++ [(i : Int)]) (by simp), List.take_of_length_le (l := o.to ++ [(i : Int)]) (by simp), List.take_append_of_le_length (l₁ := fromD o) (by omega)] at h3
     exact (Bs.within_iff _ _).2 ⟨(fromD o).drop (o.to.length + 1), by rw [h3, List.take_append_drop]⟩
    rw [this] at hav
    cases hav
   ·have hFp : fromD o = o.path := by
     rw [hFsh]
     unfold shP
     rw [if_neg (fun h => by omega)]
    rw [hFp] at hr2 hl
    have h3 := congrArg (List.take o.path.length) hr2
    rw [List.take_append_of_le_length hge, List.take_left] at h3
    have : within o.path o.to = true := (Bs.within_iff _ _).2 ⟨o.to.drop o.path.length, by have h4 := List.take_append_drop o.path.length o.to; rw [h3] at h4; exact h4.symm⟩
    rw [this] at hnw
    cases hnw
 have hwhere : ∀ (q : List Int) (y : Nd), u.at? q = some y → within (fromD o) q = false → ∃ p y', t.at? p = some y' ∧ y'.id = y.id ∧ ((∃ r, q = o.to ++ (i : Int) :: r ∧ p = o.path ++ r) ∨ (q = shP o.to i p ∧ within o.path p = false)) := by
  intro q y hq hw
  cases h2 : within (o.to ++ [(i : Int)]) q with
  | true =>
   obtain ⟨r, rfl⟩ := (Bs.within_iff _ _).1 h2
   rw [List.append_assoc, List.singleton_append, ins_new hu h1] at hq
   exact ⟨o.path ++ r, y, by rw [at_app _ r hx]; exact hq, rfl, .inl ⟨r, by simp, rfl⟩⟩
  | false =>
   obtain ⟨p, y', g1, g2⟩ := ins_onto _ _ hy hu h1 hq h2
   obtain ⟨y2, g3, g4, _⟩ := ins_at hy hu h1 g2
   rw [g1, hq] at g3
   cases g3
   refine ⟨p, y', g2, g4.symm, .inr ⟨g1.symm, ?_⟩⟩
   cases hc : within o.path p with
   | false => rfl
   | true =>
    obtain ⟨r, rfl⟩ := (Bs.within_iff _ _).1 hc
    rw [sh_app _ r _ _ hnw, ← hFsh] at g1
    rw [← g1, (Bs.within_iff _ _).2 ⟨r, rfl⟩] at hw
    cases hw
 refine ⟨by rw [hid]; exact put_id _ hy hu rfl, ?_, ?_, ?_⟩
 ·intro q1 q2 a b hqa hqb he
  obtain ⟨y1, f1, f2⟩ := hback q1 a hqa
  obtain ⟨y2, g1, g2⟩ := hback q2 b hqb
  have hv : ∀ q, within (fromD o) (shP (fromD o).dropLast k q) = false := fun q => by
   have := sh_avoid (k : Int) (fromD o).dropLast q
   rwa [← hF] at this
  obtain ⟨p1, z1, e1, e2, e3⟩ := hwhere _ y1 f1 (hv q1)
  obtain ⟨p2, z2, d1, d2, d3⟩ := hwhere _ y2 g1 (hv q2)
  have hpp := ha p1 p2 z1 z2 e1 d1 (by rw [e2, d2, ← f2, ← g2, he])
  apply sh_inj (k : Int) (fromD o).dropLast
  subst hpp
  rcases e3 with ⟨r1, e4, e5⟩ | ⟨e4, e5⟩
  ·rcases d3 with ⟨r2, d4, d5⟩ | ⟨d4, d5⟩
   ·rw [e4, d4, List.append_cancel_left (e5.symm.trans d5)]
   ·rw [e5, (Bs.within_iff _ _).2 ⟨r1, rfl⟩] at d5
    cases d5
  ·rcases d3 with ⟨r2, d4, d5⟩ | ⟨d4, d5⟩
   ·rw [d5, (Bs.within_iff _ _).2 ⟨r2, rfl⟩] at e5
    cases e5
   ·rw [e4, d4]
 ·intro p y hpy _
  cases hc : within o.path p with
  | false =>
   obtain ⟨y1, h2, h3, h4⟩ := ins_at hy hu h1 hpy
   obtain ⟨q, y', h5, h6, h7⟩ := hhere _ y1 h2 (hw1 p hc)
   refine ⟨q, y', h5, h6.trans h3, ?_⟩
   rw [h7, h4, hpre]
   unfold fK gapI
   rw [ht, hp, hgo, hsf, hsn, hsg, hi]
   have hiff : (shP o.to i p = shP o.to i o.path.dropLast) ↔ p = o.path.dropLast := ⟨fun h => sh_inj _ _ h, fun h => by rw [h]⟩
   by_cases hpf : p = o.path.dropLast
   ·rw [if_pos (hiff.2 hpf)]
    have hyz : y = zf := by rw [hpf, hzf] at hpy; cases hpy; rfl
    have hzl2 : num' < (kidIds y).length := by rw [hyz]; unfold kidIds; rw [List.length_map]; exact hzl
    by_cases hpt : p = o.to
    ·have hyn : y = n := by rw [hpt, hy] at hpy; cases hpy; rfl
     have h1' : i ≤ (kidIds y).length := by rw [hyn]; unfold kidIds; rw [List.length_map]; exact h1
     rw [if_pos hpt, if_pos ⟨rfl, hpt⟩, if_pos ⟨rfl, hpf⟩]
     have hk2 : k = if i ≤ num' then num' + 1 else num' := by
      by_cases h9 : i ≤ num'
      ·rw [if_pos ⟨hpt.symm.trans hpf, by omega⟩] at hk
       rw [if_pos h9]
       omega
      ·rw [if_neg (fun h => h9 (by have := h.2; omega))] at hk
       rw [if_neg h9]
       omega
     have hg2 : (if true = true ∧ p = o.path.dropLast ∧ num < (i : Int) then (i : Int) - 1 else (i : Int)).toNat = if num' < i then i - 1 else i := by
      by_cases h9 : num' < i
      ·rw [if_pos ⟨rfl, hpf, by omega⟩, if_pos h9]; omega
      ·rw [if_neg (fun h => h9 (by have := h.2.2; omega)), if_neg h9]; omega
     rw [hg2, hk2, del_insL h1' hzl2, hnum', Int.toNat_natCast]
    ·rw [if_neg hpt, if_neg (fun h => hpt h.2), if_pos ⟨rfl, hpf⟩]
     rw [if_neg (fun h => hpt (hpf.trans h.1.symm))] at hk
     congr 1
     omega
   ·rw [if_neg (fun h => hpf (hiff.1 h))]
    by_cases hpt : p = o.to
    ·rw [if_pos hpt, if_pos ⟨rfl, hpt⟩, if_neg (fun h => hpf h.2), if_neg (fun h => hpf h.2.1), Int.toNat_natCast]
    ·rw [if_neg hpt, if_neg (fun h => hpt h.2), if_neg (fun h => hpf h.2)]
  | true =>
   obtain ⟨r, rfl⟩ := (Bs.within_iff _ _).1 hc
   have hxr : x.at? r = some y := by rw [← at_app _ r hx]; exact hpy
   obtain ⟨q, y', h5, h6, h7⟩ := hhere (o.to ++ (i : Int) :: r) y (by rw [ins_new hu h1]; exact hxr) (hw2 r)
   refine ⟨q, y', h5, h6, ?_⟩
   rw [h7, if_neg]
   ·unfold fK
    rw [hgo, hsf, if_neg, if_neg]
    ·rintro ⟨-, h⟩
     have := congrArg List.length h
     rw [List.length_append, List.length_dropLast] at this
     have := List.length_pos_iff.2 hne
     omega
    ·rintro ⟨-, h⟩
     rw [← h, (Bs.within_iff _ _).2 ⟨r, rfl⟩] at hnw
     cases hnw
   ·intro h
    rw [hF, ← h, (Bs.within_iff _ _).2 ⟨r ++ [(k : Int)], by simp⟩] at hav
    cases hav
 ·intro _ h; rw [hp] at h; cases h
end Go.Proofs.Ytdnjkffmgmbfmaa.Sy
