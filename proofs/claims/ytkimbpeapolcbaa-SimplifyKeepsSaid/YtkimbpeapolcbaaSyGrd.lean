/- Chapter 10: a list, simplified, makes the same tree: the law. Plain. -/
import Derived.Test.YtkimbpeapolcbaaSyValidP
import Derived.Test.YtkimbpeapolcbaaSyIdle
import Derived.Test.YtkimbpeapolcbaaSyBsFormeda
import Derived.Test.YtkimbpeapolcbaaSyListD
import Derived.Test.YtkimbpeapolcbaaSyRows
namespace Go.Proofs.Ytkimbpeapolcbaa.Sy
open Go.RowKit Go.Proofs.Ytkimbpeapolcbaa.Bw Go.Proofs.Ytkimbpeapolcbaa.Bs

/-- The operations of a list can be done one by one, and make this tree. -/
def Runs : Nd → List OpD → Nd → Prop
 | t, [], m => t = m
 | t, o :: r, m => validD t o = 0 ∧ Runs (doD t o) r m
theorem runs_app : ∀ (a b : List OpD) (t m : Nd), Runs t (a ++ b) m ↔ ∃ z, Runs t a z ∧ Runs z b m
 | [], b, t, m => ⟨fun h => ⟨t, rfl, h⟩, fun ⟨z, h1, h2⟩ => by cases h1; exact h2⟩
 | o :: a, b, t, m => by
  constructor
  ·rintro ⟨h1, h2⟩
   obtain ⟨z, h3, h4⟩ := (runs_app a b _ m).1 h2
   exact ⟨z, ⟨h1, h3⟩, h4⟩
  ·rintro ⟨z, ⟨h1, h2⟩, h3⟩
   exact ⟨h1, (runs_app a b _ m).2 ⟨z, h2, h3⟩⟩
theorem go_runs : ∀ (l : List OpD) (t : Nd) (n : Nat), (allGo t n l).2.2 = 0 ↔ ∃ m, Runs t l m ∧ allGo t n l = (m, n + l.length, 0)
 | [], t, n => ⟨fun _ => ⟨t, rfl, rfl⟩, fun ⟨m, _, h⟩ => by rw [h]⟩
 | o :: r, t, n => by
  unfold allGo
  by_cases h : validD t o = 0
  ·rw [if_pos h]
   have ih := go_runs r (doD t o) (n + 1)
   rw [ih]
   constructor
   ·rintro ⟨m, h1, h2⟩
    exact ⟨m, ⟨h, h1⟩, by rw [h2, List.length_cons, show n + 1 + r.length = n + (r.length + 1) by omega]⟩
   ·rintro ⟨m, ⟨-, h1⟩, h2⟩
    exact ⟨m, h1, by rw [h2, List.length_cons, show n + 1 + r.length = n + (r.length + 1) by omega]⟩
  ·rw [if_neg h]
   constructor
   ·intro h1; exact absurd h1 h
   ·rintro ⟨m, ⟨h1, -⟩, -⟩; exact absurd h1 h
theorem Runs.go {l : List OpD} {t m : Nd} (h : Runs t l m) (n : Nat) : allGo t n l = (m, n + l.length, 0) := by
 induction l generalizing t n with
 | nil => cases h; rfl
 | cons o r ih =>
  obtain ⟨h1, h2⟩ := h
  unfold allGo
  rw [if_pos h1, ih h2, List.length_cons, show n + 1 + r.length = n + (r.length + 1) by omega]

/-! ### Idle operations -/
theorem nd_txt (x : Nd) : txtT x x.text = x := by cases x; rfl
theorem norm_nil {t : ByteArray} {l : List Pc} (h : apE t l = 0) (hn : (normR l).length = 0) : apS t l = t := by
 have hr := (apE_ok h).1
 unfold normR at hn
 rw [if_pos hr] at hn
 have h0 := List.eq_nil_of_length_eq_zero hn
 have := apply_normL t (right_nn hr).1
 rw [h0] at this
 unfold apS
 rw [if_pos h, ← this]
 rfl
theorem do6 {t x : Nd} {o : OpD} (hx : t.at? o.path = some x) (k : o.kind = 6) : doD t o = (t.put o.path (txtT x (apS x.text o.pcs))).getD Nd.zero := by
 unfold doD; rw [hx]; simp [k]
theorem do5 {t x : Nd} {o : OpD} (hx : t.at? o.path = some x) (k : o.kind = 5) : doD t o = (t.put o.path (labT x o.label)).getD Nd.zero := by
 unfold doD; rw [hx]; simp [k]
theorem do4 {t x : Nd} {o : OpD} (hx : t.at? o.path = some x) (k : o.kind = 4) : doD t o = (t.put o.path (attrT x o)).getD Nd.zero := by
 unfold doD; rw [hx]; simp [k]
theorem do1 {t x : Nd} {o : OpD} (hx : t.at? o.path = some x) (k : o.kind = 1) : doD t o = (t.put o.path (insD x o.at_.toNat (newD o))).getD Nd.zero := by
 unfold doD; rw [hx]; simp [k]
theorem do2 {t : Nd} {o : OpD} (k : o.kind = 2) : doD t o = withoutD t o.path := by unfold doD; simp [k]
theorem do3 {t : Nd} {o : OpD} (k : o.kind = 3) : doD t o = moveD t o := by unfold doD; simp [k]
theorem without_snoc {t z : Nd} {p : List Int} {k : Nat} (hz : t.at? p = some z) : withoutD t (p ++ [(k : Int)]) = (t.put p (delD z k)).getD Nd.zero := by
 unfold withoutD
 have h1 : (p ++ [(k : Int)]).dropLast = p := by simp
 have h2 : lastN (p ++ [(k : Int)]) = k := by unfold lastN; simp
 rw [h1, h2, hz]
 rfl
/-- An idle operation that is valid does nothing. -/
theorem idle_do {t : Nd} {o : OpD} (h : validD t o = 0) (hi : idleD o = true) : doD t o = t := by
 unfold idleD at hi
 rw [Bool.and_eq_true] at hi
 obtain ⟨hf, hi⟩ := hi
 by_cases k6 : o.kind = 6
 ·rw [if_pos k6, decide_eq_true_eq] at hi
  obtain ⟨x, hx, -, hE⟩ := valid6 h k6
  rw [do6 hx k6, norm_nil hE hi, nd_txt, put_same hx]
  rfl
 rw [if_neg k6] at hi
 by_cases k3 : o.kind = 3
 ·rw [if_pos k3] at hi
  unfold lastGap at hi
  rw [Bool.and_eq_true, Bool.and_eq_true, decide_eq_true_eq, decide_eq_true_eq] at hi
  obtain ⟨⟨hp, hto⟩, hat⟩ := hi
  obtain ⟨x, y, hx, hy, hne, hw, -, h0, h1⟩ := valid3 h k3
  have hsn := snoc_of hne
  rw [hto] at hsn
  have hx2 := hx
  rw [hsn] at hx2
  obtain ⟨j, b, hj, hb, hk⟩ := at_snoc _ _ hx2
  rw [hy] at hb
  cases hb
  obtain ⟨i, hi⟩ : ∃ i : Nat, o.at_ = i := ⟨o.at_.toNat, by omega⟩
  have hii : i ≤ y.kids.length := by omega
  obtain ⟨m, hm⟩ := put_is (insD y i x) hy
  have hmy := put_at _ _ _ _ hm
  obtain ⟨-, -, -, f4⟩ := move_from hx hy hi hii hw (put_getD hm)
  have hpath : o.path = o.to ++ [(j : Int)] := by rw [hsn, hj]
  have hfr : fromD o = o.to ++ [if i ≤ j then ((j + 1 : Nat) : Int) else ((j : Nat) : Int)] := by
   rw [from_sh, hi, hpath]
   have hwt : within o.to (o.to ++ [(j : Int)]) = true := (Bs.within_iff _ _).2 ⟨_, rfl⟩
   have hg : (o.to ++ [(j : Int)]).getD o.to.length 0 = j := by simp
   unfold shP
   rw [hwt, hg]
   by_cases hc : i ≤ j
   ·rw [if_pos ⟨by simp, rfl, by omega⟩, if_pos hc]
    rw [List.set_append_right _ _ (Nat.le_refl _)]
    simp
   ·rw [if_neg (by omega), if_neg hc]
  have hat2 : i = j ∨ i = j + 1 := by
   rw [Bool.or_eq_true, beq_iff_eq, beq_iff_eq, hj, hi] at hat
   omega
  rw [do3 k3, f4, hfr]
  rcases hat2 with rfl | rfl
  ·rw [if_pos (Nat.le_refl _), without_snoc hmy, del_next hk, put_over _ _ hm, put_same hy]
   rfl
  ·rw [if_neg (by omega), without_snoc hmy, del_prev hk, put_over _ _ hm, put_same hy]
   rfl
 ·rw [if_neg k3] at hi
  cases hi

/-! ### Bare operations -/
theorem bare_valid {t : Nd} {o : OpD} (h : validD t o = 0) : validD t (bareD o) = 0 ∧ doD t (bareD o) = doD t o := by
 have hv := (valid_iff t o).1 h
 obtain ⟨h1, hf, hne, x, hx, hE⟩ := hv
 have hk := formed_kind hf
 have hp := bare_path hk
 have hkk := bare_kind o
 have hfb := formed_bare o
 have hd : tailE t (bareD o) x = tailE t o x ∧ doD t (bareD o) = doD t o := by
  rcases hk with k | k | k | k | k | k
  ·have kb : (bareD o).kind = 1 := by rw [hkk, k]
   have e1 : (bareD o).at_ = o.at_ := by rw [bare1 k]
   have e2 : newD (bareD o) = newD o := by rw [bare1 k]; rfl
   refine ⟨by unfold tailE; rw [if_pos kb, if_pos k, e1], ?_⟩
   rw [do1 (x := x) (by rw [hp]; exact hx) kb, do1 hx k, hp, e1, e2]
  ·have kb : (bareD o).kind = 2 := by rw [hkk, k]
   refine ⟨by unfold tailE; rw [hkk]; simp [k], ?_⟩
   rw [do2 kb, do2 k, hp]
  ·have kb : (bareD o).kind = 3 := by rw [hkk, k]
   have e1 : (bareD o).at_ = o.at_ := by rw [bare3 k]
   have e2 : (bareD o).to = o.to := by rw [bare3 k]
   refine ⟨by unfold tailE; rw [hkk, hp, e1, e2]; simp [k], ?_⟩
   rw [do3 kb, do3 k]
   unfold moveD fromD
   rw [hp, e1, e2]
  ·have kb : (bareD o).kind = 4 := by rw [hkk, k]
   have e1 : attrT x (bareD o) = attrT x o := by
    unfold attrT
    rw [bare4 k]
    dsimp only
    cases hg : o.gone with
    | false => rfl
    | true => rw [if_pos rfl, atS_done, atS_done]
   refine ⟨by unfold tailE; rw [hkk]; simp [k], ?_⟩
   rw [do4 (x := x) (by rw [hp]; exact hx) kb, do4 hx k, hp, e1]
  ·have kb : (bareD o).kind = 5 := by rw [hkk, k]
   have e1 : (bareD o).label = o.label := by rw [bare5 k]
   refine ⟨by unfold tailE; rw [hkk]; simp [k], ?_⟩
   rw [do5 (x := x) (by rw [hp]; exact hx) kb, do5 hx k, hp, e1]
  ·have kb : (bareD o).kind = 6 := by rw [hkk, k]
   have e1 : (bareD o).pcs = o.pcs := by rw [bare6 k]
   refine ⟨by unfold tailE; rw [hkk, e1]; simp [k], ?_⟩
   rw [do6 (x := x) (by rw [hp]; exact hx) kb, do6 hx k, hp, e1]
 refine ⟨(valid_iff t (bareD o)).2 ⟨h1, by rw [hfb]; exact hf, by rw [hkk, hp]; exact hne, x, by rw [hp]; exact hx, by rw [hd.1]; exact hE⟩, hd.2⟩

/-! ### Two that are made fewer -/
theorem right_asc : ∀ (p : List Int) {t x : Nd}, t.rightAll = true → t.at? p = some x → Asc x.attrs
 | [], t, x, h, hx => by
  rw [at_nil] at hx
  cases hx
  rw [Nd.rightAll_eq, Bool.and_eq_true] at h
  have := h.1
  unfold Nd.right1 at this
  rw [Bool.and_eq_true] at this
  exact (attrs_asc _ _ this.2).1
 | i :: p, t, x, h, hx => by
  obtain ⟨m, c, rfl, hk, hc⟩ := at_split hx
  rw [Nd.rightAll_eq, Bool.and_eq_true] at h
  refine right_asc p ?_ hc
  have hmem := List.mem_of_getElem? hk
  have : ∀ l : List Nd, rightK l = true → ∀ c ∈ l, c.rightAll = true := fun l => by
   induction l with
   | nil => intro _ c hc; exact absurd hc List.not_mem_nil
   | cons k r ih =>
    intro h c hc
    rw [rightK, Bool.and_eq_true] at h
    rcases List.mem_cons.1 hc with rfl | hc
    ·exact h.1
    ·exact ih h.2 c hc
  exact this _ h.2 c hmem
theorem at_put_same {t a x : Nd} {p : List Int} (h : t.put p x = some a) : a.at? p = some x := put_at _ _ _ _ h
theorem getD_some {o : Option Nd} {a : Nd} (h : o = some a) : o.getD Nd.zero = a := by rw [h]; rfl
theorem pair_do {t m : Nd} {a b : OpD} {l : List OpD} (h : Runs t [a, b] m) (hp : pairD a b = some l) : Runs t l m := by
 obtain ⟨ha, hb, hm⟩ := h
 subst hm
 obtain ⟨r1, fa, na, x, hx, ea⟩ := (valid_iff t a).1 ha
 obtain ⟨r2, fb, nb, y, hy, eb⟩ := (valid_iff _ b).1 hb
 unfold pairD at hp
 split at hp
 case isFalse => cases hp
 case isTrue hbz =>
 -- the operation's bare one serves
 have sole : ∀ (o : OpD) (m : Nd), validD t o = 0 → doD t o = m → Runs t [bareD o] m := fun o m h1 h2 => ⟨(bare_valid h1).1, by rw [← h2]; exact (bare_valid h1).2⟩
 unfold pairT at hp
 split at hp
 ·next hc =>
  cases hp
  obtain ⟨⟨k1, hpath⟩, k2⟩ := hc
  obtain ⟨x', hx', -, g0, g1⟩ := valid1 ha k1
  rw [hx] at hx'
  cases hx'
  obtain ⟨i, hi⟩ : ∃ i : Nat, a.at_ = i := ⟨a.at_.toNat, by omega⟩
  have hin : i ≤ x.kids.length := by omega
  obtain ⟨w, hw⟩ := put_is (insD x i (newD a)) hx
  have h1 : doD t a = w := by rw [do1 hx k1, hi, Int.toNat_natCast, hw]; rfl
  show t = doD (doD t a) b
  rw [h1, do2 k2, ← hpath, hi, without_snoc (at_put_same hw), del_ins hin, put_over _ _ hw, put_same hx]
  rfl
 ·split at hp
  ·next hc =>
   cases hp
   obtain ⟨⟨k1, hpath⟩, k5⟩ := hc
   obtain ⟨x', hx', hlf, g0, g1⟩ := valid1 ha k1
   rw [hx] at hx'
   cases hx'
   obtain ⟨i, hi⟩ : ∃ i : Nat, a.at_ = i := ⟨a.at_.toNat, by omega⟩
   have hin : i ≤ x.kids.length := by omega
   obtain ⟨w, hw⟩ := put_is (insD x i (newD a)) hx
   have h1 : doD t a = w := by rw [do1 hx k1, hi, Int.toNat_natCast, hw]; rfl
   have hbl : b.label.size ≤ 64 := by
    have := fb
    unfold OpD.formed at this
    rw [Bool.and_eq_true, if_neg (by omega), if_neg (by omega), if_neg (by omega), if_neg (by omega), if_pos k5, decide_eq_true_eq] at this
    exact this.2
   have fa2 : ({ a with label := b.label } : OpD).formed = true := by
    have := fa
    unfold OpD.formed at this ⊢
    rw [Bool.and_eq_true, if_pos k1, Bool.and_eq_true] at this
    rw [Bool.and_eq_true, if_pos (show ({ a with label := b.label } : OpD).kind = 1 from k1), Bool.and_eq_true]
    exact ⟨this.1, this.2.1, decide_eq_true hbl⟩
   have hv : validD t { a with label := b.label } = 0 := (valid_iff _ _).2 ⟨r1, fa2, fun h => by rcases h with h | h <;> (have : a.kind = _ := h; omega), x, hx, by
    unfold tailE
    rw [if_pos (show ({ a with label := b.label } : OpD).kind = 1 from k1), into_iff]
    exact ⟨hlf, g1⟩⟩
   refine sole _ _ hv ?_
   have hy2 : w.at? b.path = some (newD a) := by
    rw [← hpath, hi, at_app _ _ (at_put_same hw), at_step (ins_eq hin), at_nil]
   obtain ⟨nb, hnb⟩ : ∃ n, newD { a with label := b.label } = n := ⟨_, rfl⟩
   have hlb : labT (newD a) b.label = nb := by rw [← hnb]; rfl
   rw [do1 (o := { a with label := b.label }) hx k1, hnb]
   show (t.put a.path (insD x a.at_.toNat nb)).getD Nd.zero = doD (doD t a) b
   rw [hi, Int.toNat_natCast, h1, do5 hy2 k5, ← hpath, hi, hlb]
   have hput : (insD x i (newD a)).put [(i : Int)] nb = some (insD x i nb) := by
    rw [Bw.put_some (k := newD a) (k' := nb) (ins_eq hin) Bw.put_nil]
    congr 1
    unfold insD
    rw [withKids_kids, withKids_twice]
    congr 1
    rw [List.append_assoc, List.set_append_right _ _ (by rw [List.length_take]; omega)]
    have : i - (x.kids.take i).length = 0 := by rw [List.length_take]; omega
    rw [this, List.append_assoc]
    rfl
   rw [put_app _ _ _ (at_put_same hw) hput, put_over _ _ hw]
  ·split at hp
   case isFalse => cases hp
   case isTrue hc =>
   obtain ⟨hkk, hpp⟩ := hc
   obtain ⟨w, hw⟩ : ∃ w, doD t a = w := ⟨_, rfl⟩
   unfold pairS at hp
   split at hp
   ·next k5 =>
    cases hp
    have k5b : b.kind = 5 := by omega
    obtain ⟨z, hz⟩ := put_is (labT x a.label) hx
    have h1 : doD t a = z := by rw [do5 hx k5, hz]; rfl
    have hyz : z.at? b.path = some (labT x a.label) := by rw [← hpp]; exact at_put_same hz
    have hxb : t.at? b.path = some x := by rw [← hpp]; exact hx
    refine sole _ _ ((valid_iff _ _).2 ⟨r1, fb, nb, x, hxb, by unfold tailE; rw [if_neg (by omega), if_neg (by omega), if_neg (by omega)]⟩) ?_
    rw [h1, do5 hyz k5b, do5 hxb k5b, ← hpp, put_over _ _ hz]
    rfl
   ·split at hp
    ·next k4 =>
     split at hp
     case isFalse => cases hp
     case isTrue hkey =>
     cases hp
     have k4b : b.kind = 4 := by omega
     obtain ⟨z, hz⟩ := put_is (attrT x a) hx
     have h1 : doD t a = z := by rw [do4 hx k4, hz]; rfl
     have hyz : z.at? b.path = some (attrT x a) := by rw [← hpp]; exact at_put_same hz
     have hxb : t.at? b.path = some x := by rw [← hpp]; exact hx
     refine sole _ _ ((valid_iff _ _).2 ⟨r1, fb, nb, x, hxb, by unfold tailE; rw [if_neg (by omega), if_neg (by omega), if_neg (by omega)]⟩) ?_
     have hasc : Asc x.attrs := by
      have := r1
      unfold Nd.right at this
      rw [Bool.and_eq_true] at this
      exact right_asc _ this.2 hx
     have hatt : attrT (attrT x a) b = attrT x b := by
      unfold attrT
      show Nd.mk x.id x.leaf x.label (atS b.key b.value (atS a.key a.value x.attrs a.gone) b.gone) x.text x.kids = _
      rw [hkey, atS_two _ _ _ hasc]
     rw [h1, do4 hyz k4b, do4 hxb k4b, ← hpp, put_over _ _ hz, hatt]
    ·split at hp
     case isFalse => cases hp
     case isTrue k6 =>
     split at hp
     case isFalse => cases hp
     case isTrue hco =>
     have k6b : b.kind = 6 := by omega
     obtain ⟨x', hx', hlf, hae⟩ := valid6 ha k6
     rw [hx] at hx'
     cases hx'
     obtain ⟨z, hz⟩ := put_is (txtT x (apS x.text a.pcs)) hx
     have h1 : doD t a = z := by rw [do6 hx k6, hz]; rfl
     have hyz : z.at? b.path = some (txtT x (apS x.text a.pcs)) := by rw [← hpp]; exact at_put_same hz
     have hxb : t.at? b.path = some x := by rw [← hpp]; exact hx
     obtain ⟨y', hy', -, hbe⟩ := valid6 hb k6b
     rw [h1] at hy'
     rw [hyz] at hy'
     cases hy'
     have hbe2 : apE (apS x.text a.pcs) b.pcs = 0 := hbe
     obtain ⟨c1, c2⟩ := co_both hco hae hbe2
     have hend : doD (doD t a) b = (t.put a.path (txtT x (apS x.text (coL a.pcs b.pcs)))).getD Nd.zero := by
      rw [h1, do6 hyz k6b, ← hpp, put_over _ _ hz, c2]
      rfl
     split at hp
     ·next hl0 =>
      cases hp
      show t = doD (doD t a) b
      have hnil := List.eq_nil_of_length_eq_zero hl0
      rw [hend, norm_nil c1 (by rw [hnil]; rfl), nd_txt, put_same hx]
      rfl
     ·next hl0 =>
      cases hp
      have kb6 : ({ b with pcs := coL a.pcs b.pcs } : OpD).kind = 6 := k6b
      have fo : ({ b with pcs := coL a.pcs b.pcs } : OpD).formed = true := by
       have := fb
       unfold OpD.formed at this ⊢
       rw [Bool.and_eq_true] at this
       rw [Bool.and_eq_true, if_neg (by rw [kb6]; decide), if_neg (by rw [kb6]; decide), if_neg (by rw [kb6]; decide), if_neg (by rw [kb6]; decide), if_neg (by rw [kb6]; decide), if_pos kb6]
       exact ⟨this.1, (coL_facts hco).2.2.1⟩
      refine sole _ _ ((valid_iff _ _).2 ⟨r1, fo, fun h => by rcases h with h | h <;> (have : b.kind = _ := h; omega), x, hxb, by
       unfold tailE
       rw [if_neg (by rw [kb6]; decide), if_neg (by rw [kb6]; decide), if_pos kb6, if_neg (by rw [hlf]; decide)]
       exact c1⟩) ?_
      rw [hend, do6 (o := { b with pcs := coL a.pcs b.pcs }) hxb kb6, hpp]
theorem red_do : ∀ (k : Nat) (s : List OpD) (t m : Nd), Runs t s.reverse m → Runs t (redF k s).reverse m
 | 0, s, t, m, h => by unfold redF; exact h
 | k + 1, [], t, m, h => by rw [redF_small _ (by simp)]; exact h
 | k + 1, [y], t, m, h => by rw [redF_small _ (by simp)]; exact h
 | k + 1, y :: x :: r, t, m, h => by
  rw [redF_two]
  cases hp : pairD x y with
  | none => exact h
  | some l =>
   refine red_do k (l.reverse ++ r) t m ?_
   have e1 : (y :: x :: r).reverse = r.reverse ++ [x, y] := by simp
   rw [e1, runs_app] at h
   obtain ⟨z, h1, h2⟩ := h
   rw [List.reverse_append, List.reverse_reverse, runs_app]
   exact ⟨z, h1, pair_do h2 hp⟩
theorem steps_do : ∀ (l s : List OpD) (t z m : Nd), Runs t s.reverse z → Runs z l m → Runs t (stepsD s l).reverse m
 | [], s, t, z, m, h1, h2 => by cases h2; exact h1
 | o :: l, s, t, z, m, h1, ⟨h2, h3⟩ => by
  rw [stepsD_cons]
  unfold stepD
  by_cases hi : idleD o = true
  ·rw [if_pos hi]
   rw [idle_do h2 hi] at h3
   exact steps_do l s t z m h1 h3
  ·rw [if_neg hi]
   refine steps_do l _ t (doD z o) m ?_ h3
   refine red_do _ _ t _ ?_
   rw [List.reverse_cons, runs_app]
   exact ⟨z, h1, (bare_valid h2).1, (bare_valid h2).2⟩
/-- THE LAW: a list, simplified, makes the same tree. -/
theorem keeps {t : Nd} {l : List OpD} (h : (allD t l).2.2 = 0) : allD t (listD l) = ((allD t l).1, (listD l).length, 0) := by
 unfold allD at h ⊢
 by_cases hr : t.right = false
 ·rw [if_pos hr] at h; cases h
 ·rw [if_neg hr] at h ⊢
  obtain ⟨m, h1, h2⟩ := (go_runs l t 0).1 h
  have h3 := steps_do l [] t t m rfl h1
  rw [h2]
  rw [Runs.go (l := listD l) h3 0, Nat.zero_add, if_neg hr]
end Go.Proofs.Ytkimbpeapolcbaa.Sy
namespace Go.Proofs.Ytkimbpeapolcbaa.Sy
open Go.RowKit Go.Proofs.Ytkimbpeapolcbaa.Bw Go.Proofs.Ytkimbpeapolcbaa.Bs

/-- What a light operation has. -/
structure LightD (o : OpD) : Prop where
 path : o.path.length ≤ 200
 tto : o.to.length ≤ 200
 pcs : o.pcs.length ≤ 200
 sum : sumP o.pcs ≤ 300
 strs : o.label.size ≤ 200 ∧ o.key.size ≤ 200 ∧ o.value.size ≤ 200
theorem LightD.ok {o : OpD} (h : LightD o) : OkLen o := ⟨by have := h.path; omega, by have := h.tto; omega, by have := h.pcs; omega⟩
theorem light_lens {o : OpD} (h : o.light 200 = true) : o.path.length ≤ 200 ∧ o.to.length ≤ 200 ∧ o.pcs.length ≤ 200 ∧ o.label.size ≤ 200 ∧ o.key.size ≤ 200 ∧ o.value.size ≤ 200 := by
 unfold OpD.light at h
 simp only [Bool.and_eq_true, decide_eq_true_eq] at h
 omega
set_option maxRecDepth 100000 in
set_option maxHeartbeats 2000000 in
theorem light8_any (o : OpD) (v : Value) (w : World) (h : o.rd w v) : Calls Try.prog 8 #[v] w (Ret w fun r _ => ∃ b, r = .bool b ∧ (b = true → LightD o)) := by
 have HRD := Lib.hid h
 obtain ⟨pA, pc, tA, tc, cA, cc, rfl, hP, hT, hC⟩ := rdO_cells h
 obtain ⟨w1, hw1⟩ : ∃ W, w.alloc (.cells #[.int .u8 o.kind, .slice pA o.path.length pc, .int .i64 o.at_, .slice tA o.to.length tc, .int .u64 o.id, .bool o.leaf, .string o.label, .string o.key, .string o.value, .bool o.gone, .slice cA o.pcs.length cc] 26) = W := ⟨_, rfl⟩
 obtain ⟨X, hX⟩ : ∃ X, w.heap.size = X := ⟨_, rfl⟩
 have E1 : Ext w w1 := by rw [← hw1]; exact (Ext.refl w).alloc _
 have HE := Lib.hid E1
 have HB := Lib.hid (show NBox w1 X 26 #[.int .u8 o.kind, .slice pA o.path.length pc, .int .i64 o.at_, .slice tA o.to.length tc, .int .u64 o.id, .bool o.leaf, .string o.label, .string o.key, .string o.value, .bool o.gone, .slice cA o.pcs.length cc] from by rw [← hw1, ← hX]; exact NBox.new _ _ _)
 have HC := Lib.hid hC
 have HW := Lib.hid hw1
 have HXX := Lib.hid hX
 have hc := light_any o _ 200 w1 (OpD.rd_ext E1 h) (by omega)
 have HLL := Lib.hid (fun (h : o.light 200 = true) => light_lens h)
 obtain ⟨f, hf⟩ : ∃ f, o.light 200 = f := ⟨_, rfl⟩
 rw [hf] at hc HLL
 have k0 := HB.out.cell 0
 have k1 := HB.out.cell 1
 have k2 := HB.out.cell 2
 have k3 := HB.out.cell 3
 have k4 := HB.out.cell 4
 have k5 := HB.out.cell 5
 have k6 := HB.out.cell 6
 have k7 := HB.out.cell 7
 have k8 := HB.out.cell 8
 have k9 := HB.out.cell 9
 have k10 := HB.out.cell 10
 clear hw1 hX E1 h hf hP hT hC
 go_enter Try.func8, Try.ntmps8
 go_upto_region 1 with fail
 rw [HW.out, HXX.out]
 clear HW HXX
 go_wp2_with fail
 refine hc.mono ?_
 clear hc k0 k1 k2 k3 k4 k5 k6 k7 k8 k9 k10
 rintro e w2 ⟨r, rfl, rfl, hE⟩
 have HE' := Lib.hid (HE.out.trans hE)
 have HB' := Lib.hid (HB.out.ext hE)
 clear hE HE HB
 cases f with
 | false =>
  go_wp2_with fail
  go_ret
  exact ⟨_, rfl, ⟨false, rfl, fun h => Bool.noConfusion h⟩, HE'.out⟩
 | true =>
 obtain ⟨h1, h2, h3, h4⟩ := HLL.out rfl
 have H123 := Lib.hid (show o.path.length ≤ 200 ∧ o.to.length ≤ 200 ∧ o.pcs.length ≤ 200 ∧ o.label.size ≤ 200 ∧ o.key.size ≤ 200 ∧ o.value.size ≤ 200 from ⟨h1, h2, h3, h4⟩)
 clear HLL h1 h2 h3 h4
 have k10 := HB'.out.cell 10
 have hc := small_any o.pcs _ 300 w2 (RdP.ext HE'.out HC.out) (by decide) (by decide)
 go_wp2_with fail
 refine hc.mono ?_
 clear hc k10
 rintro e w3 ⟨r, rfl, ⟨b, rfl, hb⟩, hE⟩
 have HE2 := Lib.hid (HE'.out.trans hE)
 clear hE HE' HB'
 cases b with
 | false =>
  clear hb
  go_wp2_with fail
  go_ret
  exact ⟨_, rfl, ⟨false, rfl, fun h => Bool.noConfusion h⟩, HE2.out⟩
 | true =>
  have HBB := Lib.hid (hb rfl)
  clear hb
  go_wp2_with fail
  go_ret
  exact ⟨_, rfl, ⟨true, rfl, fun _ => ⟨H123.out.1, H123.out.2.1, H123.out.2.2.1, HBB.out.2, H123.out.2.2.2⟩⟩, HE2.out⟩
end Go.Proofs.Ytkimbpeapolcbaa.Sy
namespace Go.Proofs.Ytkimbpeapolcbaa.Sy
open Go.RowKit Go.Proofs.Ytkimbpeapolcbaa.Bw Go.Proofs.Ytkimbpeapolcbaa.Bs

/-- wg's cells stand in each world that has those of wo, and what was made since w as it is in cur, but for S. -/
structure GW (wo w wg cur : World) (S : Nat → Prop) : Prop where
  grd : ∀ W, Sub wo W → (∀ k, w.heap.size ≤ k → k < cur.heap.size → ¬ S k → W.heap[k]? = cur.heap[k]?) → Sub wg W
  base : Wo wo cur
  size : wg.heap.size ≤ cur.heap.size
  low : w.heap.size ≤ cur.heap.size
  fresh : ∀ i, cur.heap.size ≤ i → S i
theorem GW.refl {wo w : World} (h : Wo wo w) : GW wo w wo w (fun _ => True) := ⟨fun _ h _ => h, h, h.size, Nat.le_refl _, fun _ _ => trivial⟩
theorem GW.ext {wo w wg a b : World} {S : Nat → Prop} (h : GW wo w wg a S) (k : Ext a b) : GW wo w wg b S :=
  ⟨fun W hW hN => h.grd W hW (fun i p q r => (hN i p (Nat.lt_of_lt_of_le q k.size) r).trans (k.block i q)), h.base.ext k, Nat.le_trans h.size k.size, Nat.le_trans h.low k.size, fun i hi => h.fresh i (Nat.le_trans k.size hi)⟩
theorem GW.fr {wo w wg a b : World} {S S' : Nat → Prop} (h : GW wo w wg a S) (k : Fr a b S') (hs : ∀ i, S' i → S i ∧ wo.heap.size ≤ i) : GW wo w wg b S :=
  ⟨fun W hW hN => h.grd W hW (fun i p q r => (hN i p (Nat.lt_of_lt_of_le q k.size) r).trans (k.block i q (fun hh => r (hs i hh).1))), h.base.fr k (fun i hi => (hs i hi).2), Nat.le_trans h.size k.size, Nat.le_trans h.low k.size, fun i hi => h.fresh i (Nat.le_trans k.size hi)⟩
theorem GW.now {wo w wg a : World} {S : Nat → Prop} (h : GW wo w wg a S) : Wo wg a := ⟨h.grd a h.base.sub (fun _ _ _ _ => rfl), h.size⟩
theorem GW.glue {wo w wg a b : World} {S : Nat → Prop} (h : GW wo w wg a S) (k : Ext a b) : GW wo w (Bw.glue wg a b) b (fun i => S i ∧ (i < a.heap.size ∨ b.heap.size ≤ i)) :=
  ⟨fun W hW hN => by
    have h2 := (h.ext k).grd
    refine glue_to (h.grd W hW (fun i p q r => ?_)) (fun i p q => hN i (Nat.le_trans h.low p) q (fun c => c.2.elim (fun x => absurd x (Nat.not_lt.2 p)) (fun x => absurd q (Nat.not_lt.2 x))))
    exact (hN i p (Nat.lt_of_lt_of_le q k.size) (fun c => r c.1)).trans (k.block i q),
   h.base.ext k, by rw [glue_size]; exact Nat.le_refl _, Nat.le_trans h.low k.size, fun i hi => ⟨h.fresh i (Nat.le_trans k.size hi), .inr hi⟩⟩
theorem GW.rd_glue {wo w wg a b : World} {S : Nat → Prop} (h : GW wo w wg a S) (k : Ext a b) {t : Nd} {r : Value} (hr : t.rd wg r) : t.rd (Bw.glue wg a b) r := Nd.rd_sub (glue_mine h.size k.size) hr
theorem GW.got {wo w wg a b : World} {S : Nat → Prop} (h : GW wo w wg a S) (k : Ext a b) {t : Nd} {r : Value} (hl : LateN wg a b t r) : t.rd (Bw.glue wg a b) r := hl.glue h.size k.size
theorem GW.late {wo w wg a : World} {S : Nat → Prop} (h : GW wo w wg a S) {t : Nd} {r : Value} (hr : t.rd wg r) : LateN wo w a t r := fun W hW hN => Nd.rd_sub (h.grd W hW (fun i p q _ => hN i p q)) hr
theorem GW.rd {wo w wg a : World} {S : Nat → Prop} (h : GW wo w wg a S) {t : Nd} {r : Value} (hr : t.rd wg r) : t.rd a r := Nd.rd_sub h.now.sub hr
/-- What was written since stays writable. -/
theorem GW.keep {wo w wg a b : World} {S : Nat → Prop} (_h : GW wo w wg a S) (_k : Ext a b) {i : Nat} (hi : S i) (hl : i < a.heap.size) : (fun i => S i ∧ (i < a.heap.size ∨ b.heap.size ≤ i)) i := ⟨hi, .inl hl⟩
end Go.Proofs.Ytkimbpeapolcbaa.Sy
