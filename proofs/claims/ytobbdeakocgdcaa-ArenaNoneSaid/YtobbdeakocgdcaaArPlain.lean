/- Chapter 07: the arena as plain data: slots, free numbers, and what it is for them to be a tree. Nothing of the program is named here. -/
import Derived.Test.YtobbdeakocgdcaaBwData
namespace Go.Proofs.Ytobbdeakocgdcaa.Ar

/-- A slot. -/
structure Sl where
  live : Bool
  id : Int
  leaf : Bool
  label : ByteArray
  attrs : List (ByteArray × ByteArray)
  text : ByteArray
  parent : Int
  kids : List Nat
/-- Data. -/
structure Da where
  id : Int
  leaf : Bool
  label : ByteArray
  attrs : List (ByteArray × ByteArray)
  text : ByteArray
def Sl.zero : Sl := ⟨false, 0, false, ⟨#[]⟩, [], ⟨#[]⟩, 0, []⟩
def Da.sl (d : Da) (parent : Int) (kids : List Nat) : Sl := ⟨true, d.id, d.leaf, d.label, d.attrs, d.text, parent, kids⟩
/-- An arena. -/
structure St where
  sl : List Sl
  free : List Nat
def St.kidsSet (S : St) (p : Nat) (ks : List Nat) : St := ⟨S.sl.modify p (fun s => { s with kids := ks }), S.free⟩
def St.parSet (S : St) (p : Nat) (q : Int) : St := ⟨S.sl.modify p (fun s => { s with parent := q }), S.free⟩
def insAt (l : List Nat) (i x : Nat) : List Nat := l.take i ++ x :: l.drop i

/-- A slot's number and all below it, in the order of the document: of a row of numbers. -/
inductive PreL (S : St) : List Nat → List Nat → Prop
  | nil : PreL S [] []
  | cons {n : Nat} {s : Sl} {r l1 l2 : List Nat} : S.sl[n]? = some s → PreL S s.kids l1 → PreL S r l2 → PreL S (n :: r) (n :: (l1 ++ l2))
/-- y is x, or above it. -/
inductive Anc (S : St) : Nat → Nat → Prop
  | refl (x : Nat) : Anc S x x
  | up {x p y : Nat} {s : Sl} : S.sl[x]? = some s → s.parent = (p : Int) → Anc S p y → Anc S x y

/-- The arena is a tree; d: how deep slots are, or more. -/
structure TI (S : St) (d : Nat → Nat) : Prop where
  root : ∃ s : Sl, S.sl[0]? = some s ∧ s.live = true ∧ s.parent = -1
  up : ∀ (n : Nat) (s : Sl), S.sl[n]? = some s → s.live = true → n ≠ 0 → ∃ (p : Nat) (t : Sl), s.parent = (p : Int) ∧ S.sl[p]? = some t ∧ t.live = true ∧ n ∈ t.kids ∧ d p < d n
  down : ∀ (n : Nat) (s : Sl), S.sl[n]? = some s → s.live = true → ∀ k ∈ s.kids, k ≠ 0 ∧ ∃ t : Sl, S.sl[k]? = some t ∧ t.live = true ∧ t.parent = (n : Int)
  nd : ∀ (n : Nat) (s : Sl), S.sl[n]? = some s → s.kids.Nodup
  dead : ∀ (n : Nat) (s : Sl), S.sl[n]? = some s → s.live = false → s = Sl.zero ∧ n ∈ S.free
  fr : ∀ x ∈ S.free, ∃ s : Sl, S.sl[x]? = some s ∧ s.live = false
  fnd : S.free.Nodup

theorem lt_of_get {α : Type} {l : List α} {n : Nat} {x : α} (h : l[n]? = some x) : n < l.length := (List.getElem?_eq_some_iff.1 h).1

theorem PreL.app {S : St} {a b l m : List Nat} (h : PreL S a l) (k : PreL S b m) : PreL S (a ++ b) (l ++ m) := by
  induction h with
  | nil => exact k
  | cons h1 h2 _ _ ih =>
    rw [List.cons_append, List.cons_append, List.append_assoc]
    exact .cons h1 h2 ih
theorem PreL.split {S : St} : ∀ {a b l : List Nat}, PreL S (a ++ b) l → ∃ l1 l2, l = l1 ++ l2 ∧ PreL S a l1 ∧ PreL S b l2
  | [], _, l, h => ⟨[], l, rfl, .nil, h⟩
  | n :: a, b, l, h => by
    cases h with
    | cons h1 h2 h3 =>
      obtain ⟨m1, m2, rfl, h4, h5⟩ := PreL.split (a := a) h3
      exact ⟨_, m2, by rw [← List.append_assoc, ← List.cons_append], .cons h1 h2 h4, h5⟩
theorem PreL.det {S : St} {a l : List Nat} (h : PreL S a l) : ∀ {m}, PreL S a m → l = m := by
  induction h with
  | nil => intro m k; cases k; rfl
  | cons h1 _ _ ih2 ih3 =>
    intro m k
    cases k with
    | cons k1 k2 k3 =>
      rw [h1] at k1; cases k1
      rw [ih2 k2, ih3 k3]
theorem PreL.same {S S' : St} {a l : List Nat} (h : PreL S a l) : (∀ x ∈ l, S'.sl[x]? = S.sl[x]?) → PreL S' a l := by
  induction h with
  | nil => intro _; exact .nil
  | cons h1 _ _ ih2 ih3 =>
    intro he
    exact .cons ((he _ (by simp)).trans h1) (ih2 (fun x hx => he x (by simp [hx]))) (ih3 (fun x hx => he x (by simp [hx])))
theorem PreL.lt {S : St} {a l : List Nat} (h : PreL S a l) : ∀ x ∈ l, x < S.sl.length := by
  induction h with
  | nil => intro x hx; cases hx
  | cons h1 _ _ ih2 ih3 =>
    intro x hx
    rcases List.mem_cons.1 hx with rfl | hx
    · exact lt_of_get h1
    · rcases List.mem_append.1 hx with hx | hx
      · exact ih2 x hx
      · exact ih3 x hx
theorem PreL.sub {S : St} {a l : List Nat} (h : PreL S a l) : ∀ x ∈ a, x ∈ l := by
  induction h with
  | nil => intro x hx; cases hx
  | cons _ _ _ _ ih3 =>
    intro x hx
    rcases List.mem_cons.1 hx with rfl | hx
    · simp
    · have := ih3 x hx; simp [this]
/-- What is gone through is shut under children. -/
theorem PreL.shut {S : St} {a l : List Nat} (h : PreL S a l) : ∀ x ∈ l, ∀ s : Sl, S.sl[x]? = some s → ∀ k ∈ s.kids, k ∈ l := by
  induction h with
  | nil => intro x hx; cases hx
  | cons h1 h2 _ ih2 ih3 =>
    intro x hx s hs k hk
    rcases List.mem_cons.1 hx with rfl | hx
    · rw [h1] at hs; cases hs
      have := h2.sub k hk
      simp [this]
    · rcases List.mem_append.1 hx with hx | hx
      · have := ih2 x hx s hs k hk; simp [this]
      · have := ih3 x hx s hs k hk; simp [this]

theorem Anc.trans {S : St} {x y z : Nat} (h : Anc S x y) (k : Anc S y z) : Anc S x z := by
  induction h with
  | refl => exact k
  | up h1 h2 _ ih => exact .up h1 h2 (ih k)
/-- Of two above one, one is above the other. -/
theorem Anc.line {S : St} {x y z : Nat} (h : Anc S x y) : Anc S x z → Anc S y z ∨ Anc S z y := by
  induction h with
  | refl => intro k; exact .inl k
  | up h1 h2 h3 ih =>
    intro k
    cases k with
    | refl => exact .inr (.up h1 h2 h3)
    | up k1 k2 k3 =>
      rw [h1] at k1; cases k1
      have := h2.symm.trans k2
      obtain rfl : _ = _ := Int.ofNat.inj this
      exact ih k3

section
variable {S : St} {d : Nat → Nat}
theorem TI.live_up (h : TI S d) {x : Nat} {s : Sl} {p : Nat} (hs : S.sl[x]? = some s) (hl : s.live = true) (hp : s.parent = (p : Int)) : x ≠ 0 ∧ ∃ t : Sl, S.sl[p]? = some t ∧ t.live = true ∧ x ∈ t.kids ∧ d p < d x := by
  have h0 : x ≠ 0 := by
    rintro rfl
    obtain ⟨r, hr, _, h2⟩ := h.root
    rw [hs] at hr; cases hr
    rw [hp] at h2; omega
  obtain ⟨q, t, h1, h2, h3, h4, h5⟩ := h.up x s hs hl h0
  rw [hp] at h1
  obtain rfl : p = q := Int.ofNat.inj h1
  exact ⟨h0, t, h2, h3, h4, h5⟩
theorem Anc.live (h : TI S d) {x y : Nat} (ha : Anc S x y) : (∃ s : Sl, S.sl[x]? = some s ∧ s.live = true) → ∃ s : Sl, S.sl[y]? = some s ∧ s.live = true := by
  induction ha with
  | refl => exact id
  | up h1 h2 _ ih =>
    rintro ⟨s, hs, hl⟩
    rw [h1] at hs; cases hs
    obtain ⟨_, t, h3, h4, _⟩ := h.live_up h1 hl h2
    exact ih ⟨t, h3, h4⟩
theorem Anc.le (h : TI S d) {x y : Nat} (ha : Anc S x y) : (∃ s : Sl, S.sl[x]? = some s ∧ s.live = true) → d y ≤ d x := by
  induction ha with
  | refl => intro _; exact Nat.le_refl _
  | up h1 h2 _ ih =>
    rintro ⟨s, hs, hl⟩
    rw [h1] at hs; cases hs
    obtain ⟨_, t, h3, h4, _, h5⟩ := h.live_up h1 hl h2
    have := ih ⟨t, h3, h4⟩
    omega
/-- Each live slot is below the root. -/
theorem TI.top (h : TI S d) : ∀ (N x : Nat) (s : Sl), d x ≤ N → S.sl[x]? = some s → s.live = true → Anc S x 0
  | N, x, s, hN, hs, hl => by
    rcases Nat.eq_zero_or_pos x with rfl | h0
    · exact .refl _
    · obtain ⟨p, t, h1, h2, h3, _, h5⟩ := h.up x s hs hl (by omega)
      cases N with
      | zero => omega
      | succ N => exact .up hs h1 (h.top N p t (by omega) h2 h3)
/-- What is gone through: the live slots below those of the row. -/
theorem PreL.under (h : TI S d) {a l : List Nat} (hp : PreL S a l) : (∀ k ∈ a, ∃ s : Sl, S.sl[k]? = some s ∧ s.live = true) → ∀ x ∈ l, (∃ s : Sl, S.sl[x]? = some s ∧ s.live = true) ∧ ∃ k ∈ a, Anc S x k := by
  induction hp with
  | nil => intro _ x hx; cases hx
  | @cons n s r l1 l2 h1 _ _ ih2 ih3 =>
    intro ha x hx
    obtain ⟨s', hs', hl⟩ := ha n (by simp)
    rw [h1] at hs'; cases hs'
    rcases List.mem_cons.1 hx with rfl | hx
    · exact ⟨⟨s, h1, hl⟩, x, by simp, .refl _⟩
    · rcases List.mem_append.1 hx with hx | hx
      · obtain ⟨h5, k, hk, h6⟩ := ih2 (fun k hk => by obtain ⟨_, t, h7, h8, _⟩ := h.down n s h1 hl k hk; exact ⟨t, h7, h8⟩) x hx
        obtain ⟨_, t, h7, _, h9⟩ := h.down n s h1 hl k hk
        exact ⟨h5, n, by simp, h6.trans (.up h7 h9 (.refl _))⟩
      · obtain ⟨h5, k, hk, h6⟩ := ih3 (fun k hk => ha k (by simp [hk])) x hx
        exact ⟨h5, k, by simp [hk], h6⟩
theorem PreL.all (h : TI S d) {a l : List Nat} (hp : PreL S a l) {x k : Nat} (ha : Anc S x k) : (∃ s : Sl, S.sl[x]? = some s ∧ s.live = true) → k ∈ a → x ∈ l := by
  induction ha with
  | refl => intro _ hk; exact hp.sub _ hk
  | @up x p y s h1 h2 h3 ih =>
    rintro ⟨s', hs, hl⟩ hk
    rw [h1] at hs; cases hs
    obtain ⟨_, t, h4, h5, h6, _⟩ := h.live_up h1 hl h2
    exact hp.shut p (ih ⟨t, h4, h5⟩ hk) t h4 x h6
/-- None of a row is above another one. -/
def Flat (S : St) (a : List Nat) : Prop := a.Pairwise (fun x y => ¬ Anc S x y ∧ ¬ Anc S y x)
theorem TI.flat (h : TI S d) {n : Nat} {s : Sl} (hs : S.sl[n]? = some s) (hl : s.live = true) : Flat S s.kids := by
  have hnd := h.nd n s hs
  refine List.Pairwise.imp_of_mem ?_ hnd
  intro x y hx hy hxy
  obtain ⟨_, t, h1, h2, h3⟩ := h.down n s hs hl x hx
  obtain ⟨_, u, h4, h5, h6⟩ := h.down n s hs hl y hy
  have key : ∀ {x y : Nat} {t u : Sl}, S.sl[x]? = some t → t.live = true → t.parent = (n : Int) → S.sl[y]? = some u → u.live = true → u.parent = (n : Int) → x ≠ y → ¬ Anc S x y := by
    intro x y t u h1 h2 h3 h4 h5 h6 hne ha
    cases ha with
    | refl => exact hne rfl
    | up k1 k2 k3 =>
      rw [h1] at k1; cases k1
      rw [h3] at k2
      obtain rfl : n = _ := Int.ofNat.inj k2
      have := k3.le h ⟨s, hs, hl⟩
      obtain ⟨_, t', h7, _, _, h8⟩ := h.live_up h4 h5 h6
      omega
  exact ⟨key h1 h2 h3 h4 h5 h6 hxy, key h4 h5 h6 h1 h2 h3 (Ne.symm hxy)⟩
theorem PreL.nodup (h : TI S d) {a l : List Nat} (hp : PreL S a l) : (∀ k ∈ a, ∃ s : Sl, S.sl[k]? = some s ∧ s.live = true) → Flat S a → l.Nodup := by
  induction hp with
  | nil => intro _ _; exact List.nodup_nil
  | @cons n s r l1 l2 h1 h2 h3 ih2 ih3 =>
    intro ha hf
    obtain ⟨s', hs', hl⟩ := ha n (by simp)
    rw [h1] at hs'; cases hs'
    have hk : ∀ k ∈ s.kids, ∃ t : Sl, S.sl[k]? = some t ∧ t.live = true := fun k hk => by obtain ⟨_, t, h7, h8, _⟩ := h.down n s h1 hl k hk; exact ⟨t, h7, h8⟩
    have hr : ∀ k ∈ r, ∃ t : Sl, S.sl[k]? = some t ∧ t.live = true := fun k hk => ha k (by simp [hk])
    obtain ⟨hf1, hf2⟩ := List.pairwise_cons.1 hf
    have n1 := ih2 hk (h.flat h1 hl)
    have n2 := ih3 hr hf2
    -- all of l1 lie below n, but n does not
    have b1 : ∀ x ∈ l1, Anc S x n ∧ d n < d x := by
      intro x hx
      obtain ⟨h5, k, hk1, h6⟩ := h2.under h hk x hx
      obtain ⟨_, t, h7, h8, h9⟩ := h.down n s h1 hl k hk1
      obtain ⟨_, _, _, _, _, h10⟩ := h.live_up h7 h8 h9
      have := h6.le h h5
      exact ⟨h6.trans (.up h7 h9 (.refl _)), by omega⟩
    rw [List.nodup_cons, List.nodup_append]
    refine ⟨?_, n1, n2, ?_⟩
    · intro hx
      rcases List.mem_append.1 hx with hx | hx
      · have := (b1 n hx).2; omega
      · obtain ⟨_, k, hk1, h6⟩ := h3.under h hr n hx
        exact (hf1 k hk1).1 h6
    · intro x hx y hy he
      subst he
      obtain ⟨_, k, hk1, h6⟩ := h3.under h hr x hy
      rcases (b1 x hx).1.line h6 with h7 | h7
      · exact (hf1 k hk1).1 h7
      · exact (hf1 k hk1).2 h7
/-- There is a way through. -/
theorem TI.pre (h : TI S d) (B : Nat) (hB : ∀ (x : Nat) (s : Sl), S.sl[x]? = some s → s.live = true → d x ≤ B) : ∀ (N : Nat) (a : List Nat), (∀ k ∈ a, ∃ s : Sl, S.sl[k]? = some s ∧ s.live = true ∧ B ≤ d k + N) → ∃ l, PreL S a l := by
  intro N
  induction N with
  | zero =>
    intro a
    induction a with
    | nil => intro _; exact ⟨[], .nil⟩
    | cons n r ih =>
      intro ha
      obtain ⟨s, h1, hl, hb⟩ := ha n (by simp)
      obtain ⟨l2, h2⟩ := ih (fun k hk => ha k (by simp [hk]))
      have : s.kids = [] := by
        cases hk : s.kids with
        | nil => rfl
        | cons k ks =>
          obtain ⟨_, t, h7, h8, h9⟩ := h.down n s h1 hl k (by rw [hk]; simp)
          obtain ⟨_, _, _, _, _, h10⟩ := h.live_up h7 h8 h9
          have := hB k t h7 h8
          omega
      exact ⟨_, .cons h1 (by rw [this]; exact .nil) h2⟩
  | succ N ihN =>
    intro a
    induction a with
    | nil => intro _; exact ⟨[], .nil⟩
    | cons n r ih =>
      intro ha
      obtain ⟨s, h1, hl, hb⟩ := ha n (by simp)
      obtain ⟨l2, h2⟩ := ih (fun k hk => ha k (by simp [hk]))
      obtain ⟨l1, h3⟩ := ihN s.kids (fun k hk => by
        obtain ⟨_, t, h7, h8, h9⟩ := h.down n s h1 hl k hk
        obtain ⟨_, _, _, _, _, h10⟩ := h.live_up h7 h8 h9
        exact ⟨t, h7, h8, by omega⟩)
      exact ⟨_, .cons h1 h3 h2⟩
end
theorem bound_all (d : Nat → Nat) : ∀ N : Nat, ∃ B, ∀ x, x < N → d x ≤ B
  | 0 => ⟨0, fun x h => by omega⟩
  | N + 1 => by
    obtain ⟨B, h⟩ := bound_all d N
    refine ⟨max B (d N), fun x hx => ?_⟩
    rcases Nat.lt_or_ge x N with h1 | h1
    · have := h x h1; omega
    · obtain rfl : x = N := by omega
      omega
theorem TI.pre1 {S : St} {d : Nat → Nat} (h : TI S d) {n : Nat} {s : Sl} (hs : S.sl[n]? = some s) (hl : s.live = true) : ∃ l, PreL S [n] (n :: l) ∧ PreL S s.kids l := by
  obtain ⟨B, hB⟩ := bound_all d S.sl.length
  obtain ⟨l, hp⟩ := h.pre B (fun x s hs _ => hB x (lt_of_get hs)) B s.kids (fun k hk => by
    obtain ⟨_, t, h7, h8, _⟩ := h.down n s hs hl k hk
    exact ⟨t, h7, h8, by omega⟩)
  refine ⟨l, ?_, hp⟩
  have := PreL.cons hs hp .nil
  simpa using this
/-- Numbers below N, none twice, are at most N. -/
theorem nodup_len : ∀ (N : Nat) (l : List Nat), l.Nodup → (∀ x ∈ l, x < N) → l.length ≤ N
  | 0, l, _, h => by
    cases l with
    | nil => simp
    | cons a r => have := h a (by simp); omega
  | N + 1, l, hn, h => by
    have h1 := nodup_len N (l.filter (· != N)) (hn.filter _) (fun x hx => by
      obtain ⟨h2, h3⟩ := List.mem_filter.1 hx
      have := h x h2
      have : x ≠ N := by simpa using h3
      omega)
    have h2 : ∀ (l : List Nat), l.Nodup → l.length ≤ (l.filter (· != N)).length + 1 := by
      intro l
      induction l with
      | nil => intro _; simp
      | cons a r ih =>
        intro hn
        obtain ⟨h3, h4⟩ := List.nodup_cons.1 hn
        by_cases ha : a = N
        · subst ha
          have : (r.filter (· != a)) = r := List.filter_eq_self.2 (fun x hx => by simp; rintro rfl; exact h3 hx)
          simp [this]
        · have := ih h4
          simp [ha]; omega
    have := h2 l hn
    omega
theorem TI.kids_len {S : St} {d : Nat → Nat} (h : TI S d) {n : Nat} {s : Sl} (hs : S.sl[n]? = some s) : s.kids.length ≤ S.sl.length := by
  rcases hl : s.live with _ | _
  · rw [(h.dead n s hs hl).1]; exact Nat.zero_le _
  · exact nodup_len _ _ (h.nd n s hs) (fun x hx => by obtain ⟨_, t, h1, _⟩ := h.down n s hs hl x hx; exact lt_of_get h1)
theorem TI.free_len {S : St} {d : Nat → Nat} (h : TI S d) : S.free.length ≤ S.sl.length :=
  nodup_len _ _ h.fnd (fun x hx => by obtain ⟨s, h1, _⟩ := h.fr x hx; exact lt_of_get h1)
end Go.Proofs.Ytobbdeakocgdcaa.Ar
