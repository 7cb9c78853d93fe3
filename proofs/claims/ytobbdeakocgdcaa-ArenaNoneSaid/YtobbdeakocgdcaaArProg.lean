/- Chapter 07: the program's arena, each call as a function of the plain data. -/
import Derived.Test.YtobbdeakocgdcaaArWhole
namespace Go.Proofs.Ytobbdeakocgdcaa.Ar
open Go.RowKit Go.Proofs.Ytobbdeakocgdcaa.Bw

/-- The arena at block A is the plain one, a tree, of at most K slots and slabs. -/
def PI (w : World) (ρ : Nat → Tg) (base A : Nat) (S : St) (K : Nat) : Prop := ∃ sv fv bs d, AP w ρ base A S sv fv bs ∧ TI S d ∧ S.sl.length ≤ K ∧ bs.length ≤ K
/-- What a call on the arena hands back. -/
def CallR (w : World) (ρ : Nat → Tg) (base A : Nat) (S' : St) (K : Nat) (r : Value) (e : Ending) (w' : World) : Prop := e = .returned r ∧ ∃ ρ', PI w' ρ' base A S' K ∧ Step w ρ w' ρ'
section
variable {w : World} {ρ : Nat → Tg} {base A : Nat} {S : St} {K : Nat}
theorem PI.fr {w' : World} (h : PI w ρ base A S K) (k : Fr w w' (fun k => ρ k = .no)) : PI w' ρ base A S K := by
  obtain ⟨sv, fv, bs, d, h1, h2, h3, h4⟩ := h
  exact ⟨sv, fv, bs, d, h1.fr k (fun _ _ => rfl) (fun g hg => Nat.lt_of_lt_of_le (h1.old g hg).2 k.size), h2, h3, h4⟩
theorem PI.ext {w' : World} (h : PI w ρ base A S K) (k : Ext w w') : PI w' ρ base A S K := h.fr (Fr.of_ext k _)
theorem PI.old (h : PI w ρ base A S K) : ∀ k, ρ k ≠ .no → base ≤ k ∧ k < w.heap.size := by
  obtain ⟨_, _, _, _, h1, _⟩ := h; exact h1.old
theorem PI.ti (h : PI w ρ base A S K) : ∃ d, TI S d := by obtain ⟨_, _, _, d, _, h2, _⟩ := h; exact ⟨d, h2⟩
theorem PI.len (h : PI w ρ base A S K) : S.sl.length ≤ K := by obtain ⟨_, _, _, _, _, _, h3, _⟩ := h; exact h3
theorem PI.mono {K' : Nat} (h : PI w ρ base A S K) (hk : K ≤ K') : PI w ρ base A S K' := by
  obtain ⟨sv, fv, bs, d, h1, h2, h3, h4⟩ := h
  exact ⟨sv, fv, bs, d, h1, h2, by omega, by omega⟩
theorem TI.kids_le {S : St} {d : Nat → Nat} (h : TI S d) (m : Nat) : (S.get m).kids.length ≤ S.sl.length := by
  rcases Nat.lt_or_ge m S.sl.length with h1 | h1
  · exact h.kids_len (get_some h1)
  · rw [St.get, List.getElem?_eq_none h1]; exact Nat.zero_le _

theorem add_op (h : PI w ρ base A S K) (hK : K < 50000) (p g : Int) (d : Da) (av : Value) (hd : DataIn w d av) (hdn : ∀ k, av.ownBlock = some k → ρ k = .no) :
    Calls Try.prog 23 #[.pointer (some ⟨A, 0, none⟩), .int .i64 p, .int .i64 g, d.val av] w (CallR w ρ base A (S.addS p g d) (K + 1) (.tuple #[.int .i64 (S.addN p g), .int .i64 (S.addE p g)])) := by
  obtain ⟨sv, fv, bs, dd, h1, h2, h3, h4⟩ := id h
  rcases hl : S.liveB p with _ | _
  · have he : S.addE p g = 5 := by unfold St.addE; rw [if_neg (by rw [hl]; simp)]
    have hn : S.addN p g = -1 := by unfold St.addN; rw [he]; rfl
    have hs : S.addS p g d = S := by unfold St.addS; rw [he]; rfl
    rw [he, hn, hs]
    refine (add_no h1 p g d av hd (liveB_no hl) (by omega)).mono ?_
    rintro e w' ⟨rfl, E⟩
    exact ⟨rfl, ρ, (h.ext E).mono (by omega), Step.ext E⟩
  · obtain ⟨k, rfl, hk, hk2⟩ := liveB_yes hl
    have he : S.addE k g = (S.get k).takes g := by unfold St.addE; rw [if_pos hl, Int.toNat_natCast]
    by_cases ht : (S.get k).takes g = 0
    · obtain ⟨_, t1, t2⟩ := takes_ok ht
      obtain ⟨gg, rfl⟩ : ∃ q : Nat, g = (q : Int) := ⟨g.toNat, by omega⟩
      have hn : S.addN k gg = (S.fresh : Int) := by unfold St.addN; rw [he, ht, if_pos rfl]
      have hs : S.addS k gg d = S.add k gg d := by unfold St.addS; rw [he, ht, if_pos rfl]; rfl
      have hkl := h2.kids_le k
      rw [he, hn, hs, ht]
      refine (add_yes h1 k gg d av hd hdn hk hk2 ht (fresh_ne h2 hk hk2) (fresh_lt h2) (by omega) (by omega) (by omega)).mono ?_
      rintro e w' ⟨rfl, ρ', sv', fv', bs', a1, _, a2, a3⟩
      obtain ⟨d', hd'⟩ := h2.addT gg d hk hk2
      exact ⟨rfl, ρ', ⟨sv', fv', bs', d', a1, hd', by have := add_len S k gg d; omega, by omega⟩, a3⟩
    · have hn : S.addN k g = -1 := by unfold St.addN; rw [he, if_neg ht]
      have hs : S.addS k g d = S := by unfold St.addS; rw [he, if_neg ht]
      rw [he, hn, hs]
      refine (add_err h1 k g d av hd hk hk2 ht (by omega)).mono ?_
      rintro e w' ⟨rfl, E⟩
      exact ⟨rfl, ρ, (h.ext E).mono (by omega), Step.ext E⟩
theorem rem_op (h : PI w ρ base A S K) (hK : K < 50000) (n : Int) :
    Calls Try.prog 24 #[.pointer (some ⟨A, 0, none⟩), .int .i64 n] w (CallR w ρ base A (S.remS n) K (.int .i64 (S.remE n))) := by
  obtain ⟨sv, fv, bs, dd, h1, h2, h3, h4⟩ := id h
  rcases hl : S.liveB n with _ | _
  · have he : S.remE n = 5 := by unfold St.remE; rw [if_neg (by rw [hl]; simp)]
    have hs : S.remS n = S := by unfold St.remS; rw [he]; rfl
    rw [he, hs]
    refine (remove_no h1 n (liveB_no hl) (by omega)).mono ?_
    rintro e w' ⟨rfl, rfl⟩
    exact ⟨rfl, ρ, h, Step.refl _ _⟩
  · by_cases h0 : n = 0
    · subst h0
      have he : S.remE 0 = 82 := by unfold St.remE; rw [if_pos hl, if_pos rfl]
      have hs : S.remS 0 = S := by unfold St.remS; rw [he]; rfl
      obtain ⟨k, hk0, hk, hk2⟩ := liveB_yes hl
      obtain rfl : 0 = k := Int.ofNat.inj hk0
      rw [he, hs]
      refine (remove_root h1 hk hk2 (by omega)).mono ?_
      rintro e w' ⟨rfl, rfl⟩
      exact ⟨rfl, ρ, h, Step.refl _ _⟩
    · have he : S.remE n = 0 := by unfold St.remE; rw [if_pos hl, if_neg h0]
      obtain ⟨k, rfl, hk, hk2, hk0⟩ := remE_ok he
      obtain ⟨p, p1, p2, p3, p4, p5, p6⟩ := h2.par hk hk2 hk0
      have hs : S.remS k = S.remove k p (S.sub k) := by unfold St.remS; rw [he, if_pos rfl, Int.toNat_natCast, p1, Int.toNat_natCast]
      obtain ⟨s1, s2, s3, s4⟩ := h2.sub_pre hk hk2
      have hfl := h2.free_len
      rw [he, hs]
      refine (remove_yes h1 k p (S.sub k) hk hk2 hk0 p2 p1 p4 (h2.sub_unlinked hk hk2 p2 p6 _) (by omega) (by omega) s1.lt (by omega)).mono ?_
      rintro e w' ⟨rfl, ρ', fv', a1, a2⟩
      exact ⟨rfl, ρ', ⟨sv, fv', bs, dd, a1, h2.removeT hk hk2 p1 p2 p6, by rw [remove_len]; exact h3, h4⟩, a2⟩
theorem mov_op (h : PI w ρ base A S K) (hK : K < 50000) (n q g : Int) :
    Calls Try.prog 25 #[.pointer (some ⟨A, 0, none⟩), .int .i64 n, .int .i64 q, .int .i64 g] w (CallR w ρ base A (S.movS n q g) K (.int .i64 (S.movE n q g))) := by
  obtain ⟨sv, fv, bs, dd, h1, h2, h3, h4⟩ := id h
  have same : ∀ e : Int, e ≠ 0 → S.movE n q g = e → (Calls Try.prog 25 #[.pointer (some ⟨A, 0, none⟩), .int .i64 n, .int .i64 q, .int .i64 g] w fun e' w' => e' = .returned (.int .i64 e) ∧ w' = w) → Calls Try.prog 25 #[.pointer (some ⟨A, 0, none⟩), .int .i64 n, .int .i64 q, .int .i64 g] w (CallR w ρ base A (S.movS n q g) K (.int .i64 (S.movE n q g))) := by
    intro e h0 he hc
    have hs : S.movS n q g = S := by unfold St.movS; rw [he, if_neg h0]
    rw [he, hs]
    refine hc.mono ?_
    rintro e' w' ⟨rfl, rfl⟩
    exact ⟨rfl, ρ, h, Step.refl _ _⟩
  by_cases hl : S.liveB n = true ∧ S.liveB q = true
  · obtain ⟨k, rfl, hk, hk2⟩ := liveB_yes hl.1
    obtain ⟨m, rfl, hm, hm2⟩ := liveB_yes hl.2
    have hE : S.movE k m g = (if (k : Int) = 0 then 82 else if m ∈ S.sub k then 84 else (S.get m).takes g) := by
      unfold St.movE; rw [if_pos hl, Int.toNat_natCast, Int.toNat_natCast]
    by_cases h0 : (k : Int) = 0
    · refine same 82 (by decide) (by rw [hE, if_pos h0]) ?_
      have := hl.1
      rw [h0] at this ⊢
      exact move_root h1 _ _ this hl.2 (by omega)
    · rw [if_neg h0] at hE
      have hk0 : k ≠ 0 := fun e => h0 (by rw [e]; rfl)
      obtain ⟨_, _, _, s4⟩ := h2.sub_pre hk hk2
      by_cases hs : m ∈ S.sub k
      · rw [if_pos hs] at hE
        exact same 84 (by decide) hE (move_cycle h1 h2 k m g hk0 hl.1 hl.2 ((s4 m).1 hs).2 (by omega))
      · rw [if_neg hs] at hE
        have hna : ¬ Anc S m k := fun ha => hs ((s4 m).2 ⟨⟨_, get_some hm, hm2⟩, ha⟩)
        by_cases ht : (S.get m).takes g = 0
        · obtain ⟨_, t1, t2⟩ := takes_ok ht
          obtain ⟨gg, rfl⟩ : ∃ q : Nat, g = (q : Int) := ⟨g.toNat, by omega⟩
          obtain ⟨p, p1, p2, p3, p4, p5, p6⟩ := h2.par hk hk2 hk0
          rw [ht] at hE
          have hsS : S.movS k m gg = S.move k p m gg := by unfold St.movS; rw [hE, if_pos rfl, Int.toNat_natCast, Int.toNat_natCast, Int.toNat_natCast, p1, Int.toNat_natCast]
          rw [hE, hsS]
          refine (move_yes h1 h2 k p m gg hk0 hl.1 hl.2 hna ht p1 p2 p4 p5 (by omega) (fun x => by have := h2.kids_le x; omega)).mono ?_
          rintro e w' ⟨rfl, ρ', a1, a2⟩
          obtain ⟨d', hd'⟩ := h2.moveT gg hk hk2 hk0 p1 p2 p3 p5 hm hm2 hna
          exact ⟨rfl, ρ', ⟨sv, fv, bs, d', a1, hd', by rw [move_len]; exact h3, h4⟩, a2⟩
        · exact same _ ht hE (move_err h1 h2 k m g hk0 hl.1 hl.2 hna ht (by omega))
  · refine same 5 (by decide) (by unfold St.movE; rw [if_neg hl]) (move_no h1 n q g ?_ (by omega))
    rcases hb : S.liveB n with _ | _
    · exact .inl rfl
    · rcases hb2 : S.liveB q with _ | _
      · exact .inr rfl
      · exact absurd ⟨hb, hb2⟩ hl
theorem set_op (h : PI w ρ base A S K) (hK : K < 50000) (n : Int) (d : Da) (av : Value) (hd : DataIn w d av) :
    Calls Try.prog 26 #[.pointer (some ⟨A, 0, none⟩), .int .i64 n, d.val av] w (CallR w ρ base A (S.setS n d) K (.int .i64 (S.setE n d))) := by
  obtain ⟨sv, fv, bs, dd, h1, h2, h3, h4⟩ := id h
  rcases hl : S.liveB n with _ | _
  · have he : S.setE n d = 5 := by unfold St.setE; rw [if_neg (by rw [hl]; simp)]
    have hs : S.setS n d = S := by unfold St.setS; rw [he]; rfl
    rw [he, hs]
    refine (set_no h1 n d av hd (liveB_no hl) (by omega)).mono ?_
    rintro e w' ⟨rfl, E⟩
    exact ⟨rfl, ρ, h.ext E, Step.ext E⟩
  · obtain ⟨k, rfl, hk, hk2⟩ := liveB_yes hl
    have hE : S.setE k d = (if d.leaf = true ∧ ((k : Int) = 0 ∨ (S.get k).kids ≠ []) then 83 else 0) := by unfold St.setE; rw [if_pos hl, Int.toNat_natCast]
    by_cases hx : d.leaf = true ∧ ((k : Int) = 0 ∨ (S.get k).kids ≠ [])
    · rw [if_pos hx] at hE
      have hs : S.setS k d = S := by unfold St.setS; rw [hE]; rfl
      rw [hE, hs]
      refine (set_leaf h1 k d av hd hk hk2 hx.1 (hx.2.imp (fun e => Int.ofNat.inj e) id) (by omega)).mono ?_
      rintro e w' ⟨rfl, E⟩
      exact ⟨rfl, ρ, h.ext E, Step.ext E⟩
    · rw [if_neg hx] at hE
      have hs : S.setS k d = S.setD k d := by unfold St.setS; rw [hE, if_pos rfl, Int.toNat_natCast]
      rw [hE, hs]
      refine (set_yes h1 k d av hd hk hk2 (fun hlf => ⟨fun e => hx ⟨hlf, .inl (by rw [e]; rfl)⟩, ?_⟩) (by omega)).mono ?_
      · rcases hkk : (S.get k).kids with _ | ⟨a, r⟩
        · rfl
        · exact absurd ⟨hlf, .inr (by rw [hkk]; simp)⟩ hx
      · rintro e w' ⟨rfl, ρ', a1, a2⟩
        exact ⟨rfl, ρ', ⟨sv, fv, bs, dd, a1, h2.setT d hk hk2, by rw [setD_len]; exact h3, h4⟩, a2⟩

/-! ### What is read -/
theorem get_op (h : PI w ρ base A S K) (hK : K < 50000) (n : Int) :
    Calls Try.prog 22 #[.pointer (some ⟨A, 0, none⟩), .int .i64 n] w fun e w' => (if S.liveB n = true then ∃ av', e = .returned (.tuple #[(S.get n.toNat).da.val av', .bool true]) ∧ w'.ownsRow w.heap.size 61 2 av' (S.get n.toNat).attrs.length (attrCells (S.get n.toNat).attrs) else e = .returned (.tuple #[zeroDa, .bool false])) ∧ Ext w w' := by
  obtain ⟨sv, fv, bs, dd, h1, h2, h3, h4⟩ := id h
  rcases hl : S.liveB n with _ | _
  · refine (get_no h1 n (liveB_no hl) (by omega)).mono ?_
    rintro e w' ⟨rfl, E⟩
    exact ⟨by rw [if_neg (by simp)], E⟩
  · obtain ⟨k, rfl, hk, hk2⟩ := liveB_yes hl
    refine (get_yes h1 k hk hk2 (by omega)).mono ?_
    rintro e w' ⟨av, rfl, hO, E⟩
    exact ⟨by rw [if_pos rfl, Int.toNat_natCast]; exact ⟨av, rfl, hO⟩, E⟩
theorem kids_op (h : PI w ρ base A S K) (hK : K < 50000) (n : Int) :
    Calls Try.prog 19 #[.pointer (some ⟨A, 0, none⟩), .int .i64 n] w (Ret w fun r w' => w'.ownsRow w.heap.size 3 1 r (if S.liveB n = true then (S.get n.toNat).kids else []).length (ints (if S.liveB n = true then (S.get n.toNat).kids else []))) := by
  obtain ⟨sv, fv, bs, dd, h1, h2, h3, h4⟩ := id h
  rcases hl : S.liveB n with _ | _
  · refine (kids_no h1 n (liveB_no hl) (by omega)).mono ?_
    rintro e w' ⟨rfl, rfl⟩
    refine ⟨_, rfl, ?_, Ext.refl _⟩
    rw [if_neg (by simp)]; exact World.ownsRow_nil _ _ _ _
  · obtain ⟨k, rfl, hk, hk2⟩ := liveB_yes hl
    refine (kids_yes h1 k hk hk2 (by omega)).mono ?_
    rintro e w' ⟨v, rfl, hO, E⟩
    refine ⟨_, rfl, ?_, E⟩
    rw [if_pos rfl, Int.toNat_natCast]; exact hO
theorem parent_op (h : PI w ρ base A S K) (hK : K < 50000) (n : Int) :
    Calls Try.prog 20 #[.pointer (some ⟨A, 0, none⟩), .int .i64 n] w fun e w' => e = .returned (.int .i64 (if S.liveB n = true then (S.get n.toNat).parent else -1)) ∧ w' = w := by
  obtain ⟨sv, fv, bs, dd, h1, h2, h3, h4⟩ := id h
  rcases hl : S.liveB n with _ | _
  · rw [if_neg (by simp)]
    exact parent_no h1 n (liveB_no hl) (by omega)
  · obtain ⟨k, rfl, hk, hk2⟩ := liveB_yes hl
    rw [if_pos rfl, Int.toNat_natCast]
    exact parent_yes h1 k hk hk2 (by omega)
theorem slots_op (h : PI w ρ base A S K) : Calls Try.prog 18 #[.pointer (some ⟨A, 0, none⟩)] w fun e w' => e = .returned (.int .i64 (S.sl.length : Int)) ∧ w' = w := by
  obtain ⟨sv, fv, bs, dd, h1, h2, h3, h4⟩ := id h
  exact slots_any h1
theorem free_op (h : PI w ρ base A S K) : Calls Try.prog 21 #[.pointer (some ⟨A, 0, none⟩)] w (Ret w fun r w' => w'.ownsRow w.heap.size 3 1 r S.free.length (ints S.free)) := by
  obtain ⟨sv, fv, bs, dd, h1, h2, h3, h4⟩ := id h
  exact (free_any h1).mono (fun e w' ⟨v, h5, h6, h7⟩ => ⟨v, h5, h6, h7⟩)
theorem walk_op (h : PI w ρ base A S K) (hK : K < 50000) (p : List Int) (pv : Value) (hp : RdS w 1 p.length (p.map (Value.int .i64)) pv) :
    Calls Try.prog 15 #[.pointer (some ⟨A, 0, none⟩), pv] w fun e w' => e = .returned (walkR (S.walk 0 p)) ∧ w' = w := by
  obtain ⟨sv, fv, bs, dd, h1, h2, h3, h4⟩ := id h
  exact walk_any h1 h2.ok p pv hp (by omega)
theorem whole_op (h : PI w ρ base A S K) (hK : K < 50000) : Calls Try.prog 17 #[.pointer (some ⟨A, 0, none⟩)] w (Ret w fun r _ => r = .bool true) := by
  obtain ⟨sv, fv, bs, dd, h1, h2, h3, h4⟩ := id h
  exact whole_any h1 h2 (by omega)
theorem new_op (d : Da) (av : Value) (w : World) (hd : DataIn w d av) :
    Calls Try.prog 10 #[d.val av] w fun e w' => ∃ A, e = .returned (.pointer (some ⟨A, 0, none⟩)) ∧ ∃ ρ, PI w' ρ w.heap.size A (St.new d) 1 ∧ Ext w w' ∧ (∀ g, g < w.heap.size → ρ g = .no) := by
  refine (new_any d av w hd).mono ?_
  rintro e w' ⟨A, rfl, ρ, sv, fv, bs, h1, h2, h3, h4⟩
  exact ⟨A, rfl, ρ, ⟨sv, fv, bs, _, h1, TI.new d, Nat.le_refl _, h2⟩, h3, h4⟩
end
end Go.Proofs.Ytobbdeakocgdcaa.Ar
