/- Chapter 10: bare operations are made fewer as they were. -/
import Derived.Test.YtkimbpeapolcbaaSyLight
import Derived.Test.YtkimbpeapolcbaaSyOuSameG
namespace Go.Proofs.Ytkimbpeapolcbaa.Sy
open Go.RowKit Go.Proofs.Ytkimbpeapolcbaa.Bw Go.Proofs.Ytkimbpeapolcbaa.Bs

theorem bare_kind (o : OpD) : (bareD o).kind = o.kind := by
  unfold bareD
  repeat' split
  all_goals first | rfl | (dsimp only; exact Eq.symm ‹_›)
theorem bare1 {o : OpD} (h : o.kind = 1) : bareD o = ⟨1, o.path, o.at_, [], o.id, o.leaf, o.label, ⟨#[]⟩, ⟨#[]⟩, false, []⟩ := by unfold bareD; rw [if_pos h]
theorem bare2 {o : OpD} (h : o.kind = 2) : bareD o = ⟨2, o.path, 0, [], 0, false, ⟨#[]⟩, ⟨#[]⟩, ⟨#[]⟩, false, []⟩ := by unfold bareD; rw [if_neg (by omega), if_pos h]
theorem bare3 {o : OpD} (h : o.kind = 3) : bareD o = ⟨3, o.path, o.at_, o.to, 0, false, ⟨#[]⟩, ⟨#[]⟩, ⟨#[]⟩, false, []⟩ := by unfold bareD; rw [if_neg (by omega), if_neg (by omega), if_pos h]
theorem bare4 {o : OpD} (h : o.kind = 4) : bareD o = ⟨4, o.path, 0, [], 0, false, ⟨#[]⟩, o.key, if o.gone then ⟨#[]⟩ else o.value, o.gone, []⟩ := by unfold bareD; rw [if_neg (by omega), if_neg (by omega), if_neg (by omega), if_pos h]
theorem bare5 {o : OpD} (h : o.kind = 5) : bareD o = ⟨5, o.path, 0, [], 0, false, o.label, ⟨#[]⟩, ⟨#[]⟩, false, []⟩ := by unfold bareD; rw [if_neg (by omega), if_neg (by omega), if_neg (by omega), if_neg (by omega), if_pos h]
theorem bare6 {o : OpD} (h : o.kind = 6) : bareD o = ⟨6, o.path, 0, [], 0, false, ⟨#[]⟩, ⟨#[]⟩, ⟨#[]⟩, false, o.pcs⟩ := by unfold bareD; rw [if_neg (by omega), if_neg (by omega), if_neg (by omega), if_neg (by omega), if_neg (by omega), if_pos h]
theorem formed_kind {o : OpD} (h : o.formed = true) : o.kind = 1 ∨ o.kind = 2 ∨ o.kind = 3 ∨ o.kind = 4 ∨ o.kind = 5 ∨ o.kind = 6 := by
  unfold OpD.formed at h
  rw [Bool.and_eq_true] at h
  obtain ⟨-, h⟩ := h
  by_cases h1 : o.kind = 1
  · exact .inl h1
  by_cases h2 : o.kind = 2
  · exact .inr (.inl h2)
  by_cases h3 : o.kind = 3
  · exact .inr (.inr (.inl h3))
  by_cases h4 : o.kind = 4
  · exact .inr (.inr (.inr (.inl h4)))
  by_cases h5 : o.kind = 5
  · exact .inr (.inr (.inr (.inr (.inl h5))))
  by_cases h6 : o.kind = 6
  · exact .inr (.inr (.inr (.inr (.inr h6))))
  simp [h1, h2, h3, h4, h5, h6] at h
theorem bare_path {o : OpD} (h : o.kind = 1 ∨ o.kind = 2 ∨ o.kind = 3 ∨ o.kind = 4 ∨ o.kind = 5 ∨ o.kind = 6) : (bareD o).path = o.path := by
  rcases h with h | h | h | h | h | h
  · rw [bare1 h]
  · rw [bare2 h]
  · rw [bare3 h]
  · rw [bare4 h]
  · rw [bare5 h]
  · rw [bare6 h]
theorem formed_bare (o : OpD) : (bareD o).formed = o.formed := by
  by_cases h1 : o.kind = 1
  · rw [bare1 h1]; simp [OpD.formed, h1]
  by_cases h2 : o.kind = 2
  · rw [bare2 h2]; simp [OpD.formed, h2]
  by_cases h3 : o.kind = 3
  · rw [bare3 h3]; simp [OpD.formed, h3]
  by_cases h4 : o.kind = 4
  · rw [bare4 h4]
    cases hg : o.gone <;> simp [OpD.formed, h4, hg]
  by_cases h5 : o.kind = 5
  · rw [bare5 h5]; simp [OpD.formed, h5]
  by_cases h6 : o.kind = 6
  · rw [bare6 h6]; simp [OpD.formed, h6]
  have hb := bare_kind o
  simp only [OpD.formed, hb, if_neg h1, if_neg h2, if_neg h3, if_neg h4, if_neg h5, if_neg h6, Bool.and_false]
theorem idle_bare (o : OpD) : idleD (bareD o) = idleD o := by
  unfold idleD
  rw [formed_bare, bare_kind]
  by_cases h6 : o.kind = 6
  · rw [if_pos h6, if_pos h6, bare6 h6]
  rw [if_neg h6, if_neg h6]
  by_cases h3 : o.kind = 3
  · rw [if_pos h3, if_pos h3, bare3 h3]; rfl
  rw [if_neg h3, if_neg h3]
theorem busy_bare (o : OpD) : busyD (bareD o) = busyD o := by unfold busyD; rw [formed_bare, idle_bare]
theorem busy_formed {o : OpD} (h : busyD o = true) : o.formed = true := by
  unfold busyD at h
  rw [Bool.and_eq_true] at h
  exact h.1
/-- Bare operations are made fewer as they were. -/
theorem pairD_bare (a b : OpD) : pairD (bareD a) (bareD b) = pairD a b := by
  unfold pairD
  rw [busy_bare, busy_bare]
  cases ha : busyD a with
  | false => rfl
  | true =>
  cases hb : busyD b with
  | false => rfl
  | true =>
  have ka := formed_kind (busy_formed ha)
  have kb := formed_kind (busy_formed hb)
  have pa := bare_path ka
  have pb := bare_path kb
  show pairT (bareD a) (bareD b) = pairT a b
  unfold pairT
  have hi : insHit (bareD a) (bareD b) ↔ insHit a b := by
    unfold insHit
    rw [bare_kind, pa, pb]
    constructor
    · rintro ⟨h1, h2⟩
      rw [bare1 h1] at h2
      exact ⟨h1, h2⟩
    · rintro ⟨h1, h2⟩
      rw [bare1 h1]
      exact ⟨h1, h2⟩
  have kk : ∀ (o : OpD) (n : Int), (bareD o).kind = n ↔ o.kind = n := fun o n => by rw [bare_kind]
  have e1 : a.kind = 1 → ∀ lb, bareD { bareD a with label := lb } = bareD { a with label := lb } := fun h1 lb => by
    rw [bare1 (o := { a with label := lb }) h1, bare1 (o := { bareD a with label := lb }) (by show (bareD a).kind = 1; rw [bare_kind]; exact h1)]
    rw [bare1 h1]
  have e5 : b.kind = 5 → (bareD b).label = b.label := fun h => by rw [bare5 h]
  by_cases c1 : insHit a b ∧ b.kind = 2
  · rw [if_pos c1, if_pos (show insHit (bareD a) (bareD b) ∧ (bareD b).kind = 2 from ⟨hi.2 c1.1, (kk _ _).2 c1.2⟩)]
  rw [if_neg c1, if_neg (show ¬ (insHit (bareD a) (bareD b) ∧ (bareD b).kind = 2) from fun h => c1 ⟨hi.1 h.1, (kk _ _).1 h.2⟩)]
  by_cases c2 : insHit a b ∧ b.kind = 5
  · rw [if_pos c2, if_pos (show insHit (bareD a) (bareD b) ∧ (bareD b).kind = 5 from ⟨hi.2 c2.1, (kk _ _).2 c2.2⟩), e1 c2.1.1, e5 c2.2]
  rw [if_neg c2, if_neg (show ¬ (insHit (bareD a) (bareD b) ∧ (bareD b).kind = 5) from fun h => c2 ⟨hi.1 h.1, (kk _ _).1 h.2⟩)]
  by_cases c3 : a.kind = b.kind ∧ a.path = b.path
  · rw [if_pos c3, if_pos (show (bareD a).kind = (bareD b).kind ∧ (bareD a).path = (bareD b).path from ⟨by rw [bare_kind, bare_kind]; exact c3.1, by rw [pa, pb]; exact c3.2⟩)]
    unfold pairS
    rw [bareD_bare]
    by_cases k5 : a.kind = 5
    · rw [if_pos k5, if_pos ((kk _ _).2 k5)]
    rw [if_neg k5, if_neg (fun h => k5 ((kk _ _).1 h))]
    by_cases k4 : a.kind = 4
    · rw [if_pos k4, if_pos ((kk _ _).2 k4)]
      have kb4 : b.kind = 4 := by rw [← c3.1]; exact k4
      have e1 : (bareD a).key = a.key := by rw [bare4 k4]
      have e2 : (bareD b).key = b.key := by rw [bare4 kb4]
      rw [e1, e2]
    rw [if_neg k4, if_neg (fun h => k4 ((kk _ _).1 h))]
    by_cases k6 : a.kind = 6
    · rw [if_pos k6, if_pos ((kk _ _).2 k6)]
      have kb6 : b.kind = 6 := by rw [← c3.1]; exact k6
      have e1 : (bareD a).pcs = a.pcs := by rw [bare6 k6]
      have e2 : (bareD b).pcs = b.pcs := by rw [bare6 kb6]
      have e3 : ∀ l, bareD { bareD b with pcs := l } = bareD { b with pcs := l } := fun l => by
        rw [bare6 (o := { b with pcs := l }) kb6, bare6 (o := { bareD b with pcs := l }) (by show (bareD b).kind = 6; rw [bare_kind]; exact kb6), bare6 kb6]
      rw [e1, e2]
      simp only [e3]
    rw [if_neg k6, if_neg (fun h => k6 ((kk _ _).1 h))]
  · rw [if_neg c3, if_neg (show ¬ ((bareD a).kind = (bareD b).kind ∧ (bareD a).path = (bareD b).path) from fun h => c3 ⟨by rw [← bare_kind a, ← bare_kind b]; exact h.1, by rw [← pa, ← pb]; exact h.2⟩)]
end Go.Proofs.Ytkimbpeapolcbaa.Sy
namespace Go.Proofs.Ytkimbpeapolcbaa.Sy
open Go.RowKit Go.Proofs.Ytkimbpeapolcbaa.Bw Go.Proofs.Ytkimbpeapolcbaa.Bs

theorem owns_cellN {W : World} {base e g n cap sz : Nat} {xs : List Value} (h : W.ownsRow base e sz (.slice (some ⟨g, 0, none⟩) n cap) n xs) {i : Nat} {u : Value} (hu : xs[i]? = some u) : W.cell? ⟨g, i, none⟩ = some u ∧ W.frozen? ⟨g, i, none⟩ = false := by
  refine ⟨by have := h.cells (g := g) rfl i u hu; rwa [Addr.add_lit, Nat.zero_add] at this, ?_⟩
  rcases h.2 with ⟨h1, _⟩ | ⟨g', cap', cur, hv, _, hg, _⟩
  · cases h1
  · simp only [Value.slice.injEq, Option.some.injEq, Addr.mk.injEq, true_and, and_true] at hv
    obtain ⟨rfl, rfl⟩ := hv
    simp [World.frozen?, hg]
theorem owns_setAtN {W : World} {base e g n cap sz : Nat} {xs : List Value} (h : W.ownsRow base e sz (.slice (some ⟨g, 0, none⟩) n cap) n xs) (i : Nat) (u : Value) : (W.setCell ⟨g, i, none⟩ u).ownsRow base e sz (.slice (some ⟨g, 0, none⟩) n cap) n (xs.set i u) := by
  refine ⟨by simpa using h.1, ?_⟩
  rcases h.2 with ⟨h1, _⟩ | ⟨g', cap', cur, hv, hb, hg, h4, h5, h6, h7⟩
  · cases h1
  · have hv0 := hv
    simp only [Value.slice.injEq, Option.some.injEq, Addr.mk.injEq, true_and, and_true] at hv0
    obtain ⟨rfl, rfl⟩ := hv0
    refine .inr ⟨g, cap, cur.setIfInBounds i u, rfl, hb, ?_, h4, h5, by simpa using h6, ?_⟩
    · simp [World.setCell, Array.getElem?_modify, hg]
    · rw [Array.toList_setIfInBounds, List.take_set, h7]
set_option maxRecDepth 100000 in
set_option maxHeartbeats 4000000 in
theorem same15_ls (l : List OpD) (u v : Value) (w : World) (hu : RdL w l u) (hv : RdL w l v) (hl : ∀ o ∈ l, OkLen o) : Calls Try.prog 15 #[u, v] w (Ret w fun r _ => r = .bool true) := by
  obtain ⟨A, ac, rfl, a1, a2, -⟩ := id hu
  obtain ⟨B, bc, rfl, b1, b2, -⟩ := id hv
  have HU := Lib.hid hu
  have HV := Lib.hid hv
  have HL := Lib.hid hl
  unfold maxLen at a2 b2
  clear hu hv hl
  go_enter Try.func15, Try.ntmps15
  go_wp2_with fail
  go_loopw [5] (fun s5 wr => ∃ i : Nat, s5 = .int .i64 (i : Int) ∧ i ≤ l.length ∧ Hid (Ext w wr)) (fun s5 _ => l.length - (intOf s5).toNat)
  case atStart => exact ⟨0, rfl, by omega, Lib.hid (Ext.refl w)⟩
  case round =>
    obtain ⟨i, rfl, hi, HE⟩ := hrel
    rcases Nat.lt_or_ge i l.length with hlt | hlt
    · obtain ⟨o, ho⟩ : ∃ o, l[i]? = some o := ⟨_, List.getElem?_eq_getElem hlt⟩
      obtain ⟨ba, oa, pv, tv, cv, rfl, r1, c0, c1, c2, c3, c4, c5, c6, c7, c8, c9, c10⟩ := lsame_at (HU.out.ext HE.out) ho
      obtain ⟨bb, ob, qv, rv, dv, rfl, r2, d0, d1, d2, d3, d4, d5, d6, d7, d8, d9, d10⟩ := lsame_at (HV.out.ext HE.out) ho
      have hol := HL.out o (List.mem_of_getElem? ho)
      have hc := same36_eq o o _ _ wr.drew (OpD.rd_ext (Ext.refl _).drew r1) (OpD.rd_ext (Ext.refl _).drew r2) rfl hol hol
      obtain ⟨pA, pc, tA, tc, cA, cc, he⟩ := OpD.rd_cells r1
      simp only [Value.agg.injEq, Array.mk.injEq, List.cons.injEq, true_and, and_true] at he
      obtain ⟨rfl, rfl, rfl⟩ := he
      obtain ⟨qA, qc, rA, rc, dA, dc, he⟩ := OpD.rd_cells r2
      simp only [Value.agg.injEq, Array.mk.injEq, List.cons.injEq, true_and, and_true] at he
      obtain ⟨rfl, rfl, rfl⟩ := he
      have q1 : (0 : Int) ≤ (i : Int) := by omega
      have q2 : (i : Int) < (l.length : Int) := by omega
      clear r1 r2 ho hol
      go_wp2_with fail
      go_still_tail 8, (by kernel_rfl)
      change wpList _ _ _ _ _ wr.drew
      go_wp2_with fail
      refine hc.mono ?_
      clear hc c0 c1 c2 c3 c4 c5 c6 c7 c8 c9 c10 d0 d1 d2 d3 d4 d5 d6 d7 d8 d9 d10
      rintro e w4 ⟨r, rfl, rfl, hE5⟩
      go_wp2_with fail
      go_roundw
      case rel => exact ⟨i + 1, by go_num, by omega, Lib.hid (HE.out.drew.trans hE5)⟩
      case measure => simp [intOf]; omega
    · go_wp2_with fail
      go_ret
      exact ⟨_, rfl, rfl, HE.out⟩
end Go.Proofs.Ytkimbpeapolcbaa.Sy
