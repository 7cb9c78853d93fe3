/- Chapter 17: nothing that is put begins another one that is put. -/
import Derived.Test.YtofcbclokkjfjaaWiPlain
namespace Go.Proofs.Ytofcbclokkjfjaa.Wi
open Go.RowKit Go.Proofs.Ytofcbclokkjfjaa.Bw

/-- What f puts is told from what stands behind it. -/
def UD {α : Type} (f : α → Option (List UInt8)) : Prop := ∀ x y l m r s, f x = some l → f y = some m → l ++ r = m ++ s → x = y ∧ r = s
theorem ofNat_inj {a b : Nat} (ha : a < 256) (hb : b < 256) (h : UInt8.ofNat a = UInt8.ofNat b) : a = b := by
  have := congrArg UInt8.toNat h
  simp only [UInt8.toNat_ofNat'] at this
  omega
theorem num_ud : ∀ (k n m : Nat) (r s : List UInt8), n ≤ k → num n ++ r = num m ++ s → n = m ∧ r = s := by
  intro k
  induction k with
  | zero =>
    intro n m r s hn h
    obtain rfl : n = 0 := by omega
    rw [num_small (by decide : (0 : Nat) < 128)] at h
    rcases Nat.lt_or_ge m 128 with hm | hm
    · rw [num_small hm] at h
      simp only [List.cons_append, List.nil_append, List.cons.injEq] at h
      exact ⟨ofNat_inj (by decide) (by omega) h.1, h.2⟩
    · rw [num_big hm] at h
      simp only [List.cons_append, List.nil_append, List.cons.injEq] at h
      have := ofNat_inj (by decide) (by omega) h.1
      omega
  | succ k ih =>
    intro n m r s hn h
    rcases Nat.lt_or_ge n 128 with hl | hl
    · rw [num_small hl] at h
      rcases Nat.lt_or_ge m 128 with hm | hm
      · rw [num_small hm] at h
        simp only [List.cons_append, List.nil_append, List.cons.injEq] at h
        exact ⟨ofNat_inj (by omega) (by omega) h.1, h.2⟩
      · rw [num_big hm] at h
        simp only [List.cons_append, List.nil_append, List.cons.injEq] at h
        have := ofNat_inj (by omega) (by omega) h.1
        omega
    · rw [num_big hl] at h
      rcases Nat.lt_or_ge m 128 with hm | hm
      · rw [num_small hm] at h
        simp only [List.cons_append, List.nil_append, List.cons.injEq] at h
        have := ofNat_inj (by omega) (by omega) h.1
        omega
      · rw [num_big hm] at h
        simp only [List.cons_append, List.cons.injEq] at h
        have h1 := ofNat_inj (by omega) (by omega) h.1
        obtain ⟨h2, h3⟩ := ih (n / 128) (m / 128) r s (by omega) h.2
        exact ⟨by omega, h3⟩
theorem num_ud' {n m : Nat} {r s : List UInt8} (h : num n ++ r = num m ++ s) : n = m ∧ r = s := num_ud n n m r s (Nat.le_refl _) h
theorem bl_inj {s t : ByteArray} (h : bl s = bl t) : s = t := by
  cases s; cases t
  unfold bl at h
  simpa using h
theorem bl_len (s : ByteArray) : (bl s).length = s.size := Array.length_toList
theorem small_ud (below : Int) : UD (fun n => smallE n below) := by
  intro x y l m r s hx hy h
  have hx : smallE x below = some l := hx
  have hy : smallE y below = some m := hy
  unfold smallE at hx hy
  split at hx
  · split at hy
    · cases hx; cases hy
      obtain ⟨h1, h2⟩ := num_ud' h
      have : x.toNat = y.toNat := h1
      exact ⟨by omega, h2⟩
    · cases hy
  · cases hx
theorem text_ud (most : Nat) : UD (fun s => textE s most) := by
  intro x y l m r s hx hy h
  have hx : textE x most = some l := hx
  have hy : textE y most = some m := hy
  unfold textE at hx hy
  split at hx
  · split at hy
    · cases hx; cases hy
      rw [List.append_assoc, List.append_assoc] at h
      obtain ⟨h1, h2⟩ := num_ud' h
      obtain ⟨h3, h4⟩ := List.append_inj h2 (by rw [bl_len, bl_len]; exact h1)
      exact ⟨bl_inj h3, h4⟩
    · cases hy
  · cases hx
theorem flag_ud {a b : Bool} {r s : List UInt8} (h : flagE a ++ r = flagE b ++ s) : a = b ∧ r = s := by
  unfold flagE at h
  simp only [List.cons_append, List.nil_append, List.cons.injEq] at h
  refine ⟨?_, h.2⟩
  cases a <;> cases b <;> simp at h <;> rfl
theorem seqE_two {a b : Option (List UInt8)} {l : List UInt8} (h : seqE [a, b] = some l) : ∃ x y, a = some x ∧ b = some y ∧ l = x ++ y := by
  cases a with
  | none => cases h
  | some a => cases b with
    | none => cases h
    | some b => refine ⟨a, b, rfl, rfl, ?_⟩; simp [seqE] at h; exact h.symm
theorem seqE_cons_some {a : Option (List UInt8)} {r : List (Option (List UInt8))} {l : List UInt8} (h : seqE (a :: r) = some l) : ∃ x y, a = some x ∧ seqE r = some y ∧ l = x ++ y := by
  cases a with
  | none => cases h
  | some a =>
    rw [seqE_cons] at h
    cases hr : seqE r with
    | none => rw [hr] at h; cases h
    | some b => rw [hr] at h; exact ⟨a, b, rfl, rfl, (Option.some.inj h).symm⟩
theorem seq_ud {α : Type} {f : α → Option (List UInt8)} (hf : UD f) : ∀ (l m : List α) (L M r s : List UInt8), l.length = m.length → seqE (l.map f) = some L → seqE (m.map f) = some M → L ++ r = M ++ s → l = m ∧ r = s
  | [], [], L, M, r, s, _, h1, h2, h => by
    cases h1; cases h2
    exact ⟨rfl, h⟩
  | [], _ :: _, _, _, _, _, h, _, _, _ => by simp at h
  | _ :: _, [], _, _, _, _, h, _, _, _ => by simp at h
  | x :: l, y :: m, L, M, r, s, hl, h1, h2, h => by
    obtain ⟨a, b, e1, e2, rfl⟩ := seqE_cons_some h1
    obtain ⟨c, d, g1, g2, rfl⟩ := seqE_cons_some h2
    rw [List.append_assoc, List.append_assoc] at h
    obtain ⟨rfl, h'⟩ := hf x y a c _ _ e1 g1 h
    obtain ⟨rfl, h''⟩ := seq_ud hf l m b d r s (by simpa using hl) e2 g2 h'
    exact ⟨rfl, h''⟩
theorem row_ud {α : Type} {f : α → Option (List UInt8)} (hf : UD f) (most : Nat) : UD (fun l => rowE l most f) := by
  intro x y l m r s hx hy h
  have hx : rowE x most f = some l := hx
  have hy : rowE y most f = some m := hy
  unfold rowE at hx hy
  split at hx
  · split at hy
    · obtain ⟨a, b, e1, e2, rfl⟩ := seqE_cons_some hx
      obtain ⟨c, d, g1, g2, rfl⟩ := seqE_cons_some hy
      cases e1; cases g1
      rw [List.append_assoc, List.append_assoc] at h
      obtain ⟨h1, h2⟩ := num_ud' h
      exact seq_ud hf x y b d r s h1 e2 g2 h2
    · cases hy
  · cases hx
theorem path_ud : UD pathE := row_ud (small_ud 1048577) 64
theorem piece_ud : UD pieceE := by
  intro x y l m r s hx hy h
  unfold pieceE at hx hy
  obtain ⟨a1, a2, e1, e2, rfl⟩ := seqE_cons_some hx
  obtain ⟨a3, a4, e3, e4, rfl⟩ := seqE_two e2
  obtain ⟨b1, b2, g1, g2, rfl⟩ := seqE_cons_some hy
  obtain ⟨b3, b4, g3, g4, rfl⟩ := seqE_two g2
  simp only [List.append_assoc] at h
  replace h := small_ud 1048577 _ _ _ _ _ _ e1 g1 h
  obtain ⟨h1, h⟩ := h
  replace h := small_ud 1048577 _ _ _ _ _ _ e3 g3 h
  obtain ⟨h2, h⟩ := h
  replace h := text_ud 1048576 _ _ _ _ _ _ e4 g4 h
  obtain ⟨h3, h⟩ := h
  cases x; cases y
  simp only at h1 h2 h3
  subst h1 h2 h3
  exact ⟨rfl, h⟩
theorem size_zero {s : ByteArray} (h : s.size = 0) : s = ⟨#[]⟩ := by
  apply bl_inj
  have : (bl s).length = 0 := by rw [bl_len]; exact h
  rw [List.length_eq_zero_iff.1 this]
  rfl
/-- What an operation's kind has not is nothing. -/
theorem bare_is {o : OpD} (h : bareO o = true) : (o.kind ≠ 1 → o.id = 0 ∧ o.leaf = false) ∧ (o.kind ≠ 1 → o.kind ≠ 3 → o.at_ = 0) ∧ (o.kind ≠ 3 → o.to = []) ∧ (o.kind ≠ 4 → o.key = ⟨#[]⟩ ∧ o.value = ⟨#[]⟩ ∧ o.gone = false) ∧ (o.kind ≠ 1 → o.kind ≠ 5 → o.label = ⟨#[]⟩) ∧ (o.kind ≠ 6 → o.pcs = []) := by
  unfold bareO at h
  simp only [Bool.and_eq_true, Bool.or_eq_true, beq_iff_eq, Bool.not_eq_true'] at h
  obtain ⟨⟨⟨⟨⟨h1, h2⟩, h3⟩, h4⟩, h5⟩, h6⟩ := h
  refine ⟨fun n => ?_, fun n m => ?_, fun n => ?_, fun n => ?_, fun n m => ?_, fun n => ?_⟩
  · rcases h1 with h | h
    · exact absurd h n
    · exact h
  · rcases h2 with (h | h) | h
    · exact absurd h n
    · exact absurd h m
    · exact h
  · rcases h3 with h | h
    · exact absurd h n
    · exact List.length_eq_zero_iff.1 h
  · rcases h4 with h | h
    · exact absurd h n
    · exact ⟨size_zero h.1.1, size_zero h.1.2, h.2⟩
  · rcases h5 with (h | h) | h
    · exact absurd h n
    · exact absurd h m
    · exact size_zero h
  · rcases h6 with h | h
    · exact absurd h n
    · exact List.length_eq_zero_iff.1 h
theorem id_inj {a b : Int} (ha : 0 ≤ a) (hb : 0 ≤ b) (h : a.toNat = b.toNat) : a = b := by omega
/-- Identities are no less than nothing. -/
theorem op_ud {x y : OpD} {l m r s : List UInt8} (ix : 0 ≤ x.id) (iy : 0 ≤ y.id) (hx : opE x = some l) (hy : opE y = some m) (h : l ++ r = m ++ s) : x = y ∧ r = s := by
  unfold opE at hx hy
  split at hx
  next kx =>
    split at hy
    next ky =>
      obtain ⟨k1, k2, k3⟩ := kx
      obtain ⟨q1, q2, q3⟩ := ky
      obtain ⟨a1, a2, e1, e2, rfl⟩ := seqE_cons_some hx
      obtain ⟨b1, b2, g1, g2, rfl⟩ := seqE_cons_some hy
      cases e1; cases g1
      obtain ⟨a3, a4, e3, e4, rfl⟩ := seqE_cons_some e2
      obtain ⟨b3, b4, g3, g4, rfl⟩ := seqE_cons_some g2
      simp only [List.cons_append, List.nil_append, List.cons.injEq, List.append_assoc] at h
      obtain ⟨h0, h⟩ := h
      have hk := ofNat_inj (by omega) (by omega) h0
      have hk : x.kind = y.kind := by omega
      replace h := path_ud _ _ _ _ _ _ e3 g3 h
      obtain ⟨hp, h⟩ := h
      have bx := bare_is k3
      have bY := bare_is q3
      obtain ⟨kx, px, ax, tx, idx, lx, lbx, kyx, vx, gx, cx⟩ := x
      obtain ⟨ky, py, ay, ty, idy, ly, lby, kyy, vy, gy, cy⟩ := y
      simp only at hk hp bx bY ix iy k1 k2 e4 g4
      subst hk hp
      unfold restE at e4 g4
      simp only at e4 g4
      by_cases c1 : kx = 1
      · rw [if_pos c1] at e4 g4
        obtain ⟨u1, u2, f1, f2, rfl⟩ := seqE_cons_some e4
        obtain ⟨u3, u4, f3, f4, rfl⟩ := seqE_cons_some f2
        obtain ⟨u5, u6, f5, f6, rfl⟩ := seqE_two f4
        obtain ⟨v1, v2, j1, j2, rfl⟩ := seqE_cons_some g4
        obtain ⟨v3, v4, j3, j4, rfl⟩ := seqE_cons_some j2
        obtain ⟨v5, v6, j5, j6, rfl⟩ := seqE_two j4
        cases f3; cases j3; cases f5; cases j5
        simp only [List.append_assoc] at h
        replace h := small_ud 1048577 _ _ _ _ _ _ f1 j1 h
        obtain ⟨rfl, h⟩ := h
        replace h := num_ud' h
        obtain ⟨h3, h⟩ := h
        obtain rfl := id_inj ix iy h3
        replace h := flag_ud h
        obtain ⟨rfl, h⟩ := h
        replace h := text_ud 64 _ _ _ _ _ _ f6 j6 h
        obtain ⟨rfl, h⟩ := h
        have n3 : kx ≠ 3 := by omega
        have n4 : kx ≠ 4 := by omega
        have n6 : kx ≠ 6 := by omega
        obtain rfl := (bx.2.2.1 n3).trans (bY.2.2.1 n3).symm
        obtain rfl := (bx.2.2.2.1 n4).1.trans (bY.2.2.2.1 n4).1.symm
        obtain rfl := (bx.2.2.2.1 n4).2.1.trans (bY.2.2.2.1 n4).2.1.symm
        obtain rfl := (bx.2.2.2.1 n4).2.2.trans (bY.2.2.2.1 n4).2.2.symm
        obtain rfl := (bx.2.2.2.2.2 n6).trans (bY.2.2.2.2.2 n6).symm
        exact ⟨rfl, h⟩
      · rw [if_neg c1] at e4 g4
        obtain ⟨rfl, rfl⟩ : idx = idy ∧ lx = ly := ⟨(bx.1 c1).1.trans (bY.1 c1).1.symm, (bx.1 c1).2.trans (bY.1 c1).2.symm⟩
        by_cases c3 : kx = 3
        · rw [if_pos c3] at e4 g4
          obtain ⟨u1, u2, f1, f2, rfl⟩ := seqE_two e4
          obtain ⟨v1, v2, j1, j2, rfl⟩ := seqE_two g4
          simp only [List.append_assoc] at h
          replace h := path_ud _ _ _ _ _ _ f1 j1 h
          obtain ⟨rfl, h⟩ := h
          replace h := small_ud 1048577 _ _ _ _ _ _ f2 j2 h
          obtain ⟨rfl, h⟩ := h
          have n4 : kx ≠ 4 := by omega
          have n5 : kx ≠ 5 := by omega
          have n6 : kx ≠ 6 := by omega
          obtain rfl := (bx.2.2.2.1 n4).1.trans (bY.2.2.2.1 n4).1.symm
          obtain rfl := (bx.2.2.2.1 n4).2.1.trans (bY.2.2.2.1 n4).2.1.symm
          obtain rfl := (bx.2.2.2.1 n4).2.2.trans (bY.2.2.2.1 n4).2.2.symm
          obtain rfl := (bx.2.2.2.2.1 c1 n5).trans (bY.2.2.2.2.1 c1 n5).symm
          obtain rfl := (bx.2.2.2.2.2 n6).trans (bY.2.2.2.2.2 n6).symm
          exact ⟨rfl, h⟩
        · rw [if_neg c3] at e4 g4
          obtain rfl := (bx.2.1 c1 c3).trans (bY.2.1 c1 c3).symm
          obtain rfl := (bx.2.2.1 c3).trans (bY.2.2.1 c3).symm
          by_cases c4 : kx = 4
          · rw [if_pos c4] at e4 g4
            obtain ⟨u1, u2, f1, f2, rfl⟩ := seqE_cons_some e4
            obtain ⟨u3, u4, f3, f4, rfl⟩ := seqE_cons_some f2
            obtain ⟨u5, u6, f5, f6, rfl⟩ := seqE_two f4
            obtain ⟨v1, v2, j1, j2, rfl⟩ := seqE_cons_some g4
            obtain ⟨v3, v4, j3, j4, rfl⟩ := seqE_cons_some j2
            obtain ⟨v5, v6, j5, j6, rfl⟩ := seqE_two j4
            have z1 : u1 = [] := by split at f1 <;> cases f1; rfl
            have z2 : v1 = [] := by split at j1 <;> cases j1; rfl
            subst z1 z2
            cases f5; cases j5
            simp only [List.append_assoc, List.nil_append] at h
            replace h := text_ud 64 _ _ _ _ _ _ f3 j3 h
            obtain ⟨rfl, h⟩ := h
            replace h := flag_ud h
            obtain ⟨rfl, h⟩ := h
            replace h := text_ud 256 _ _ _ _ _ _ f6 j6 h
            obtain ⟨rfl, h⟩ := h
            have n5 : kx ≠ 5 := by omega
            have n6 : kx ≠ 6 := by omega
            obtain rfl := (bx.2.2.2.2.1 c1 n5).trans (bY.2.2.2.2.1 c1 n5).symm
            obtain rfl := (bx.2.2.2.2.2 n6).trans (bY.2.2.2.2.2 n6).symm
            exact ⟨rfl, h⟩
          · rw [if_neg c4] at e4 g4
            obtain rfl := (bx.2.2.2.1 c4).1.trans (bY.2.2.2.1 c4).1.symm
            obtain rfl := (bx.2.2.2.1 c4).2.1.trans (bY.2.2.2.1 c4).2.1.symm
            obtain rfl := (bx.2.2.2.1 c4).2.2.trans (bY.2.2.2.1 c4).2.2.symm
            by_cases c5 : kx = 5
            · rw [if_pos c5] at e4 g4
              obtain ⟨u1, u2, f1, f2, rfl⟩ := seqE_cons_some e4
              obtain ⟨v1, v2, j1, j2, rfl⟩ := seqE_cons_some g4
              cases f2; cases j2
              simp only [List.append_assoc, List.nil_append] at h
              replace h := text_ud 64 _ _ _ _ _ _ f1 j1 h
              obtain ⟨rfl, h⟩ := h
              have n6 : kx ≠ 6 := by omega
              obtain rfl := (bx.2.2.2.2.2 n6).trans (bY.2.2.2.2.2 n6).symm
              exact ⟨rfl, h⟩
            · rw [if_neg c5] at e4 g4
              obtain rfl := (bx.2.2.2.2.1 c1 c5).trans (bY.2.2.2.2.1 c1 c5).symm
              by_cases c6 : kx = 6
              · rw [if_pos c6] at e4 g4
                obtain ⟨u1, u2, f1, f2, rfl⟩ := seqE_cons_some e4
                obtain ⟨v1, v2, j1, j2, rfl⟩ := seqE_cons_some g4
                cases f2; cases j2
                simp only [List.append_assoc, List.nil_append] at h
                replace h := row_ud piece_ud 4096 _ _ _ _ _ _ f1 j1 h
                obtain ⟨rfl, h⟩ := h
                exact ⟨rfl, h⟩
              · rw [if_neg c6] at e4 g4
                obtain rfl := (bx.2.2.2.2.2 c6).trans (bY.2.2.2.2.2 c6).symm
                cases e4; cases g4
                exact ⟨rfl, h⟩
    next => cases hy
  next => cases hx
end Go.Proofs.Ytofcbclokkjfjaa.Wi
