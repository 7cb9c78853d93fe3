/- Chapter 10: bare operations are made fewer as they were. -/
import Derived.Test.YtkimbpeapolcbaaSyListD
import Derived.Test.YtkimbpeapolcbaaSyIdle
namespace Go.Proofs.Ytkimbpeapolcbaa.Sy
open Go.RowKit Go.Proofs.Ytkimbpeapolcbaa.Bw Go.Proofs.Ytkimbpeapolcbaa.Bs

theorem bare_kind (o : OpD) : (bareD o).kind = o.kind := by
 unfold bareD
 repeat' split
 all_goals first | rfl | (dsimp only; exact Eq.symm ‹_›)
theorem bare1 {o : OpD} (h : o.kind = 1) : bareD o = ⟨1, o.path, o.at_, [], o.id, o.leaf, o.label, ⟨#[]⟩, ⟨#[]⟩, false, []⟩ := by unfold bareD; rw [if_pos h]
theorem bare2 {o : OpD} (h : o.kind = 2) : bareD o = ⟨2, o.path, 0, [], 0, false, ⟨#[]⟩, ⟨#[]⟩, ⟨#[]⟩, false, []⟩ := by unfold bareD; rw [if_neg (by omega), if_pos h]
theorem bare3 {o : OpD} (h : o.kind = 3) : bareD o = ⟨3, o.path, o.at_, o.to, 0, false, ⟨#[]⟩, ⟨#[]⟩, ⟨#[]⟩, false, []⟩ := by unfold bareD; rw [if_neg (by omega), if_neg (by omega), if_pos h]
theorem bare4 {o : OpD} (h : o.kind = 4) : bareD o = ⟨4, o.path, 0, [], 0, false, ⟨#[]⟩, o.key, if o.gone then ⟨#[]⟩ else o.value, o.gone, []⟩ := by unfold bareD; rw [if_neg (by omega), if_neg (by omega), if_neg (by omega), if_pos h]
theorem bare5 {o : OpD} (h : o.kind = 5) : bareD o = ⟨5, o.path, 0, [], 0, false, o.label, ⟨#[]⟩, ⟨#[]⟩, false, []⟩ := by unfold bareD; rw [if_neg (by omega), if_neg (by omega), if_neg (by omega), if_neg (by omega), if_pos h]
theorem bare6 {o : OpD} (h : o.kind = 6) : bareD o = ⟨6, o.path, 0, [], 0, false, ⟨#[]⟩, ⟨#[]⟩, ⟨#[]⟩, false, o.pcs⟩ := by unfold bareD; rw [if_neg (by omega), if_neg (by omega), if_neg (by omega), if_neg (by omega), if_neg (by omega), if_pos h]
theorem formed_kind {o : OpD} (h : o.formed = true) : o.kind = 1 ∨ o.kind = 2 ∨ o.kind = 3 ∨ o.kind = 4 ∨ o.kind = 5 ∨ o.kind = 6 := by
 unfold OpD.formed at h
 rw [Bool.and_eq_true] at h
 obtain ⟨-, h⟩ := h
 by_cases h1 : o.kind = 1
 ·exact .inl h1
 by_cases h2 : o.kind = 2
 ·exact .inr (.inl h2)
 by_cases h3 : o.kind = 3
 ·exact .inr (.inr (.inl h3))
 by_cases h4 : o.kind = 4
 ·exact .inr (.inr (.inr (.inl h4)))
 by_cases h5 : o.kind = 5
 ·exact .inr (.inr (.inr (.inr (.inl h5))))
 by_cases h6 : o.kind = 6
 ·exact .inr (.inr (.inr (.inr (.inr h6))))
 simp [h1, h2, h3, h4, h5, h6] at h
theorem bare_path {o : OpD} (h : o.kind = 1 ∨ o.kind = 2 ∨ o.kind = 3 ∨ o.kind = 4 ∨ o.kind = 5 ∨ o.kind = 6) : (bareD o).path = o.path := by
 rcases h with h | h | h | h | h | h
 ·rw [bare1 h]
 ·rw [bare2 h]
 ·rw [bare3 h]
 ·rw [bare4 h]
 ·rw [bare5 h]
 ·rw [bare6 h]
theorem formed_bare (o : OpD) : (bareD o).formed = o.formed := by
 by_cases h1 : o.kind = 1
 ·rw [bare1 h1]; simp [OpD.formed, h1]
 by_cases h2 : o.kind = 2
 ·rw [bare2 h2]; simp [OpD.formed, h2]
 by_cases h3 : o.kind = 3
 ·rw [bare3 h3]; simp [OpD.formed, h3]
 by_cases h4 : o.kind = 4
 ·rw [bare4 h4]
  cases hg : o.gone <;> simp [OpD.formed, h4, hg]
 by_cases h5 : o.kind = 5
 ·rw [bare5 h5]; simp [OpD.formed, h5]
 by_cases h6 : o.kind = 6
 ·rw [bare6 h6]; simp [OpD.formed, h6]
 have hb := bare_kind o
 simp only [OpD.formed, hb, if_neg h1, if_neg h2, if_neg h3, if_neg h4, if_neg h5, if_neg h6, Bool.and_false]
theorem idle_bare (o : OpD) : idleD (bareD o) = idleD o := by
 unfold idleD
 rw [formed_bare, bare_kind]
 by_cases h6 : o.kind = 6
 ·rw [if_pos h6, if_pos h6, bare6 h6]
 rw [if_neg h6, if_neg h6]
 by_cases h3 : o.kind = 3
 ·rw [if_pos h3, if_pos h3, bare3 h3]; rfl
 rw [if_neg h3, if_neg h3]
theorem busy_bare (o : OpD) : busyD (bareD o) = busyD o := by unfold busyD; rw [formed_bare, idle_bare]
theorem busy_formed {o : OpD} (h : busyD o = true) : o.formed = true := by
 unfold busyD at h
 rw [Bool.and_eq_true] at h
 exact h.1
/-- Bare operations are made fewer as they were. -/
theorem pairD_bare (a b : OpD) : pairD (bareD a) (bareD b) = pairD a b := by
 unfold pairD
 rw [busy_bare, busy_bare]
 cases ha : busyD a with
 | false => rfl
 | true =>
 cases hb : busyD b with
 | false => rfl
 | true =>
 have ka := formed_kind (busy_formed ha)
 have kb := formed_kind (busy_formed hb)
 have pa := bare_path ka
 have pb := bare_path kb
 show pairT (bareD a) (bareD b) = pairT a b
 unfold pairT
 have hi : insHit (bareD a) (bareD b) ↔ insHit a b := by
  unfold insHit
  rw [bare_kind, pa, pb]
  constructor
  ·rintro ⟨h1, h2⟩
   rw [bare1 h1] at h2
   exact ⟨h1, h2⟩
  ·rintro ⟨h1, h2⟩
   rw [bare1 h1]
   exact ⟨h1, h2⟩
 have kk : ∀ (o : OpD) (n : Int), (bareD o).kind = n ↔ o.kind = n := fun o n => by rw [bare_kind]
 have e1 : a.kind = 1 → ∀ lb, bareD { bareD a with label := lb } = bareD { a with label := lb } := fun h1 lb => by
  rw [bare1 (o := { a with label := lb }) h1, bare1 (o := { bareD a with label := lb }) (by show (bareD a).kind = 1; rw [bare_kind]; exact h1)]
  rw [bare1 h1]
 have e5 : b.kind = 5 → (bareD b).label = b.label := fun h => by rw [bare5 h]
 by_cases c1 : insHit a b ∧ b.kind = 2
 ·rw [if_pos c1, if_pos (show insHit (bareD a) (bareD b) ∧ (bareD b).kind = 2 from ⟨hi.2 c1.1, (kk _ _).2 c1.2⟩)]
 rw [if_neg c1, if_neg (show ¬ (insHit (bareD a) (bareD b) ∧ (bareD b).kind = 2) from fun h => c1 ⟨hi.1 h.1, (kk _ _).1 h.2⟩)]
 by_cases c2 : insHit a b ∧ b.kind = 5
 ·rw [if_pos c2, if_pos (show insHit (bareD a) (bareD b) ∧ (bareD b).kind = 5 from ⟨hi.2 c2.1, (kk _ _).2 c2.2⟩), e1 c2.1.1, e5 c2.2]
 rw [if_neg c2, if_neg (show ¬ (insHit (bareD a) (bareD b) ∧ (bareD b).kind = 5) from fun h => c2 ⟨hi.1 h.1, (kk _ _).1 h.2⟩)]
 by_cases c3 : a.kind = b.kind ∧ a.path = b.path
 ·rw [if_pos c3, if_pos (show (bareD a).kind = (bareD b).kind ∧ (bareD a).path = (bareD b).path from ⟨by rw [bare_kind, bare_kind]; exact c3.1, by rw [pa, pb]; exact c3.2⟩)]
  unfold pairS
  rw [bareD_bare]
  by_cases k5 : a.kind = 5
  ·rw [if_pos k5, if_pos ((kk _ _).2 k5)]
  rw [if_neg k5, if_neg (fun h => k5 ((kk _ _).1 h))]
  by_cases k4 : a.kind = 4
  ·rw [if_pos k4, if_pos ((kk _ _).2 k4)]
   have kb4 : b.kind = 4 := by rw [← c3.1]; exact k4
   have e1 : (bareD a).key = a.key := by rw [bare4 k4]
   have e2 : (bareD b).key = b.key := by rw [bare4 kb4]
   rw [e1, e2]
  rw [if_neg k4, if_neg (fun h => k4 ((kk _ _).1 h))]
  by_cases k6 : a.kind = 6
  ·rw [if_pos k6, if_pos ((kk _ _).2 k6)]
   have kb6 : b.kind = 6 := by rw [← c3.1]; exact k6
   have e1 : (bareD a).pcs = a.pcs := by rw [bare6 k6]
   have e2 : (bareD b).pcs = b.pcs := by rw [bare6 kb6]
   have e3 : ∀ l, bareD { bareD b with pcs := l } = bareD { b with pcs := l } := fun l => by
    rw [bare6 (o := { b with pcs := l }) kb6, bare6 (o := { bareD b with pcs := l }) (by show (bareD b).kind = 6; rw [bare_kind]; exact kb6), bare6 kb6]
   rw [e1, e2]
   simp only [e3]
  rw [if_neg k6, if_neg (fun h => k6 ((kk _ _).1 h))]
 ·rw [if_neg c3, if_neg (show ¬ ((bareD a).kind = (bareD b).kind ∧ (bareD a).path = (bareD b).path) from fun h => c3 ⟨by rw [← bare_kind a, ← bare_kind b]; exact h.1, by rw [← pa, ← pb]; exact h.2⟩)]
end Go.Proofs.Ytkimbpeapolcbaa.Sy
namespace Go.Proofs.Ytkimbpeapolcbaa.Sy
open Go.RowKit Go.Proofs.Ytkimbpeapolcbaa.Bw Go.Proofs.Ytkimbpeapolcbaa.Bs

theorem extL_append : ∀ a b : List Pc, extL (a ++ b) = extL a + extL b
 | [], b => by simp [extL]
 | p :: r, b => by show _ + extL (r ++ b) = _ + extL r + extL b; rw [extL_append r b]; omega
theorem ext_onLast {f : Pc → Pc} {d : Int} (hf : ∀ p, (f p).keep + (f p).drop = p.keep + p.drop + d) : ∀ {l : List Pc}, l ≠ [] → extL (onLast f l) = extL l + d
 | [], h => absurd rfl h
 | [p], _ => by show (f p).keep + (f p).drop + 0 = p.keep + p.drop + 0 + d; rw [hf p]; omega
 | p :: q :: r, _ => by
  show p.keep + p.drop + extL (onLast f (q :: r)) = p.keep + p.drop + extL (q :: r) + d
  rw [ext_onLast hf (by simp)]; omega
def extM (m : Mk) : Int := extL m.l + m.keep
theorem extM_last (m : Mk) : extM m.last = extM m := by
 unfold Mk.last
 split
 ·unfold extM
  simp only [extL_append]
  show extL m.l + (m.keep + 0 + 0) + 0 = _
  omega
 ·rfl
theorem extM_put (m : Mk) (s : ByteArray) : extM (m.put s) = extM m := by
 unfold Mk.put
 split
 ·have h := ext_onLast (f := fun p => { p with put := p.put ++ s }) (d := 0) (fun p => by simp only; omega) m.last_ne
  have h2 := extM_last m
  unfold extM at h2 ⊢
  simp only at h ⊢
  rw [h]; omega
 ·rfl
theorem extM_drop (m : Mk) (n : Int) (h0 : 0 ≤ n) : extM (m.drop n) = extM m + n := by
 unfold Mk.drop
 split
 ·have h := ext_onLast (f := fun p => { p with drop := p.drop + n }) (d := n) (fun p => by simp only; omega) m.last_ne
  have h2 := extM_last m
  unfold extM at h2 ⊢
  simp only at h ⊢
  rw [h]; omega
 ·omega
theorem extM_more (m : Mk) (n : Int) : extM (m.more n) = extM m + n := by unfold extM Mk.more; simp only; omega
theorem extM_piece (m : Mk) {p : Pc} (h : 0 ≤ p.drop) : extM (m.piece p) = extM m + (p.keep + p.drop) := by
 rw [Mk.piece_eq, extM_drop _ _ h, extM_put, extM_more]; omega
theorem extM_pieces : ∀ {l : List Pc} (m : Mk), Nn l → extM (m.pieces l) = extM m + extL l
 | [], m, _ => by simp [Mk.pieces, extL]
 | p :: r, m, k => by
  show extM ((m.piece p).pieces r) = extM m + (p.keep + p.drop + extL r)
  rw [extM_pieces _ k.tail, extM_piece m (k p List.mem_cons_self).2]; omega
theorem normL_ext {l : List Pc} (h : Nn l) : extL (normL l) ≤ extL l := by
 have h1 := extM_pieces ⟨[], 0⟩ h
 have h2 := (NnM.pieces NnM.zero h).2
 have h3 : extM ⟨[], 0⟩ = 0 := rfl
 rw [h3] at h1
 unfold extM at h1
 show extL (Mk.pieces ⟨[], 0⟩ l).l ≤ _
 omega
def invGo (m : Mk) (t : ByteArray) : List Pc → Mk
 | [] => m
 | p :: r => invGo (m.piece ⟨p.keep, p.put.size, (t.extract p.keep.toNat t.size).extract 0 p.drop.toNat⟩) ((t.extract p.keep.toNat t.size).extract p.drop.toNat (t.extract p.keep.toNat t.size).size) r
def invS (t : ByteArray) (l : List Pc) : List Pc := (invGo ⟨[], 0⟩ t (normL l)).l
def inE (t : ByteArray) (l : List Pc) : Int := if apE t l = 0 then (if pcsRight (invS t l) then 0 else 3) else apE t l
def inL (t : ByteArray) (l : List Pc) : List Pc := if inE t l = 0 then invS t l else []
theorem invGo_at (m : Mk) (t : ByteArray) {l : List Pc} {i : Nat} {p : Pc} (hp : l[i]? = some p) : invGo m t (l.drop i) = invGo (m.piece ⟨p.keep, p.put.size, (t.extract p.keep.toNat t.size).extract 0 p.drop.toNat⟩) ((t.extract p.keep.toNat t.size).extract p.drop.toNat (t.extract p.keep.toNat t.size).size) (l.drop (i + 1)) := by rw [drop_at hp]; rfl
end Go.Proofs.Ytkimbpeapolcbaa.Sy
namespace Go.Proofs.Ytkimbpeapolcbaa.Sy
open Go.RowKit Go.Proofs.Ytkimbpeapolcbaa.Bw Go.Proofs.Ytkimbpeapolcbaa.Bs

def bl (s : ByteArray) : List UInt8 := s.data.toList
theorem bl_append (a b : ByteArray) : bl (a ++ b) = bl a ++ bl b := by
 unfold bl
 rw [ByteArray.data_append, Array.toList_append]
theorem bl_len (s : ByteArray) : (bl s).length = s.size := by
 unfold bl ByteArray.size
 rw [Array.length_toList]
theorem bl_inj {a b : ByteArray} (h : bl a = bl b) : a = b := by
 obtain ⟨a⟩ := a
 obtain ⟨b⟩ := b
 congr
 exact Array.toList_inj.1 h
theorem bl_extract (s : ByteArray) (i j : Nat) : bl (s.extract i j) = ((bl s).drop i).take (j - i) := by
 unfold bl
 rw [ByteArray.data_extract, Array.toList_extract]
theorem bl_nil : bl ⟨#[]⟩ = [] := rfl
theorem bl_empty {s : ByteArray} (h : s.size = 0) : bl s = [] := List.eq_nil_of_length_eq_zero (by rw [bl_len]; exact h)
abbrev Ap := List UInt8 × List UInt8
def stepL (s : Ap) (p : Pc) : Ap := (s.1 ++ s.2.take p.keep.toNat ++ bl p.put, s.2.drop (p.keep + p.drop).toNat)
def runL (s : Ap) : List Pc → Ap
 | [] => s
 | p :: r => runL (stepL s p) r
def outL (s : Ap) : List UInt8 := s.1 ++ s.2
theorem runL_append (s : Ap) : ∀ a b : List Pc, runL s (a ++ b) = runL (runL s a) b
 | [], _ => rfl
 | p :: r, b => runL_append (stepL s p) r b
theorem bl_applyB : ∀ (l : List Pc) (t : ByteArray) (acc : List UInt8), acc ++ bl (applyB t l) = outL (runL (acc, bl t) l)
 | [], t, acc => rfl
 | p :: r, t, acc => by
  show acc ++ bl (t.extract 0 p.keep.toNat ++ p.put ++ applyB (t.extract (p.keep + p.drop).toNat t.size) r) = outL (runL (stepL (acc, bl t) p) r)
  rw [bl_append, bl_append, ← List.append_assoc, ← List.append_assoc, bl_applyB r]
  have e1 : bl (t.extract 0 p.keep.toNat) = (bl t).take p.keep.toNat := by rw [bl_extract]; simp
  have e2 : bl (t.extract (p.keep + p.drop).toNat t.size) = (bl t).drop (p.keep + p.drop).toNat := by
   rw [bl_extract, List.take_of_length_le (by rw [List.length_drop, bl_len]; omega)]
  rw [e1, e2]
  rfl
theorem bl_apply (t : ByteArray) (l : List Pc) : bl (applyB t l) = outL (runL ([], bl t) l) := bl_applyB l t []
def runM (s : Ap) (m : Mk) : Ap := stepL (runL s m.l) ⟨m.keep, 0, ⟨#[]⟩⟩
theorem stepL_zero (s : Ap) : stepL s ⟨0, 0, ⟨#[]⟩⟩ = s := by
 obtain ⟨a, t⟩ := s
 simp [stepL, bl_nil]
theorem runM_zero (s : Ap) (l : List Pc) : runM s ⟨l, 0⟩ = runL s l := stepL_zero _
theorem runM_more (s : Ap) (m : Mk) {k : Int} (hk : 0 ≤ m.keep) (h0 : 0 ≤ k) : runM s (m.more k) = stepL (runM s m) ⟨k, 0, ⟨#[]⟩⟩ := by
 unfold runM
 show stepL (runL s m.l) ⟨m.keep + k, 0, ⟨#[]⟩⟩ = _
 generalize runL s m.l = z
 obtain ⟨a, t⟩ := z
 obtain ⟨x, hx⟩ : ∃ x : Nat, m.keep = x := ⟨m.keep.toNat, by omega⟩
 obtain ⟨y, hy⟩ : ∃ y : Nat, k = y := ⟨k.toNat, by omega⟩
 rw [hx, hy]
 have e : ((x : Int) + (y : Int)).toNat = x + y := by omega
 simp only [stepL, bl_nil, List.append_nil, Int.add_zero, e, Int.toNat_natCast, List.append_assoc, List.drop_drop]
 rw [← List.take_add]
theorem runM_last (s : Ap) (m : Mk) : runM s m.last = runM s m := by
 unfold Mk.last
 split
 ·rw [runM_zero, runL_append]
  rfl
 ·rfl
theorem last_keep0 {m : Mk} (h : 0 ≤ m.keep) : m.last.keep = 0 := by
 unfold Mk.last
 split
 ·rfl
 ·rename_i hn
  have : ¬ (0 < m.keep) := fun h1 => hn (.inl h1)
  omega
theorem runL_onLast (s : Ap) {f : Pc → Pc} {q : Pc} (hf : ∀ z p, stepL z (f p) = stepL (stepL z p) q) {l : List Pc} (h : l ≠ []) : runL s (onLast f l) = stepL (runL s l) q := by
 obtain ⟨l', p, rfl⟩ : ∃ l' p, l = l' ++ [p] := ⟨_, _, (List.dropLast_concat_getLast h).symm⟩
 rw [onLast_snoc, runL_append, runL_append]
 exact hf _ _
theorem runM_put (s : Ap) {m : Mk} (h : 0 ≤ m.keep) (u : ByteArray) : runM s (m.put u) = stepL (runM s m) ⟨0, 0, u⟩ := by
 unfold Mk.put
 split
 ·have e := runL_onLast s (f := fun p => { p with put := p.put ++ u }) (q := ⟨0, 0, u⟩) (fun z p => by
   obtain ⟨a, t⟩ := z
   simp [stepL, bl_append, List.append_assoc]) m.last_ne
  rw [last_keep0 h, runM_zero, e, ← runM_last s m]
  have : runM s m.last = runL s m.last.l := by
   have := runM_zero s m.last.l
   rw [← last_keep0 h] at this
   exact this
  rw [this]
 ·rename_i hn
  rw [show stepL (runM s m) ⟨0, 0, u⟩ = runM s m by
   generalize runM s m = z
   obtain ⟨a, t⟩ := z
   simp [stepL, bl_empty (show u.size = 0 by omega)]]
theorem runM_drop (s : Ap) {m : Mk} (hm : NnM m) {n : Int} (h0 : 0 ≤ n) : runM s (m.drop n) = stepL (runM s m) ⟨0, n, ⟨#[]⟩⟩ := by
 unfold Mk.drop
 split
 ·have hne := m.last_ne
  have hn := hm.last.1
  have hk := last_keep0 hm.2
  have e1 : runM s m.last = runL s m.last.l := by
   have := runM_zero s m.last.l
   rw [← hk] at this
   exact this
  rw [hk, runM_zero, ← runM_last s m, e1]
  generalize m.last.l = l at *
  obtain ⟨l', p, rfl⟩ : ∃ l' p, l = l' ++ [p] := ⟨_, _, (List.dropLast_concat_getLast hne).symm⟩
  obtain ⟨p1, p2⟩ := hn p (by simp)
  rw [onLast_snoc, runL_append, runL_append]
  generalize runL s l' = z
  obtain ⟨a, t⟩ := z
  show stepL (a, t) { p with drop := p.drop + n } = stepL (stepL (a, t) p) ⟨0, n, ⟨#[]⟩⟩
  obtain ⟨x, hx⟩ : ∃ x : Nat, p.keep = x := ⟨p.keep.toNat, by omega⟩
  obtain ⟨y, hy⟩ : ∃ y : Nat, p.drop = y := ⟨p.drop.toNat, by omega⟩
  obtain ⟨k, hk⟩ : ∃ k : Nat, n = k := ⟨n.toNat, by omega⟩
  have e2 : ((x : Int) + ((y : Int) + (k : Int))).toNat = x + y + k := by omega
  have e3 : ((x : Int) + (y : Int)).toNat = x + y := by omega
  have e4 : ((0 : Int) + (k : Int)).toNat = k := by omega
  simp only [stepL, hx, hy, hk, e2, e3, e4, bl_nil, List.append_nil, List.drop_drop, Int.toNat_zero, List.take_zero]
 ·rename_i hn
  have : n = 0 := by omega
  rw [this, stepL_zero]
theorem runM_piece (s : Ap) {m : Mk} (hm : NnM m) {p : Pc} (h1 : 0 ≤ p.keep) (h2 : 0 ≤ p.drop) : runM s (m.piece p) = stepL (runM s m) p := by
 rw [Mk.piece_eq, runM_drop s ((hm.more h1).put _) h2, runM_put s (hm.more h1).2, runM_more s m hm.2 h1]
 generalize runM s m = z
 obtain ⟨a, t⟩ := z
 obtain ⟨x, hx⟩ : ∃ x : Nat, p.keep = x := ⟨p.keep.toNat, by omega⟩
 obtain ⟨y, hy⟩ : ∃ y : Nat, p.drop = y := ⟨p.drop.toNat, by omega⟩
 have e3 : ((x : Int) + (y : Int)).toNat = x + y := by omega
 have e4 : ((0 : Int) + (y : Int)).toNat = y := by omega
 have e5 : ((x : Int) + 0).toNat = x := by omega
 simp only [stepL, hx, hy, e3, e4, bl_nil, List.append_nil, List.drop_drop, Int.toNat_zero, List.take_zero, Int.add_zero, Nat.add_zero, Int.toNat_natCast]
theorem runM_pieces (s : Ap) : ∀ {l : List Pc} {m : Mk}, NnM m → Nn l → runM s (m.pieces l) = runL (runM s m) l
 | [], _, _, _ => rfl
 | p :: r, m, hm, hl => by
  obtain ⟨h1, h2⟩ := hl p List.mem_cons_self
  show runM s ((m.piece p).pieces r) = runL (stepL (runM s m) p) r
  rw [runM_pieces s (hm.piece h1) hl.tail, runM_piece s hm h1 h2]
theorem outL_keep (s : Ap) (k : Int) : outL (stepL s ⟨k, 0, ⟨#[]⟩⟩) = outL s := by
 obtain ⟨a, t⟩ := s
 simp [outL, stepL, bl_nil, List.append_assoc]
/-- The normal edit does the same. -/
theorem run_normL (s : Ap) {l : List Pc} (h : Nn l) : outL (runL s (normL l)) = outL (runL s l) := by
 have e := runM_pieces s NnM.zero h
 rw [runM_zero] at e
 have e2 := outL_keep (runL s (normL l)) (Mk.pieces ⟨[], 0⟩ l).keep
 rw [← e2]
 show outL (runM s (Mk.pieces ⟨[], 0⟩ l)) = _
 rw [e]
 rfl
theorem apply_normL (t : ByteArray) {l : List Pc} (h : Nn l) : applyB t (normL l) = applyB t l := bl_inj (by rw [bl_apply, bl_apply, run_normL _ h])
theorem putLen_append : ∀ a b : List Pc, putLen (a ++ b) = putLen a + putLen b
 | [], b => by simp [putLen]
 | p :: r, b => by show _ + putLen (r ++ b) = _ + putLen r + putLen b; rw [putLen_append r b]; omega
theorem wt_eq : ∀ l : List Pc, wt l = extL l + putLen l
 | [] => rfl
 | p :: r => by
  show p.keep + p.drop + p.put.size + wt r = p.keep + p.drop + extL r + ((p.put.size + putLen r : Nat) : Int)
  rw [wt_eq r]; omega
theorem sumP_eq : ∀ {l : List Pc}, Nn l → sumP l = wt l
 | [], _ => rfl
 | p :: r, h => by
  obtain ⟨h1, h2⟩ := h p List.mem_cons_self
  show max 0 p.keep + max 0 p.drop + p.put.size + sumP r = p.keep + p.drop + p.put.size + wt r
  rw [sumP_eq h.tail]; omega
theorem pcsOk_of : ∀ {l : List Pc} {n : Nat}, Nn l → extL l ≤ 1048576 → n + putLen l ≤ 1048576 → pcsOk n l = true
 | [], _, _, _, _ => rfl
 | p :: r, n, h, he, hp => by
  obtain ⟨h1, h2⟩ := h p List.mem_cons_self
  have h3 := extL_nn h.tail
  have e1 : extL (p :: r) = p.keep + p.drop + extL r := rfl
  have e2 : putLen (p :: r) = p.put.size + putLen r := rfl
  simp only [pcsOk, pcOk, Bool.and_eq_true, decide_eq_true_eq]
  exact ⟨⟨⟨⟨⟨h1, by omega⟩, h2⟩, by omega⟩, by omega⟩, pcsOk_of h.tail (by omega) (by omega)⟩
theorem right_of {l : List Pc} (h : Nn l) (he : extL l ≤ 1048576) (hp : putLen l ≤ 1048576) (hl : l.length ≤ 4096) : pcsRight l = true := by
 simp only [pcsRight, Bool.and_eq_true, decide_eq_true_eq]
 exact ⟨hl, pcsOk_of h he (by omega)⟩
theorem putLen_le {l : List Pc} (h : Nn l) : (putLen l : Int) ≤ wt l := by
 have := wt_eq l
 have := extL_nn h
 omega
theorem extL_le {l : List Pc} (h : Nn l) : extL l ≤ wt l := (extL_nn h).2
/-- A small edit that is right stays right when it is made normal. -/
theorem right_normL {l : List Pc} (h : Nn l) (hw : wt l ≤ 1000000) (hl : l.length ≤ 2000) : pcsRight (normL l) = true := by
 have h1 := normL_nn h
 have h2 := normL_wt h
 have h3 := normL_len l
 have h4 := putLen_le h1
 have h5 := extL_le h1
 exact right_of h1 (by omega) (by omega) (by omega)
theorem apE_ok {t : ByteArray} {l : List Pc} (h : apE t l = 0) : pcsRight l = true ∧ extL l ≤ t.size := by
 unfold apE at h
 split at h
 ·split at h
  ·rename_i h1 h2; exact ⟨h1, h2⟩
  ·exact absurd h (by decide)
 ·exact absurd h (by decide)
theorem apS_ok {t : ByteArray} {l : List Pc} (h : apE t l = 0) : apS t l = applyB t l := by unfold apS; rw [if_pos h]
theorem apply_norm_ok {t : ByteArray} {l : List Pc} (h : apE t l = 0) (hw : sumP l ≤ 1000) (hl : l.length ≤ 2000) : apE t (normR l) = 0 ∧ apS t (normR l) = apS t l := by
 obtain ⟨h1, h2⟩ := apE_ok h
 obtain ⟨n1, _, _⟩ := right_nn h1
 have e : normR l = normL l := by unfold normR; rw [h1]; rfl
 rw [e]
 have h3 : pcsRight (normL l) = true := right_normL n1 (by rw [← sumP_eq n1]; omega) hl
 have h4 := normL_ext n1
 have h5 : apE t (normL l) = 0 := by unfold apE; rw [h3, if_pos rfl]; exact if_pos (by omega)
 exact ⟨h5, by rw [apS_ok h5, apS_ok h, apply_normL t n1]⟩
end Go.Proofs.Ytkimbpeapolcbaa.Sy
