/- Chapter 05: what an edit does to a text, on rows of bytes; the normal edit does the same. -/
import Derived.Test.YtmncjknfkkedmaaLxInvert
import Derived.Test.YtmncjknfkkedmaaLxSmall
import Derived.Test.YtmncjknfkkedmaaLxWorks
import Derived.Test.YtmncjknfkkedmaaLxRApply
namespace Go.Proofs.Ytmncjknfkkedmaa.Lx
open Go.RowKit Go.Proofs.Ytmncjknfkkedmaa.Bw Go.Proofs.Ytmncjknfkkedmaa.Bs

def bl (s : ByteArray) : List UInt8 := s.data.toList
theorem bl_append (a b : ByteArray) : bl (a ++ b) = bl a ++ bl b := by
  unfold bl
  rw [ByteArray.data_append, Array.toList_append]
theorem bl_len (s : ByteArray) : (bl s).length = s.size := by
  unfold bl ByteArray.size
  rw [Array.length_toList]
theorem bl_inj {a b : ByteArray} (h : bl a = bl b) : a = b := by
  obtain ⟨a⟩ := a
  obtain ⟨b⟩ := b
  congr
  exact Array.toList_inj.1 h
theorem bl_extract (s : ByteArray) (i j : Nat) : bl (s.extract i j) = ((bl s).drop i).take (j - i) := by
  unfold bl
  rw [ByteArray.data_extract, Array.toList_extract]
theorem bl_nil : bl ⟨#[]⟩ = [] := rfl
theorem bl_empty {s : ByteArray} (h : s.size = 0) : bl s = [] := List.eq_nil_of_length_eq_zero (by rw [bl_len]; exact h)

abbrev Ap := List UInt8 × List UInt8
def stepL (s : Ap) (p : Pc) : Ap := (s.1 ++ s.2.take p.keep.toNat ++ bl p.put, s.2.drop (p.keep + p.drop).toNat)
def runL (s : Ap) : List Pc → Ap
  | [] => s
  | p :: r => runL (stepL s p) r
def outL (s : Ap) : List UInt8 := s.1 ++ s.2
theorem runL_append (s : Ap) : ∀ a b : List Pc, runL s (a ++ b) = runL (runL s a) b
  | [], _ => rfl
  | p :: r, b => runL_append (stepL s p) r b
theorem bl_applyB : ∀ (l : List Pc) (t : ByteArray) (acc : List UInt8), acc ++ bl (applyB t l) = outL (runL (acc, bl t) l)
  | [], t, acc => rfl
  | p :: r, t, acc => by
    show acc ++ bl (t.extract 0 p.keep.toNat ++ p.put ++ applyB (t.extract (p.keep + p.drop).toNat t.size) r) = outL (runL (stepL (acc, bl t) p) r)
    rw [bl_append, bl_append, ← List.append_assoc, ← List.append_assoc, bl_applyB r]
    have e1 : bl (t.extract 0 p.keep.toNat) = (bl t).take p.keep.toNat := by rw [bl_extract]; simp
    have e2 : bl (t.extract (p.keep + p.drop).toNat t.size) = (bl t).drop (p.keep + p.drop).toNat := by
      rw [bl_extract, List.take_of_length_le (by rw [List.length_drop, bl_len]; omega)]
    rw [e1, e2]
    rfl
theorem bl_apply (t : ByteArray) (l : List Pc) : bl (applyB t l) = outL (runL ([], bl t) l) := bl_applyB l t []

def runM (s : Ap) (m : Mk) : Ap := stepL (runL s m.l) ⟨m.keep, 0, ⟨#[]⟩⟩
theorem stepL_zero (s : Ap) : stepL s ⟨0, 0, ⟨#[]⟩⟩ = s := by
  obtain ⟨a, t⟩ := s
  simp [stepL, bl_nil]
theorem runM_zero (s : Ap) (l : List Pc) : runM s ⟨l, 0⟩ = runL s l := stepL_zero _
theorem runM_more (s : Ap) (m : Mk) {k : Int} (hk : 0 ≤ m.keep) (h0 : 0 ≤ k) : runM s (m.more k) = stepL (runM s m) ⟨k, 0, ⟨#[]⟩⟩ := by
  unfold runM
  show stepL (runL s m.l) ⟨m.keep + k, 0, ⟨#[]⟩⟩ = _
  generalize runL s m.l = z
  obtain ⟨a, t⟩ := z
  obtain ⟨x, hx⟩ : ∃ x : Nat, m.keep = x := ⟨m.keep.toNat, by omega⟩
  obtain ⟨y, hy⟩ : ∃ y : Nat, k = y := ⟨k.toNat, by omega⟩
  rw [hx, hy]
  have e : ((x : Int) + (y : Int)).toNat = x + y := by omega
  simp only [stepL, bl_nil, List.append_nil, Int.add_zero, e, Int.toNat_natCast, List.append_assoc, List.drop_drop]
  rw [← List.take_add]
theorem runM_last (s : Ap) (m : Mk) : runM s m.last = runM s m := by
  unfold Mk.last
  split
  · rw [runM_zero, runL_append]
    rfl
  · rfl
theorem last_keep0 {m : Mk} (h : 0 ≤ m.keep) : m.last.keep = 0 := by
  unfold Mk.last
  split
  · rfl
  · rename_i hn
    have : ¬ (0 < m.keep) := fun h1 => hn (.inl h1)
    omega
theorem runL_onLast (s : Ap) {f : Pc → Pc} {q : Pc} (hf : ∀ z p, stepL z (f p) = stepL (stepL z p) q) {l : List Pc} (h : l ≠ []) : runL s (onLast f l) = stepL (runL s l) q := by
  obtain ⟨l', p, rfl⟩ : ∃ l' p, l = l' ++ [p] := ⟨_, _, (List.dropLast_concat_getLast h).symm⟩
  rw [onLast_snoc, runL_append, runL_append]
  exact hf _ _
theorem runM_put (s : Ap) {m : Mk} (h : 0 ≤ m.keep) (u : ByteArray) : runM s (m.put u) = stepL (runM s m) ⟨0, 0, u⟩ := by
  unfold Mk.put
  split
  · have e := runL_onLast s (f := fun p => { p with put := p.put ++ u }) (q := ⟨0, 0, u⟩) (fun z p => by
      obtain ⟨a, t⟩ := z
      simp [stepL, bl_append, List.append_assoc]) m.last_ne
    rw [last_keep0 h, runM_zero, e, ← runM_last s m]
    have : runM s m.last = runL s m.last.l := by
      have := runM_zero s m.last.l
      rw [← last_keep0 h] at this
      exact this
    rw [this]
  · rename_i hn
    rw [show stepL (runM s m) ⟨0, 0, u⟩ = runM s m by
      generalize runM s m = z
      obtain ⟨a, t⟩ := z
      simp [stepL, bl_empty (show u.size = 0 by omega)]]
theorem runM_drop (s : Ap) {m : Mk} (hm : NnM m) {n : Int} (h0 : 0 ≤ n) : runM s (m.drop n) = stepL (runM s m) ⟨0, n, ⟨#[]⟩⟩ := by
  unfold Mk.drop
  split
  · have hne := m.last_ne
    have hn := hm.last.1
    have hk := last_keep0 hm.2
    have e1 : runM s m.last = runL s m.last.l := by
      have := runM_zero s m.last.l
      rw [← hk] at this
      exact this
    rw [hk, runM_zero, ← runM_last s m, e1]
    generalize m.last.l = l at *
    obtain ⟨l', p, rfl⟩ : ∃ l' p, l = l' ++ [p] := ⟨_, _, (List.dropLast_concat_getLast hne).symm⟩
    obtain ⟨p1, p2⟩ := hn p (by simp)
    rw [onLast_snoc, runL_append, runL_append]
    generalize runL s l' = z
    obtain ⟨a, t⟩ := z
    show stepL (a, t) { p with drop := p.drop + n } = stepL (stepL (a, t) p) ⟨0, n, ⟨#[]⟩⟩
    obtain ⟨x, hx⟩ : ∃ x : Nat, p.keep = x := ⟨p.keep.toNat, by omega⟩
    obtain ⟨y, hy⟩ : ∃ y : Nat, p.drop = y := ⟨p.drop.toNat, by omega⟩
    obtain ⟨k, hk⟩ : ∃ k : Nat, n = k := ⟨n.toNat, by omega⟩
    have e2 : ((x : Int) + ((y : Int) + (k : Int))).toNat = x + y + k := by omega
    have e3 : ((x : Int) + (y : Int)).toNat = x + y := by omega
    have e4 : ((0 : Int) + (k : Int)).toNat = k := by omega
    simp only [stepL, hx, hy, hk, e2, e3, e4, bl_nil, List.append_nil, List.drop_drop, Int.toNat_zero, List.take_zero]
  · rename_i hn
    have : n = 0 := by omega
    rw [this, stepL_zero]
theorem runM_piece (s : Ap) {m : Mk} (hm : NnM m) {p : Pc} (h1 : 0 ≤ p.keep) (h2 : 0 ≤ p.drop) : runM s (m.piece p) = stepL (runM s m) p := by
  rw [Mk.piece_eq, runM_drop s ((hm.more h1).put _) h2, runM_put s (hm.more h1).2, runM_more s m hm.2 h1]
  generalize runM s m = z
  obtain ⟨a, t⟩ := z
  obtain ⟨x, hx⟩ : ∃ x : Nat, p.keep = x := ⟨p.keep.toNat, by omega⟩
  obtain ⟨y, hy⟩ : ∃ y : Nat, p.drop = y := ⟨p.drop.toNat, by omega⟩
  have e3 : ((x : Int) + (y : Int)).toNat = x + y := by omega
  have e4 : ((0 : Int) + (y : Int)).toNat = y := by omega
  have e5 : ((x : Int) + 0).toNat = x := by omega
  simp only [stepL, hx, hy, e3, e4, bl_nil, List.append_nil, List.drop_drop, Int.toNat_zero, List.take_zero, Int.add_zero, Nat.add_zero, Int.toNat_natCast]
theorem runM_pieces (s : Ap) : ∀ {l : List Pc} {m : Mk}, NnM m → Nn l → runM s (m.pieces l) = runL (runM s m) l
  | [], _, _, _ => rfl
  | p :: r, m, hm, hl => by
    obtain ⟨h1, h2⟩ := hl p List.mem_cons_self
    show runM s ((m.piece p).pieces r) = runL (stepL (runM s m) p) r
    rw [runM_pieces s (hm.piece h1) hl.tail, runM_piece s hm h1 h2]
theorem outL_keep (s : Ap) (k : Int) : outL (stepL s ⟨k, 0, ⟨#[]⟩⟩) = outL s := by
  obtain ⟨a, t⟩ := s
  simp [outL, stepL, bl_nil, List.append_assoc]
/-- The normal edit does the same. -/
theorem run_normL (s : Ap) {l : List Pc} (h : Nn l) : outL (runL s (normL l)) = outL (runL s l) := by
  have e := runM_pieces s NnM.zero h
  rw [runM_zero] at e
  have e2 := outL_keep (runL s (normL l)) (Mk.pieces ⟨[], 0⟩ l).keep
  rw [← e2]
  show outL (runM s (Mk.pieces ⟨[], 0⟩ l)) = _
  rw [e]
  rfl
theorem apply_normL (t : ByteArray) {l : List Pc} (h : Nn l) : applyB t (normL l) = applyB t l := bl_inj (by rw [bl_apply, bl_apply, run_normL _ h])

/-! ### When an edit is right -/
theorem putLen_append : ∀ a b : List Pc, putLen (a ++ b) = putLen a + putLen b
  | [], b => by simp [putLen]
  | p :: r, b => by show _ + putLen (r ++ b) = _ + putLen r + putLen b; rw [putLen_append r b]; omega
theorem wt_eq : ∀ l : List Pc, wt l = extL l + putLen l
  | [] => rfl
  | p :: r => by
    show p.keep + p.drop + p.put.size + wt r = p.keep + p.drop + extL r + ((p.put.size + putLen r : Nat) : Int)
    rw [wt_eq r]; omega
theorem sumP_eq : ∀ {l : List Pc}, Nn l → sumP l = wt l
  | [], _ => rfl
  | p :: r, h => by
    obtain ⟨h1, h2⟩ := h p List.mem_cons_self
    show max 0 p.keep + max 0 p.drop + p.put.size + sumP r = p.keep + p.drop + p.put.size + wt r
    rw [sumP_eq h.tail]; omega
theorem pcsOk_of : ∀ {l : List Pc} {n : Nat}, Nn l → extL l ≤ 1048576 → n + putLen l ≤ 1048576 → pcsOk n l = true
  | [], _, _, _, _ => rfl
  | p :: r, n, h, he, hp => by
    obtain ⟨h1, h2⟩ := h p List.mem_cons_self
    have h3 := extL_nn h.tail
    have e1 : extL (p :: r) = p.keep + p.drop + extL r := rfl
    have e2 : putLen (p :: r) = p.put.size + putLen r := rfl
    simp only [pcsOk, pcOk, Bool.and_eq_true, decide_eq_true_eq]
    exact ⟨⟨⟨⟨⟨h1, by omega⟩, h2⟩, by omega⟩, by omega⟩, pcsOk_of h.tail (by omega) (by omega)⟩
theorem right_of {l : List Pc} (h : Nn l) (he : extL l ≤ 1048576) (hp : putLen l ≤ 1048576) (hl : l.length ≤ 4096) : pcsRight l = true := by
  simp only [pcsRight, Bool.and_eq_true, decide_eq_true_eq]
  exact ⟨hl, pcsOk_of h he (by omega)⟩
theorem putLen_le {l : List Pc} (h : Nn l) : (putLen l : Int) ≤ wt l := by
  have := wt_eq l
  have := extL_nn h
  omega
theorem extL_le {l : List Pc} (h : Nn l) : extL l ≤ wt l := (extL_nn h).2
/-- A small edit that is right stays right when it is made normal. -/
theorem right_normL {l : List Pc} (h : Nn l) (hw : wt l ≤ 1000000) (hl : l.length ≤ 2000) : pcsRight (normL l) = true := by
  have h1 := normL_nn h
  have h2 := normL_wt h
  have h3 := normL_len l
  have h4 := putLen_le h1
  have h5 := extL_le h1
  exact right_of h1 (by omega) (by omega) (by omega)
theorem apE_ok {t : ByteArray} {l : List Pc} (h : apE t l = 0) : pcsRight l = true ∧ extL l ≤ t.size := by
  unfold apE at h
  split at h
  · split at h
    · rename_i h1 h2; exact ⟨h1, h2⟩
    · exact absurd h (by decide)
  · exact absurd h (by decide)
theorem apS_ok {t : ByteArray} {l : List Pc} (h : apE t l = 0) : apS t l = applyB t l := by unfold apS; rw [if_pos h]
theorem apply_norm_ok {t : ByteArray} {l : List Pc} (h : apE t l = 0) (hw : sumP l ≤ 1000) (hl : l.length ≤ 2000) : apE t (normR l) = 0 ∧ apS t (normR l) = apS t l := by
  obtain ⟨h1, h2⟩ := apE_ok h
  obtain ⟨n1, _, _⟩ := right_nn h1
  have e : normR l = normL l := by unfold normR; rw [h1]; rfl
  rw [e]
  have h3 : pcsRight (normL l) = true := right_normL n1 (by rw [← sumP_eq n1]; omega) hl
  have h4 := normL_ext n1
  have h5 : apE t (normL l) = 0 := by unfold apE; rw [h3, if_pos rfl]; exact if_pos (by omega)
  exact ⟨h5, by rw [apS_ok h5, apS_ok h, apply_normL t n1]⟩
end Go.Proofs.Ytmncjknfkkedmaa.Lx
namespace Go.Proofs.Ytmncjknfkkedmaa.Lx
open Go.RowKit Go.Proofs.Ytmncjknfkkedmaa.Bw Go.Proofs.Ytmncjknfkkedmaa.Bs

theorem normR_ok {l : List Pc} : ∀ p ∈ normR l, okStr p.put := by
  unfold normR
  split
  · rename_i h; exact puts_ok h
  · intro p hp; exact absurd hp List.not_mem_nil
theorem pcsEq_refl (l : List Pc) : pcsEq l l = true := pcsEq_iff.2 rfl

set_option maxRecDepth 100000 in
set_option maxHeartbeats 4000000 in
theorem lawApply (t : ByteArray) (l : List Pc) (v : Value) (w : World) (ht : t.size ≤ maxLen) (h : RdP w l v) : Calls Try.prog 5 #[.string t, v] w (Ret w fun r _ => r = .bool true) := by
  unfold maxLen at ht
  obtain ⟨A, c, rfl, _⟩ := id h
  rcases Nat.lt_or_ge 1000 t.size with hl | hl
  · have t1 : decide ((1000 : Int) < (t.size : Int)) = true := decide_eq_true (by omega)
    have hk := works_any w
    go_enter Try.func5, Try.ntmps5
    go_wp2_with fail
    refine hk.mono ?_
    clear hk
    rintro e w1 ⟨_, rfl, rfl, E1⟩
    go_wp2_with fail
    go_ret
    exact ⟨_, rfl, rfl, E1⟩
  · have t1 : decide ((1000 : Int) < (t.size : Int)) = false := decide_eq_false (by omega)
    have hc := small_any l _ 400 w h (by decide) (by decide)
    go_enter Try.func5, Try.ntmps5
    go_wp2_with fail
    refine hc.mono ?_
    clear hc
    rintro e w1 ⟨_, rfl, ⟨b, rfl, hb⟩, E1⟩
    cases b with
    | false =>
      have hk := works_any w1
      go_wp2_with fail
      refine hk.mono ?_
      clear hk
      rintro e w2 ⟨_, rfl, rfl, E2⟩
      go_wp2_with fail
      go_ret
      exact ⟨_, rfl, rfl, E1.trans E2⟩
    | true =>
      obtain ⟨b1, b2⟩ := hb rfl
      clear hb
      have hc := apply_any t l _ w1 (h.ext E1) (by omega)
      go_wp2_with fail
      refine hc.mono ?_
      clear hc
      rintro e w2 ⟨_, rfl, rfl, E12⟩
      have E2 := E1.trans E12
      have hc := applyR_any t l _ w2 (h.ext E2) (by omega)
      go_wp2_with fail
      refine hc.mono ?_
      clear hc
      rintro e w3 ⟨_, rfl, rfl, E23⟩
      have E3 := E2.trans E23
      obtain ⟨s, hs⟩ : ∃ s, apS t l = s := ⟨_, rfl⟩
      obtain ⟨r, hr⟩ : ∃ r, apE t l = r := ⟨_, rfl⟩
      rw [hs, hr]
      have u1 : (s.toList == s.toList) = true := by simp
      have u2 : (r != r) = false := by simp
      by_cases h0 : r = 0
      · have u3 : (r != 0) = false := by rw [h0]; rfl
        have hk := apply_norm_ok (hr.trans h0) (by omega) (by omega)
        rw [hs] at hk
        have HK := Lib.hid hk
        have hn := Norm_any l _ w3 (h.ext E3)
        clear hk hs hr h0
        go_wp2_with fail
        refine hn.mono ?_
        clear hn
        rintro e w4 ⟨v4, rfl, O4, E34⟩
        have E4 := E3.trans E34
        have hc := apply_any t (normR l) v4 w4 (RdP.of_owns O4 normR_ok) (by omega)
        rw [HK.out.1, HK.out.2] at hc
        go_wp2_with fail
        refine hc.mono ?_
        clear hc
        rintro e w5 ⟨_, rfl, rfl, E45⟩
        have E5 := E4.trans E45
        have hk := works_any w5

        go_wp2_with fail
        refine hk.mono ?_
        clear hk
        rintro e w6 ⟨_, rfl, rfl, E56⟩
        go_wp2_with fail
        go_ret
        exact ⟨_, rfl, rfl, E5.trans E56⟩
      · have u3 : (r != 0) = true := by simpa using h0
        have hk := works_any w3
        clear hs hr h0
        go_wp2_with fail
        refine hk.mono ?_
        clear hk
        rintro e w4 ⟨_, rfl, rfl, E34⟩
        go_wp2_with fail
        go_ret
        exact ⟨_, rfl, rfl, E3.trans E34⟩
end Go.Proofs.Ytmncjknfkkedmaa.Lx
