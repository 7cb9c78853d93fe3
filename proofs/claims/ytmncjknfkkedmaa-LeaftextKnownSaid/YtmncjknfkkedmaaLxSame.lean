/- Chapter 05: two edits are the same. -/
import Derived.Test.YtmncjknfkkedmaaLxRowKit
namespace Go.Proofs.Ytmncjknfkkedmaa.Lx
open Go.RowKit Go.Proofs.Ytmncjknfkkedmaa.Bw Go.Proofs.Ytmncjknfkkedmaa.Bs

/-- Two pieces are the same. -/
def Pc.eq (p q : Pc) : Bool := decide (p.keep = q.keep) && decide (p.drop = q.drop) && decide (p.put = q.put)
def pcsEq : List Pc → List Pc → Bool
  | [], [] => true
  | p :: r, q :: s => p.eq q && pcsEq r s
  | _, _ => false
theorem Pc.eq_iff {p q : Pc} : p.eq q = true ↔ p = q := by
  obtain ⟨a, b, c⟩ := p
  obtain ⟨x, y, z⟩ := q
  simp [Pc.eq, and_assoc]
theorem pcsEq_iff : ∀ {l m : List Pc}, pcsEq l m = true ↔ l = m
  | [], [] => by simp [pcsEq]
  | [], _ :: _ => by simp [pcsEq]
  | _ :: _, [] => by simp [pcsEq]
  | p :: r, q :: s => by simp [pcsEq, Pc.eq_iff, pcsEq_iff (l := r) (m := s)]
theorem pcsEq_len {l m : List Pc} (h : l.length ≠ m.length) : pcsEq l m = false := by
  rcases he : pcsEq l m with _ | _
  · rfl
  · exact absurd (congrArg List.length (pcsEq_iff.1 he)) h
theorem pcsEq_at {l m : List Pc} {i : Nat} {p q : Pc} (h : l[i]? = some p) (k : m[i]? = some q) : pcsEq (l.drop i) (m.drop i) = (p.eq q && pcsEq (l.drop (i + 1)) (m.drop (i + 1))) := by
  rw [drop_at h, drop_at k]; rfl

theorem Pc.eq_spell (p q : Pc) : p.eq q = ((p.keep == q.keep) && (p.drop == q.drop) && (p.put.toList == q.put.toList)) := by
  rw [Pc.eq, beq_str]
  congr 1

set_option maxRecDepth 100000 in
set_option maxHeartbeats 2000000 in
theorem same_any (a b : List Pc) (v u : Value) (w : World) (ha : RdP w a v) (hb : RdP w b u) : Calls Try.prog 17 #[v, u] w (Ret w fun r _ => r = .bool (pcsEq a b)) := by
  obtain ⟨A, ac, rfl, a1, a2, a3⟩ := ha
  obtain ⟨B, bc, rfl, b1, b2, b3⟩ := hb
  unfold maxLen at a2 b2
  rcases Nat.lt_trichotomy a.length b.length with hl | hl | hl
  · have HF := Lib.hid (pcsEq_len (l := a) (m := b) (by omega))
    have t1 : ((a.length : Int) != (b.length : Int)) = true := by simp; omega
    clear a3 b3
    go_enter Try.func17, Try.ntmps17
    go_wp2_with fail
    go_ret
    exact ret_bool HF.out.symm (Ext.refl w)
  · have t1 : ((a.length : Int) != (b.length : Int)) = false := by simp; omega
    have HLL := Lib.hid hl
    go_enter Try.func17, Try.ntmps17
    go_wp2_with fail
    go_loopw [5] (fun s5 wr => ∃ i : Nat, s5 = .int .i64 i ∧ i ≤ a.length ∧ Hid (pcsEq (a.drop i) (b.drop i) = pcsEq a b) ∧ Ext w wr) (fun i _ => a.length - (intOf i).toNat)
    case atStart => exact ⟨0, rfl, Nat.zero_le _, Lib.hid rfl, Ext.refl w⟩
    case round =>
      obtain ⟨i, rfl, hi, HW, hE⟩ := hrel
      rcases Nat.lt_or_ge i a.length with hlt | hlt
      · obtain ⟨p, hp⟩ : ∃ p, a[i]? = some p := ⟨_, List.getElem?_eq_getElem hlt⟩
        obtain ⟨q, hq⟩ : ∃ q, b[i]? = some q := ⟨_, List.getElem?_eq_getElem (by omega)⟩
        obtain ⟨ba, oa, rfl, ra⟩ := a3 (by omega)
        obtain ⟨bb, ob, rfl, rb⟩ := b3 (by omega)
        obtain ⟨e1, e2, e3, e4⟩ := rdPcs_at (rdPcs_ext hE ra) hp
        obtain ⟨g1, g2, g3, g4⟩ := rdPcs_at (rdPcs_ext hE rb) hq
        have HD := Lib.hid (HW.out.symm.trans (pcsEq_at hp hq))
        have q1 : (0 : Int) ≤ (i : Int) := by omega
        have q2 : (i : Int) < (a.length : Int) := by omega
        have q3 : (i : Int) < (b.length : Int) := by omega
        clear HW hp hq ra rb a3 b3
        rw [Pc.eq_spell] at HD
        rcases hc1 : (p.keep == q.keep) with _ | _
        · have HG : Hid (pcsEq a b = false) := by rw [HD.out, hc1]; rfl
          clear HD
          go_wp2_with fail
          go_quiet (fail)
          go_wp2_with fail
          go_ret
          exact ret_bool HG.out.symm (hE.drewN _)
        rcases hc2 : (p.drop == q.drop) with _ | _
        · have HG : Hid (pcsEq a b = false) := by rw [HD.out, hc1, hc2]; rfl
          clear HD
          go_wp2_with fail
          go_quiet (fail)
          go_wp2_with fail
          go_ret
          exact ret_bool HG.out.symm (hE.drewN _)
        rcases hc3 : (p.put.toList == q.put.toList) with _ | _
        · have HG : Hid (pcsEq a b = false) := by rw [HD.out, hc1, hc2, hc3]; rfl
          clear HD
          go_wp2_with fail
          go_quiet (fail)
          go_wp2_with fail
          go_ret
          exact ret_bool HG.out.symm (hE.drewN _)
        have HN : Hid (pcsEq (a.drop (i + 1)) (b.drop (i + 1)) = pcsEq a b) := by rw [HD.out, hc1, hc2, hc3]; exact Lib.hid rfl
        clear HD
        go_wp2_with fail
        go_quiet (fail)
        go_wp2_with fail
        go_roundw
        case rel => exact ⟨i + 1, by go_num, by omega, HN, hE.drewN _⟩
        case measure => simp [intOf]; omega
      · have HF : Hid (pcsEq a b = true) := by rw [← HW.out, List.drop_eq_nil_of_le hlt, List.drop_eq_nil_of_le (by omega)]; exact Lib.hid rfl
        clear HW
        go_wp2_with fail
        go_ret
        exact ret_bool HF.out.symm hE
  · have HF := Lib.hid (pcsEq_len (l := a) (m := b) (by omega))
    have t1 : ((a.length : Int) != (b.length : Int)) = true := by simp; omega
    clear a3 b3
    go_enter Try.func17, Try.ntmps17
    go_wp2_with fail
    go_ret
    exact ret_bool HF.out.symm (Ext.refl w)
end Go.Proofs.Ytmncjknfkkedmaa.Lx
