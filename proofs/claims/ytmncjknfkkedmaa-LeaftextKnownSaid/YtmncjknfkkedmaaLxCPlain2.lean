/- Chapter 05: puts and drops of a maker commute at one place. -/
import Derived.Test.YtmncjknfkkedmaaLxPlainV
import Derived.Test.YtmncjknfkkedmaaLxCPlain
namespace Go.Proofs.Ytmncjknfkkedmaa.Lx
open Go.RowKit Go.Proofs.Ytmncjknfkkedmaa.Bw Go.Proofs.Ytmncjknfkkedmaa.Bs

theorem last_keep_zero {m : Mk} (h : 0 ≤ m.keep) : m.last.keep = 0 := by
  unfold Mk.last
  split
  · rfl
  · rename_i hn
    have : ¬ (0 < m.keep) := fun h1 => hn (.inl h1)
    omega
/-- Behind a put or a drop the last piece goes on. -/
theorem last_of {l : List Pc} (h : l ≠ []) : (Mk.mk l 0).last = ⟨l, 0⟩ := if_neg (fun h' => h'.elim (fun h' => by simp only at h'; omega) (fun h' => h h'))
theorem put_of {l : List Pc} (h : l ≠ []) {u : ByteArray} (hu : 0 < u.size) : (Mk.mk l 0).put u = ⟨onLast (fun p => { p with put := p.put ++ u }) l, 0⟩ := by
  have e : (Mk.mk l 0).put u = ⟨onLast (fun p => { p with put := p.put ++ u }) (Mk.mk l 0).last.l, (Mk.mk l 0).last.keep⟩ := if_pos hu
  rw [e, last_of h]
theorem drop_of {l : List Pc} (h : l ≠ []) {n : Int} (hn : 0 < n) : (Mk.mk l 0).drop n = ⟨onLast (fun p => { p with drop := p.drop + n }) l, 0⟩ := by
  have e : (Mk.mk l 0).drop n = ⟨onLast (fun p => { p with drop := p.drop + n }) (Mk.mk l 0).last.l, (Mk.mk l 0).last.keep⟩ := if_pos hn
  rw [e, last_of h]
theorem put_eq {m : Mk} (hm : 0 ≤ m.keep) {u : ByteArray} (hu : 0 < u.size) : m.put u = ⟨onLast (fun p => { p with put := p.put ++ u }) m.last.l, 0⟩ := by
  have e : m.put u = ⟨onLast (fun p => { p with put := p.put ++ u }) m.last.l, m.last.keep⟩ := if_pos hu
  rw [e, last_keep_zero hm]
theorem drop_eq {m : Mk} (hm : 0 ≤ m.keep) {n : Int} (hn : 0 < n) : m.drop n = ⟨onLast (fun p => { p with drop := p.drop + n }) m.last.l, 0⟩ := by
  have e : m.drop n = ⟨onLast (fun p => { p with drop := p.drop + n }) m.last.l, m.last.keep⟩ := if_pos hn
  rw [e, last_keep_zero hm]
theorem put_put {m : Mk} (hm : 0 ≤ m.keep) (u v : ByteArray) : (m.put u).put v = m.put (u ++ v) := by
  rcases Nat.eq_zero_or_pos u.size with hu | hu
  · rw [put_none m hu, bytes_empty hu]
    congr 1
  · rcases Nat.eq_zero_or_pos v.size with hv | hv
    · rw [put_none _ hv, append_none hv]
    · have huv : 0 < (u ++ v).size := by rw [ByteArray.size_append]; omega
      rw [put_eq hm hu, put_of (onLast_ne m.last_ne) hv, put_eq hm huv, onLast_onLast]
      simp only [ByteArray.append_assoc]
theorem drop_drop' {m : Mk} (hm : 0 ≤ m.keep) {a b : Int} (ha : 0 ≤ a) (hb : 0 ≤ b) : (m.drop a).drop b = m.drop (a + b) := by
  rcases Int.lt_or_le 0 a with h1 | h1
  · rcases Int.lt_or_le 0 b with h2 | h2
    · rw [drop_eq hm h1, drop_of (onLast_ne m.last_ne) h2, drop_eq hm (show 0 < a + b by omega), onLast_onLast]
      simp only [Int.add_assoc]
    · rw [show b = 0 by omega, drop_zero_, Int.add_zero]
  · rw [show a = 0 by omega, drop_zero_, Int.zero_add]
theorem drop_put {m : Mk} (hm : 0 ≤ m.keep) (u : ByteArray) {n : Int} (hn : 0 ≤ n) : (m.drop n).put u = (m.put u).drop n := by
  rcases Nat.eq_zero_or_pos u.size with hu | hu
  · rw [put_none _ hu, put_none _ hu]
  · rcases Int.lt_or_le 0 n with h2 | h2
    · rw [drop_eq hm h2, put_of (onLast_ne m.last_ne) hu, put_eq hm hu, drop_of (onLast_ne m.last_ne) h2, onLast_onLast, onLast_onLast]
    · rw [show n = 0 by omega, drop_zero_, drop_zero_]
end Go.Proofs.Ytmncjknfkkedmaa.Lx
