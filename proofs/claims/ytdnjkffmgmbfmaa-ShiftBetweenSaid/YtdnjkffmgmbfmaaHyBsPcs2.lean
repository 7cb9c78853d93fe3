/- SyLxRApply turned to this seat. (Printed by gport.py.) -/
import Derived.Test.YtdnjkffmgmbfmaaHyOuOps
import Derived.Test.YtdnjkffmgmbfmaaProg
import Derived.Test.YtdnjkffmgmbfmaaHyLxFrame
import Derived.Test.YtdnjkffmgmbfmaaHyWiLate
namespace Go.Proofs.Ytdnjkffmgmbfmaa.Sy
open Go.RowKit Go.Proofs.Ytdnjkffmgmbfmaa.Bw Go.Proofs.Ytdnjkffmgmbfmaa.Bs
set_option maxRecDepth 100000 in
set_option maxHeartbeats 2000000 in
theorem extentR_any (l : List Pc) (v : Value) (w : World) (h : RdP w l v) (hn : Nn l) (hw : wt l ≤ 1000000000000) : Calls Try.prog 62 #[v] w (Ret w fun r _ => r = .int .i64 (extL l)) := by
 obtain ⟨A, c, rfl, a1, a2, a3⟩ := h
 unfold maxLen at a2
 go_enter Try.func62, Try.ntmps62
 go_wp2_with fail
 go_loopw [3, 4] (fun s3 s8 wr => ∃ (i : Nat) (n : Int), s3 = .int .i64 n ∧ s8 = .int .i64 i ∧ i ≤ l.length ∧ 0 ≤ n ∧ Hid (n + extL (l.drop i) = extL l) ∧ Ext w wr) (fun _ i _ => l.length - (intOf i).toNat)
 case atStart => exact ⟨0, 0, rfl, rfl, Nat.zero_le _, Int.le_refl _, Lib.hid (by simp), Ext.refl w⟩
 case round =>
  obtain ⟨i, n, rfl, rfl, hi, hn0, HW, hE⟩ := hrel
  rcases Nat.lt_or_ge i l.length with hlt | hlt
  ·obtain ⟨p, hp⟩ : ∃ p, l[i]? = some p := ⟨_, List.getElem?_eq_getElem hlt⟩
   obtain ⟨ba, oa, rfl, ra⟩ := a3 (by omega)
   obtain ⟨e1, e2, e3, e4⟩ := rdPcs_at (rdPcs_ext hE ra) hp
   obtain ⟨k1, k2⟩ := hn.at hp
   have HD : Hid (n + p.keep + p.drop + extL (l.drop (i + 1)) = extL l) := Lib.hid (by
    have h1 := HW.out
    rw [extL_at hp] at h1; omega)
   have x1 := extL_nn hn
   have x2 := extL_nn (hn.drop (i + 1))
   have x3 : n + p.keep + p.drop + extL (l.drop (i + 1)) = extL l := HD.out
   have q1 : (0 : Int) ≤ (i : Int) := by omega
   have q2 : (i : Int) < (l.length : Int) := by omega
   have b1 : n + p.keep ≤ 1000000000000 := by omega
   have b2 : n + p.keep + p.drop ≤ 1000000000000 := by omega
   have w1 : IntKind.i64.wrap (n + p.keep) = n + p.keep := by rw [IntKind.wrap_i64]; omega
   have w2 : IntKind.i64.wrap (n + p.keep + p.drop) = n + p.keep + p.drop := by rw [IntKind.wrap_i64]; omega
   unfold maxLen at e4
   clear hp ra a3 HW x1 x2 x3
   go_wp2_with fail
   go_quiet (fail)
   go_wp2_with fail
   go_roundw
   case rel => exact ⟨i + 1, _, rfl, by go_num, by omega, by omega, HD, hE.drewN _⟩
   case measure => simp [intOf]; omega
  ·have HF : Hid (n = extL l) := Lib.hid (by rw [← HW.out, List.drop_eq_nil_of_le hlt]; simp [extL])
   clear HW
   go_wp2_with fail
   go_ret
   exact ⟨_, rfl, by show Value.int .i64 n = _; rw [HF.out], hE⟩
set_option maxRecDepth 100000 in
set_option maxHeartbeats 4000000 in
theorem applyR_any (t : ByteArray) (l : List Pc) (v : Value) (w : World) (h : RdP w l v) (ht : t.size ≤ 1000000000000) : Calls Try.prog 47 #[.string t, v] w (Ret w fun r _ => r = .tuple #[.string (apS t l), .int .i64 (apE t l)]) := by
 have hc := rightR_any l v w h
 obtain ⟨A, c, rfl, a1, a2, a3⟩ := id h
 obtain ⟨r, hr⟩ : ∃ r, pcsRight l = r := ⟨_, rfl⟩
 rw [hr] at hc
 have HR := Lib.hid hr
 clear hr
 go_enter Try.func47, Try.ntmps47
 go_wp2_with fail
 refine hc.mono ?_
 clear hc
 rintro e w1 ⟨_, rfl, rfl, E1⟩
 cases r with
 | false =>
  go_wp2_with fail
  go_ret2
  have e0 : apE t l = 2 := by unfold apE; rw [HR.out]; rfl
  have e1 : apS t l = ⟨#[]⟩ := by unfold apS; rw [e0]; rfl
  exact ⟨_, rfl, by show Value.tuple #[.string ⟨#[]⟩, .int .i64 2] = _; rw [e0, e1], E1⟩
 | true =>
  obtain ⟨n1, n2, n3⟩ := right_nn HR.out
  have he := extentR_any l _ w1 (h.ext E1) n1 (by omega)
  go_wp2_with fail
  refine he.mono ?_
  clear he
  rintro e w2 ⟨_, rfl, rfl, hE2⟩
  have E2 := E1.trans hE2
  clear E1 hE2
  rcases Int.lt_or_le (t.size : Int) (extL l) with hx | hx
  ·have t1 : decide ((t.size : Int) < extL l) = true := decide_eq_true hx
   have HX := Lib.hid hx
   clear hx
   go_wp2_with fail
   go_ret2
   have e0 : apE t l = 50 := by unfold apE; rw [HR.out, if_pos rfl]; exact if_neg (Int.not_le.2 HX.out)
   have e1 : apS t l = ⟨#[]⟩ := by unfold apS; rw [e0]; rfl
   exact ⟨_, rfl, by show Value.tuple #[.string ⟨#[]⟩, .int .i64 50] = _; rw [e0, e1], E2⟩
  ·have t1 : decide ((t.size : Int) < extL l) = false := decide_eq_false (by omega)
   have e0 : apE t l = 0 := by unfold apE; rw [HR.out, if_pos rfl]; exact if_pos hx
   have e1 : apS t l = applyB t l := by unfold apS; rw [e0]; rfl
   have H0 := Lib.hid e0
   have H1 := Lib.hid e1
   clear e0 e1
   go_wp2_with fail
   go_loopw [0, 6, 7] (fun s0 s6 s7 wr => ∃ (i : Nat) (x acc : ByteArray), s0 = .string x ∧ s6 = .string acc ∧ s7 = .int .i64 i ∧ i ≤ l.length ∧ Hid (acc ++ applyB x (l.drop i) = applyB t l) ∧ extL (l.drop i) ≤ x.size ∧ x.size ≤ t.size ∧ acc.size + x.size + wt (l.drop i) ≤ 2000000000000 ∧ Ext w wr) (fun _ _ i _ => l.length - (intOf i).toNat)
   case atStart => exact ⟨0, t, ⟨#[]⟩, rfl, rfl, rfl, Nat.zero_le _, Lib.hid (by show (⟨#[]⟩ : ByteArray) ++ applyB t l = _; exact ByteArray.empty_append), by simpa using hx, Nat.le_refl _, by show ((0 : Nat) : Int) + _ + wt l ≤ _; omega, E2⟩
   case round =>
    clear E2
    obtain ⟨i, x, acc, rfl, rfl, rfl, hi, HW, hex, hxt, hsz, hE⟩ := hrel
    rcases Nat.lt_or_ge i l.length with hlt | hlt
    ·obtain ⟨p, hp⟩ : ∃ p, l[i]? = some p := ⟨_, List.getElem?_eq_getElem hlt⟩
     obtain ⟨ba, oa, rfl, ra⟩ := a3 (by omega)
     obtain ⟨e1, e2, e3, e4⟩ := rdPcs_at (rdPcs_ext hE ra) hp
     obtain ⟨k1, k2⟩ := n1.at hp
     have q1 : (0 : Int) ≤ (i : Int) := by omega
     have q2 : (i : Int) < (l.length : Int) := by omega
     have HX := extL_at hp
     have HT := wt_at hp
     have z1 := extL_nn (n1.drop (i + 1))
     have z2 := wt_nn (n1.drop (i + 1))
     obtain ⟨kn, hkn⟩ : ∃ n : Nat, p.keep = n := ⟨p.keep.toNat, by omega⟩
     obtain ⟨dn, hdn⟩ : ∃ n : Nat, p.drop = n := ⟨p.drop.toNat, by omega⟩
     have HA := applyB_at x hp
     have HW2 : Hid (acc ++ x.extract 0 kn ++ p.put ++ applyB (x.extract (kn + dn) x.size) (l.drop (i + 1)) = applyB t l) := Lib.hid (by
      rw [← HW.out, HA, hkn, hdn, ByteArray.append_assoc, ByteArray.append_assoc, ByteArray.append_assoc]
      rfl)
     have s1 : (x.extract 0 kn).size = kn := by rw [ByteArray.size_extract]; omega
     have s2 : (x.extract (kn + dn) x.size).size = x.size - (kn + dn) := by rw [ByteArray.size_extract]; omega
     rw [hkn] at e1
     rw [hdn] at e2
     have j1 : kn + dn ≤ x.size := by omega
     have j2 : kn ≤ x.size := by omega
     have j3 : (acc.size : Int) + (kn : Int) + p.put.size ≤ 2000000000000 := by omega
     have j4 : extL (l.drop (i + 1)) ≤ ((x.size - (kn + dn) : Nat) : Int) := by omega
     have j5 : (acc.size : Int) + kn + p.put.size + ((x.size - (kn + dn) : Nat) : Int) + wt (l.drop (i + 1)) ≤ 2000000000000 := by omega
     have j6 : ¬ (9223372036854775807 < acc.size + kn) := by omega
     have j7 : ¬ (9223372036854775807 < acc.size + kn + p.put.size) := by omega
     have j8 : ((kn : Int) + dn) ≤ (x.size : Int) := by omega
     have w1 : IntKind.i64.wrap ((kn : Int) + dn) = (kn : Int) + dn := by rw [IntKind.wrap_i64]; omega
     have HS2 := Lib.hid s2
     clear HA HX HT z1 z2 hkn hdn k1 k2 hp hex hsz HW s2
     go_wp2_with fail
     go_quiet (fail)
     go_wp2_with fail
     go_quiet (fail)
     go_wp2_with fail
     go_roundw
     case rel => exact ⟨i + 1, x.extract (kn + dn) x.size, acc ++ x.extract 0 kn ++ p.put, rfl, rfl, by go_num, by omega, HW2, by rw [HS2.out]; exact j4, by rw [HS2.out]; omega, by rw [HS2.out, ByteArray.size_append, ByteArray.size_append, s1]; omega, by first | exact hE.drewN _ | exact (hE.drewN _).drewN _⟩
     case measure => simp [intOf]; omega
    ·have HF : Hid (acc ++ x = applyB t l) := Lib.hid (by rw [← HW.out, List.drop_eq_nil_of_le hlt]; rfl)
     have j6 : ¬ (9223372036854775807 < acc.size + x.size) := by have := wt_nn (n1.drop i); omega
     clear HW
     go_wp2_with fail
     go_ret2
     refine ⟨_, rfl, ?_, hE⟩
     show Value.tuple #[.string (acc ++ x), .int .i64 0] = _
     rw [H1.out, H0.out, HF.out]
end Go.Proofs.Ytdnjkffmgmbfmaa.Sy
namespace Go.Proofs.Ytdnjkffmgmbfmaa.Sy
open Go.RowKit Go.Proofs.Ytdnjkffmgmbfmaa.Bw Go.Proofs.Ytdnjkffmgmbfmaa.Bs
end Go.Proofs.Ytdnjkffmgmbfmaa.Sy
namespace Go.Proofs.Ytdnjkffmgmbfmaa.Sy
open Go.RowKit Go.Proofs.Ytdnjkffmgmbfmaa.Bw Go.Proofs.Ytdnjkffmgmbfmaa.Bs
def pcsLight (top : Nat) : Nat → List Pc → Bool
 | _, [] => true
 | n, p :: r => decide (n + p.put.size ≤ top) && pcsLight top (n + p.put.size) r
def OpD.light (o : OpD) (top : Nat) : Bool := decide (o.path.length ≤ top) && decide (o.to.length ≤ top) && decide (o.label.size ≤ top) && decide (o.key.size ≤ top) && decide (o.value.size ≤ top) && decide (o.pcs.length ≤ top) && pcsLight top 0 o.pcs
theorem light_at {top : Nat} {l : List Pc} {i : Nat} {p : Pc} (n : Nat) (h : l[i]? = some p) : pcsLight top n (l.drop i) = (decide (n + p.put.size ≤ top) && pcsLight top (n + p.put.size) (l.drop (i + 1))) := by
 rw [drop_at h, pcsLight]
theorem light_open {o : OpD} {top : Nat} (h : o.light top = true) : o.path.length ≤ top ∧ o.to.length ≤ top := by
 simp only [OpD.light, Bool.and_eq_true, decide_eq_true_eq] at h
 exact ⟨h.1.1.1.1.1.1, h.1.1.1.1.1.2⟩
set_option maxRecDepth 100000 in
set_option maxHeartbeats 2000000 in
theorem light_any (o : OpD) (v : Value) (top : Nat) (w : World) (h : o.rd w v) (htop : top ≤ 1000000) : Calls Try.prog 8 #[v, .int .i64 top] w (Ret w fun r _ => r = .bool (o.light top)) := by
 obtain ⟨pv, tv, cv, rfl, ⟨pA, pc, rfl, _, p1, p2, _⟩, ⟨tA, tc, rfl, _, t1, t2, _⟩, ⟨cA, cc, rfl, c1, c2, c3⟩, s1, s2, s3⟩ := h
 unfold maxLen at p2 t2 c2
 unfold okStr maxLen at s1 s2 s3
 rcases Nat.lt_or_ge top o.path.length with m0 | m0
 ·have HF := Lib.hid (show o.light top = false by simp [OpD.light]; omega)
  have d0 : decide ((top : Int) < (o.path.length : Int)) = true := decide_eq_true (by omega)
  have dn0 : top < o.path.length := m0
  clear c3 m0
  go_enter Try.func8, Try.ntmps8
  go_wp2_with fail
  go_ret
  exact ret_bool HF.out.symm ((Ext.refl w).alloc _)
 have d0 : decide ((top : Int) < (o.path.length : Int)) = false := decide_eq_false (by omega)
 have dn0 : decide (top < o.path.length) = false := decide_eq_false (by omega)
 rcases Nat.lt_or_ge top o.to.length with m1 | m1
 ·have HF := Lib.hid (show o.light top = false by simp [OpD.light]; omega)
  have d1 : decide ((top : Int) < (o.to.length : Int)) = true := decide_eq_true (by omega)
  have dn1 : top < o.to.length := m1
  clear c3 m0 m1
  go_enter Try.func8, Try.ntmps8
  go_wp2_with fail
  go_ret
  exact ret_bool HF.out.symm ((Ext.refl w).alloc _)
 have d1 : decide ((top : Int) < (o.to.length : Int)) = false := decide_eq_false (by omega)
 have dn1 : decide (top < o.to.length) = false := decide_eq_false (by omega)
 rcases Nat.lt_or_ge top o.label.size with m2 | m2
 ·have HF := Lib.hid (show o.light top = false by simp [OpD.light]; omega)
  have d2 : decide ((top : Int) < (o.label.size : Int)) = true := decide_eq_true (by omega)
  have dn2 : top < o.label.size := m2
  clear c3 m0 m1 m2
  go_enter Try.func8, Try.ntmps8
  go_wp2_with fail
  go_ret
  exact ret_bool HF.out.symm ((Ext.refl w).alloc _)
 have d2 : decide ((top : Int) < (o.label.size : Int)) = false := decide_eq_false (by omega)
 have dn2 : decide (top < o.label.size) = false := decide_eq_false (by omega)
 rcases Nat.lt_or_ge top o.key.size with m3 | m3
 ·have HF := Lib.hid (show o.light top = false by simp [OpD.light]; omega)
  have d3 : decide ((top : Int) < (o.key.size : Int)) = true := decide_eq_true (by omega)
  have dn3 : top < o.key.size := m3
  clear c3 m0 m1 m2 m3
  go_enter Try.func8, Try.ntmps8
  go_wp2_with fail
  go_ret
  exact ret_bool HF.out.symm ((Ext.refl w).alloc _)
 have d3 : decide ((top : Int) < (o.key.size : Int)) = false := decide_eq_false (by omega)
 have dn3 : decide (top < o.key.size) = false := decide_eq_false (by omega)
 rcases Nat.lt_or_ge top o.value.size with m4 | m4
 ·have HF := Lib.hid (show o.light top = false by simp [OpD.light]; omega)
  have d4 : decide ((top : Int) < (o.value.size : Int)) = true := decide_eq_true (by omega)
  have dn4 : top < o.value.size := m4
  clear c3 m0 m1 m2 m3 m4
  go_enter Try.func8, Try.ntmps8
  go_wp2_with fail
  go_ret
  exact ret_bool HF.out.symm ((Ext.refl w).alloc _)
 have d4 : decide ((top : Int) < (o.value.size : Int)) = false := decide_eq_false (by omega)
 have dn4 : decide (top < o.value.size) = false := decide_eq_false (by omega)
 rcases Nat.lt_or_ge top o.pcs.length with m5 | m5
 ·have HF := Lib.hid (show o.light top = false by simp [OpD.light]; omega)
  have d5 : decide ((top : Int) < (o.pcs.length : Int)) = true := decide_eq_true (by omega)
  have dn5 : top < o.pcs.length := m5
  clear c3 m0 m1 m2 m3 m4 m5
  go_enter Try.func8, Try.ntmps8
  go_wp2_with fail
  go_ret
  exact ret_bool HF.out.symm ((Ext.refl w).alloc _)
 have d5 : decide ((top : Int) < (o.pcs.length : Int)) = false := decide_eq_false (by omega)
 have dn5 : decide (top < o.pcs.length) = false := decide_eq_false (by omega)
 have HF : Hid (o.light top = pcsLight top 0 o.pcs) := by simp [Hid, OpD.light, m0, m1, m2, m3, m4, m5]
 clear m0 m1 m2 m3 m4
 obtain ⟨w1, hw1⟩ : ∃ w1, w.alloc (.cells #[.int .u8 o.kind, .slice pA o.path.length pc, .int .i64 o.at_, .slice tA o.to.length tc, .int .u64 o.id, .bool o.leaf, .string o.label, .string o.key, .string o.value, .bool o.gone, .slice cA o.pcs.length cc] 26) = w1 := ⟨_, rfl⟩
 have hE1 : Ext w w1 := by rw [← hw1]; exact (Ext.refl w).alloc _
 have b10 : w1.cell? ⟨w.heap.size, 10, none⟩ = some (.slice cA o.pcs.length cc) := by rw [← hw1]; exact (NBox.new _ _ _).cell 10
 have b1 : w1.cell? ⟨w.heap.size, 1, none⟩ = some (.slice pA o.path.length pc) := by rw [← hw1]; exact (NBox.new _ _ _).cell 1
 have b3 : w1.cell? ⟨w.heap.size, 3, none⟩ = some (.slice tA o.to.length tc) := by rw [← hw1]; exact (NBox.new _ _ _).cell 3
 have b6 : w1.cell? ⟨w.heap.size, 6, none⟩ = some (.string o.label) := by rw [← hw1]; exact (NBox.new _ _ _).cell 6
 have b7 : w1.cell? ⟨w.heap.size, 7, none⟩ = some (.string o.key) := by rw [← hw1]; exact (NBox.new _ _ _).cell 7
 have b8 : w1.cell? ⟨w.heap.size, 8, none⟩ = some (.string o.value) := by rw [← hw1]; exact (NBox.new _ _ _).cell 8
 have H1 := Lib.hid hw1
 clear hw1
 go_enter Try.func8, Try.ntmps8
 go_wp2_with fail
 rw [H1.out]
 clear H1
 go_wp2_with fail
 go_loopw [5, 6] (fun s5 s6 wr => ∃ i n : Nat, s6 = .int .i64 i ∧ s5 = .int .i64 n ∧ i ≤ o.pcs.length ∧ n ≤ top ∧ Hid (pcsLight top n (o.pcs.drop i) = o.light top) ∧ Ext w1 wr) (fun _ i _ => o.pcs.length - (intOf i).toNat)
 case atStart => exact ⟨0, 0, rfl, rfl, Nat.zero_le _, by omega, HF.out.symm, Ext.refl _⟩
 case round =>
  obtain ⟨i, n, rfl, rfl, hi, hn, HW, hE⟩ := hrel
  have q1 : (0 : Int) ≤ (i : Int) := by omega
  have b := hE.cell b10
  rcases Nat.lt_or_ge i o.pcs.length with hlt | hlt
  ·obtain ⟨p, hp⟩ : ∃ p, o.pcs[i]? = some p := ⟨_, List.getElem?_eq_getElem hlt⟩
   obtain ⟨ba, oa, rfl, ra⟩ := c3 (by omega)
   obtain ⟨e1, e2, e3, e4⟩ := rdPcs_at (rdPcs_ext (hE1.trans hE) ra) hp
   have HD := Lib.hid (light_at (top := top) n hp)
   have q2 : (i : Int) < (o.pcs.length : Int) := by omega
   unfold maxLen at e4
   obtain ⟨kp, dp, pt⟩ := p
   simp only at e1 e2 e3 e4 HD
   clear hp ra c3 HF b10 b1 b3 b6 b7 b8
   rcases Nat.lt_or_ge top (n + pt.size) with m4 | m4
   ·have HG : Hid (o.light top = false) := by
     rw [← HW.out, HD.out, decide_eq_false (by omega)]; rfl
    have t4 : decide ((top : Int) - (n : Int) < (pt.size : Int)) = true := decide_eq_true (by omega)
    clear HW HD
    go_wp2_with fail
    go_ret
    exact ret_bool HG.out.symm (hE1.trans hE)
   ·have HN : Hid (pcsLight top (n + pt.size) (o.pcs.drop (i + 1)) = o.light top) := by
     rw [← HW.out, HD.out, decide_eq_true m4]; rfl
    have t4 : decide ((top : Int) - (n : Int) < (pt.size : Int)) = false := decide_eq_false (by omega)
    clear HW HD
    go_wp2_with fail
    go_roundw
    case rel => exact ⟨i + 1, n + pt.size, by go_num, by go_num, by omega, m4, HN, hE⟩
    case measure => simp [intOf]; omega
  ·have HG : Hid (o.light top = true) := by rw [← HW.out, List.drop_eq_nil_of_le hlt]; rfl
   have q2 : decide ((i : Int) < (o.pcs.length : Int)) = false := decide_eq_false (by omega)
   clear HW c3 HF b10 b1 b3 b6 b7 b8
   go_wp2_with fail
   go_ret
   exact ret_bool HG.out.symm (hE1.trans hE)
end Go.Proofs.Ytdnjkffmgmbfmaa.Sy
