/- SyLxRApply turned to this seat. (Printed by gport.py.) -/
import Derived.Test.YtofcbclokkjfjaaOyOuOps
import Derived.Test.YtofcbclokkjfjaaProg
import Derived.Test.YtofcbclokkjfjaaOyLxFrame
import Derived.Test.YtofcbclokkjfjaaOyWiLate
namespace Go.Proofs.Ytofcbclokkjfjaa.Sy
open Go.RowKit Go.Proofs.Ytofcbclokkjfjaa.Bw Go.Proofs.Ytofcbclokkjfjaa.Bs
set_option maxRecDepth 100000 in
set_option maxHeartbeats 2000000 in
theorem extentR_any (l : List Pc) (v : Value) (w : World) (h : RdP w l v) (hn : Nn l) (hw : wt l ≤ 1000000000000) : Calls Try.prog 79 #[v] w (Ret w fun r _ => r = .int .i64 (extL l)) := by
 obtain ⟨A, c, rfl, a1, a2, a3⟩ := h
 unfold maxLen at a2
 go_enter Try.func79, Try.ntmps79
 go_wp2_with fail
 go_loopw [3, 4] (fun s3 s8 wr => ∃ (i : Nat) (n : Int), s3 = .int .i64 n ∧ s8 = .int .i64 i ∧ i ≤ l.length ∧ 0 ≤ n ∧ Hid (n + extL (l.drop i) = extL l) ∧ Ext w wr) (fun _ i _ => l.length - (intOf i).toNat)
 case atStart => exact ⟨0, 0, rfl, rfl, Nat.zero_le _, Int.le_refl _, Lib.hid (by simp), Ext.refl w⟩
 case round =>
  obtain ⟨i, n, rfl, rfl, hi, hn0, HW, hE⟩ := hrel
  rcases Nat.lt_or_ge i l.length with hlt | hlt
  ·obtain ⟨p, hp⟩ : ∃ p, l[i]? = some p := ⟨_, List.getElem?_eq_getElem hlt⟩
   obtain ⟨ba, oa, rfl, ra⟩ := a3 (by omega)
   obtain ⟨e1, e2, e3, e4⟩ := rdPcs_at (rdPcs_ext hE ra) hp
   obtain ⟨k1, k2⟩ := hn.at hp
   have HD : Hid (n + p.keep + p.drop + extL (l.drop (i + 1)) = extL l) := Lib.hid (by
    have h1 := HW.out
    rw [extL_at hp] at h1; omega)
   have x1 := extL_nn hn
   have x2 := extL_nn (hn.drop (i + 1))
   have x3 : n + p.keep + p.drop + extL (l.drop (i + 1)) = extL l := HD.out
   have q1 : (0 : Int) ≤ (i : Int) := by omega
   have q2 : (i : Int) < (l.length : Int) := by omega
   have b1 : n + p.keep ≤ 1000000000000 := by omega
   have b2 : n + p.keep + p.drop ≤ 1000000000000 := by omega
   have w1 : IntKind.i64.wrap (n + p.keep) = n + p.keep := by rw [IntKind.wrap_i64]; omega
   have w2 : IntKind.i64.wrap (n + p.keep + p.drop) = n + p.keep + p.drop := by rw [IntKind.wrap_i64]; omega
   unfold maxLen at e4
   clear hp ra a3 HW x1 x2 x3
   go_wp2_with fail
   go_quiet (fail)
   go_wp2_with fail
   go_roundw
   case rel => exact ⟨i + 1, _, rfl, by go_num, by omega, by omega, HD, hE.drewN _⟩
   case measure => simp [intOf]; omega
  ·have HF : Hid (n = extL l) := Lib.hid (by rw [← HW.out, List.drop_eq_nil_of_le hlt]; simp [extL])
   clear HW
   go_wp2_with fail
   go_ret
   exact ⟨_, rfl, by show Value.int .i64 n = _; rw [HF.out], hE⟩
set_option maxRecDepth 100000 in
set_option maxHeartbeats 4000000 in
theorem applyR_any (t : ByteArray) (l : List Pc) (v : Value) (w : World) (h : RdP w l v) (ht : t.size ≤ 1000000000000) : Calls Try.prog 69 #[.string t, v] w (Ret w fun r _ => r = .tuple #[.string (apS t l), .int .i64 (apE t l)]) := by
 have hc := rightR_any l v w h
 obtain ⟨A, c, rfl, a1, a2, a3⟩ := id h
 obtain ⟨r, hr⟩ : ∃ r, pcsRight l = r := ⟨_, rfl⟩
 rw [hr] at hc
 have HR := Lib.hid hr
 clear hr
 go_enter Try.func69, Try.ntmps69
 go_wp2_with fail
 refine hc.mono ?_
 clear hc
 rintro e w1 ⟨_, rfl, rfl, E1⟩
 cases r with
 | false =>
  go_wp2_with fail
  go_ret2
  have e0 : apE t l = 2 := by unfold apE; rw [HR.out]; rfl
  have e1 : apS t l = ⟨#[]⟩ := by unfold apS; rw [e0]; rfl
  exact ⟨_, rfl, by show Value.tuple #[.string ⟨#[]⟩, .int .i64 2] = _; rw [e0, e1], E1⟩
 | true =>
  obtain ⟨n1, n2, n3⟩ := right_nn HR.out
  have he := extentR_any l _ w1 (h.ext E1) n1 (by omega)
  go_wp2_with fail
  refine he.mono ?_
  clear he
  rintro e w2 ⟨_, rfl, rfl, hE2⟩
  have E2 := E1.trans hE2
  clear E1 hE2
  rcases Int.lt_or_le (t.size : Int) (extL l) with hx | hx
  ·have t1 : decide ((t.size : Int) < extL l) = true := decide_eq_true hx
   have HX := Lib.hid hx
   clear hx
   go_wp2_with fail
   go_ret2
   have e0 : apE t l = 50 := by unfold apE; rw [HR.out, if_pos rfl]; exact if_neg (Int.not_le.2 HX.out)
   have e1 : apS t l = ⟨#[]⟩ := by unfold apS; rw [e0]; rfl
   exact ⟨_, rfl, by show Value.tuple #[.string ⟨#[]⟩, .int .i64 50] = _; rw [e0, e1], E2⟩
  ·have t1 : decide ((t.size : Int) < extL l) = false := decide_eq_false (by omega)
   have e0 : apE t l = 0 := by unfold apE; rw [HR.out, if_pos rfl]; exact if_pos hx
   have e1 : apS t l = applyB t l := by unfold apS; rw [e0]; rfl
   have H0 := Lib.hid e0
   have H1 := Lib.hid e1
   clear e0 e1
   go_wp2_with fail
   go_loopw [0, 6, 7] (fun s0 s6 s7 wr => ∃ (i : Nat) (x acc : ByteArray), s0 = .string x ∧ s6 = .string acc ∧ s7 = .int .i64 i ∧ i ≤ l.length ∧ Hid (acc ++ applyB x (l.drop i) = applyB t l) ∧ extL (l.drop i) ≤ x.size ∧ x.size ≤ t.size ∧ acc.size + x.size + wt (l.drop i) ≤ 2000000000000 ∧ Ext w wr) (fun _ _ i _ => l.length - (intOf i).toNat)
   case atStart => exact ⟨0, t, ⟨#[]⟩, rfl, rfl, rfl, Nat.zero_le _, Lib.hid (by show (⟨#[]⟩ : ByteArray) ++ applyB t l = _; exact ByteArray.empty_append), by simpa using hx, Nat.le_refl _, by show ((0 : Nat) : Int) + _ + wt l ≤ _; omega, E2⟩
   case round =>
    clear E2
    obtain ⟨i, x, acc, rfl, rfl, rfl, hi, HW, hex, hxt, hsz, hE⟩ := hrel
    rcases Nat.lt_or_ge i l.length with hlt | hlt
    ·obtain ⟨p, hp⟩ : ∃ p, l[i]? = some p := ⟨_, List.getElem?_eq_getElem hlt⟩
     obtain ⟨ba, oa, rfl, ra⟩ := a3 (by omega)
     obtain ⟨e1, e2, e3, e4⟩ := rdPcs_at (rdPcs_ext hE ra) hp
     obtain ⟨k1, k2⟩ := n1.at hp
     have q1 : (0 : Int) ≤ (i : Int) := by omega
     have q2 : (i : Int) < (l.length : Int) := by omega
     have HX := extL_at hp
     have HT := wt_at hp
     have z1 := extL_nn (n1.drop (i + 1))
     have z2 := wt_nn (n1.drop (i + 1))
     obtain ⟨kn, hkn⟩ : ∃ n : Nat, p.keep = n := ⟨p.keep.toNat, by omega⟩
     obtain ⟨dn, hdn⟩ : ∃ n : Nat, p.drop = n := ⟨p.drop.toNat, by omega⟩
     have HA := applyB_at x hp
     have HW2 : Hid (acc ++ x.extract 0 kn ++ p.put ++ applyB (x.extract (kn + dn) x.size) (l.drop (i + 1)) = applyB t l) := Lib.hid (by
      rw [← HW.out, HA, hkn, hdn, ByteArray.append_assoc, ByteArray.append_assoc, ByteArray.append_assoc]
      rfl)
     have s1 : (x.extract 0 kn).size = kn := by rw [ByteArray.size_extract]; omega
     have s2 : (x.extract (kn + dn) x.size).size = x.size - (kn + dn) := by rw [ByteArray.size_extract]; omega
     rw [hkn] at e1
     rw [hdn] at e2
     have j1 : kn + dn ≤ x.size := by omega
     have j2 : kn ≤ x.size := by omega
     have j3 : (acc.size : Int) + (kn : Int) + p.put.size ≤ 2000000000000 := by omega
     have j4 : extL (l.drop (i + 1)) ≤ ((x.size - (kn + dn) : Nat) : Int) := by omega
     have j5 : (acc.size : Int) + kn + p.put.size + ((x.size - (kn + dn) : Nat) : Int) + wt (l.drop (i + 1)) ≤ 2000000000000 := by omega
     have j6 : ¬ (9223372036854775807 < acc.size + kn) := by omega
     have j7 : ¬ (9223372036854775807 < acc.size + kn + p.put.size) := by omega
     have j8 : ((kn : Int) + dn) ≤ (x.size : Int) := by omega
     have w1 : IntKind.i64.wrap ((kn : Int) + dn) = (kn : Int) + dn := by rw [IntKind.wrap_i64]; omega
     have HS2 := Lib.hid s2
     clear HA HX HT z1 z2 hkn hdn k1 k2 hp hex hsz HW s2
     go_wp2_with fail
     go_quiet (fail)
     go_wp2_with fail
     go_quiet (fail)
     go_wp2_with fail
     go_roundw
     case rel => exact ⟨i + 1, x.extract (kn + dn) x.size, acc ++ x.extract 0 kn ++ p.put, rfl, rfl, by go_num, by omega, HW2, by rw [HS2.out]; exact j4, by rw [HS2.out]; omega, by rw [HS2.out, ByteArray.size_append, ByteArray.size_append, s1]; omega, by first | exact hE.drewN _ | exact (hE.drewN _).drewN _⟩
     case measure => simp [intOf]; omega
    ·have HF : Hid (acc ++ x = applyB t l) := Lib.hid (by rw [← HW.out, List.drop_eq_nil_of_le hlt]; rfl)
     have j6 : ¬ (9223372036854775807 < acc.size + x.size) := by have := wt_nn (n1.drop i); omega
     clear HW
     go_wp2_with fail
     go_ret2
     refine ⟨_, rfl, ?_, hE⟩
     show Value.tuple #[.string (acc ++ x), .int .i64 0] = _
     rw [H1.out, H0.out, HF.out]
end Go.Proofs.Ytofcbclokkjfjaa.Sy
namespace Go.Proofs.Ytofcbclokkjfjaa.Sy
open Go.RowKit Go.Proofs.Ytofcbclokkjfjaa.Bw Go.Proofs.Ytofcbclokkjfjaa.Bs
end Go.Proofs.Ytofcbclokkjfjaa.Sy
namespace Go.Proofs.Ytofcbclokkjfjaa.Sy
open Go.RowKit Go.Proofs.Ytofcbclokkjfjaa.Bw Go.Proofs.Ytofcbclokkjfjaa.Bs
end Go.Proofs.Ytofcbclokkjfjaa.Sy
namespace Go.Proofs.Ytofcbclokkjfjaa.Sy
open Go.RowKit Go.Proofs.Ytofcbclokkjfjaa.Bw Go.Proofs.Ytofcbclokkjfjaa.Bs
set_option maxRecDepth 100000 in
set_option maxHeartbeats 4000000 in
theorem formedR_1 (o : OpD) (v : Value) (w : World) (h : o.rd w v) (hk : o.kind = 1) : Calls Try.prog 73 #[v] w (Ret w fun r _ => r = .bool o.formed) := by
 obtain ⟨pv, tv, cv, rfl, hP, hT, hC, s1, s2, s3⟩ := h
 have hP0 := hP
 have hT0 := hT
 have hC0 := hC
 obtain ⟨pA, pc, rfl, _⟩ := hP0
 obtain ⟨tA, tc, rfl, _⟩ := hT0
 obtain ⟨cA, cc, rfl, _⟩ := hC0
 unfold okStr maxLen at s1 s3
 obtain ⟨w1, hw1⟩ : ∃ w1, w.alloc (.cells #[.int .u8 o.kind, .slice pA o.path.length pc, .int .i64 o.at_, .slice tA o.to.length tc, .int .u64 o.id, .bool o.leaf, .string o.label, .string o.key, .string o.value, .bool o.gone, .slice cA o.pcs.length cc] 38) = w1 := ⟨_, rfl⟩
 have hE1 : Ext w w1 := by rw [← hw1]; exact (Ext.refl w).alloc _
 have B0 : w1.cell? ⟨w.heap.size, 0, none⟩ = some (.int .u8 o.kind) := by rw [← hw1]; exact (NBox.new _ _ _).cell 0
 have B1 : w1.cell? ⟨w.heap.size, 1, none⟩ = some (.slice pA o.path.length pc) := by rw [← hw1]; exact (NBox.new _ _ _).cell 1
 have B2 : w1.cell? ⟨w.heap.size, 2, none⟩ = some (.int .i64 o.at_) := by rw [← hw1]; exact (NBox.new _ _ _).cell 2
 have B6 : w1.cell? ⟨w.heap.size, 6, none⟩ = some (.string o.label) := by rw [← hw1]; exact (NBox.new _ _ _).cell 6
 have E := Ext.refl w1
 have H1 := Lib.hid hw1
 clear hw1
 have k1 : (o.kind == 1) = true := by rw [hk]; rfl
 have HF : Hid (o.formed = (may o.path && (gapOk o.at_ && decide (o.label.size ≤ 64)))) := by simp [Hid, OpD.formed, hk]
 have hcP : ∀ W, Ext w1 W → Calls Try.prog 80 #[.slice pA o.path.length pc] W (Ret W fun r _ => r = .bool (may o.path)) := fun W hW => mayR_any _ _ _ (RdS.ext (hE1.trans hW) hP)
 clear hP hT hC s2 hk
 generalize may o.path = m at hcP HF
 rcases m with _ | _
 ·go_enter Try.func73, Try.ntmps73
  go_wp2_with (first | (rw [H1.out]; clear H1) | (go_at_call 80; refine (hcP _ E).mono ?_; clear hcP; rintro e u ⟨r, rfl, rfl, hE⟩; replace E := Ext.trans E hE; clear hE; have B0' := E.cell B0; have B1' := E.cell B1; have B2' := E.cell B2; have B6' := E.cell B6))
  go_ret
  exact ret_bool (by rw [HF.out]; rfl) (hE1.trans E)
 ·rcases Int.lt_or_le o.at_ 0 with ha | ha
  ·have ha1 : decide (0 ≤ o.at_) = false := decide_eq_false (by omega)
   have hga : gapOk o.at_ = false := by rw [gapOk, ha1]; rfl
   go_enter Try.func73, Try.ntmps73
   go_wp2_with (first | (rw [H1.out]; clear H1) | (go_at_call 80; refine (hcP _ E).mono ?_; clear hcP; rintro e u ⟨r, rfl, rfl, hE⟩; replace E := Ext.trans E hE; clear hE; have B0' := E.cell B0; have B1' := E.cell B1; have B2' := E.cell B2; have B6' := E.cell B6))
   go_ret
   exact ret_bool (by rw [HF.out, hga]; rfl) (hE1.trans E)
  have ha1 : decide (0 ≤ o.at_) = true := decide_eq_true ha
  rcases Int.lt_or_le 1048576 o.at_ with hb | hb
  ·have ha2 : decide (o.at_ ≤ 1048576) = false := decide_eq_false (by omega)
   have hga : gapOk o.at_ = false := by rw [gapOk, ha2, Bool.and_false]
   go_enter Try.func73, Try.ntmps73
   go_wp2_with (first | (rw [H1.out]; clear H1) | (go_at_call 80; refine (hcP _ E).mono ?_; clear hcP; rintro e u ⟨r, rfl, rfl, hE⟩; replace E := Ext.trans E hE; clear hE; have B0' := E.cell B0; have B1' := E.cell B1; have B2' := E.cell B2; have B6' := E.cell B6))
   go_ret
   exact ret_bool (by rw [HF.out, hga]; rfl) (hE1.trans E)
  have ha2 : decide (o.at_ ≤ 1048576) = true := decide_eq_true hb
  have hga : gapOk o.at_ = true := by rw [gapOk, ha1, ha2]; rfl
  rcases Nat.lt_or_ge 64 o.label.size with hs | hs
  ·have hs1 : decide (o.label.size ≤ 64) = false := decide_eq_false (by omega)
   have hs2 : decide ((o.label.size : Int) ≤ 64) = false := decide_eq_false (by omega)
   go_enter Try.func73, Try.ntmps73
   go_wp2_with (first | (rw [H1.out]; clear H1) | (go_at_call 80; refine (hcP _ E).mono ?_; clear hcP; rintro e u ⟨r, rfl, rfl, hE⟩; replace E := Ext.trans E hE; clear hE; have B0' := E.cell B0; have B1' := E.cell B1; have B2' := E.cell B2; have B6' := E.cell B6))
   go_ret
   exact ret_bool (by rw [HF.out, hga, hs1]; rfl) (hE1.trans E)
  ·have hs1 : decide (o.label.size ≤ 64) = true := decide_eq_true hs
   have hs2 : decide ((o.label.size : Int) ≤ 64) = true := decide_eq_true (by omega)
   go_enter Try.func73, Try.ntmps73
   go_wp2_with (first | (rw [H1.out]; clear H1) | (go_at_call 80; refine (hcP _ E).mono ?_; clear hcP; rintro e u ⟨r, rfl, rfl, hE⟩; replace E := Ext.trans E hE; clear hE; have B0' := E.cell B0; have B1' := E.cell B1; have B2' := E.cell B2; have B6' := E.cell B6))
   go_ret
   exact ret_bool (by rw [HF.out, hga, hs1]; rfl) (hE1.trans E)
set_option maxRecDepth 100000 in
set_option maxHeartbeats 4000000 in
theorem formedR_2 (o : OpD) (v : Value) (w : World) (h : o.rd w v) (hk : o.kind = 2) : Calls Try.prog 73 #[v] w (Ret w fun r _ => r = .bool o.formed) := by
 obtain ⟨pv, tv, cv, rfl, hP, hT, hC, s1, s2, s3⟩ := h
 have hP0 := hP
 have hT0 := hT
 have hC0 := hC
 obtain ⟨pA, pc, rfl, _⟩ := hP0
 obtain ⟨tA, tc, rfl, _⟩ := hT0
 obtain ⟨cA, cc, rfl, _⟩ := hC0
 unfold okStr maxLen at s1 s3
 obtain ⟨w1, hw1⟩ : ∃ w1, w.alloc (.cells #[.int .u8 o.kind, .slice pA o.path.length pc, .int .i64 o.at_, .slice tA o.to.length tc, .int .u64 o.id, .bool o.leaf, .string o.label, .string o.key, .string o.value, .bool o.gone, .slice cA o.pcs.length cc] 38) = w1 := ⟨_, rfl⟩
 have hE1 : Ext w w1 := by rw [← hw1]; exact (Ext.refl w).alloc _
 have B0 : w1.cell? ⟨w.heap.size, 0, none⟩ = some (.int .u8 o.kind) := by rw [← hw1]; exact (NBox.new _ _ _).cell 0
 have B1 : w1.cell? ⟨w.heap.size, 1, none⟩ = some (.slice pA o.path.length pc) := by rw [← hw1]; exact (NBox.new _ _ _).cell 1
 have B2 : w1.cell? ⟨w.heap.size, 2, none⟩ = some (.int .i64 o.at_) := by rw [← hw1]; exact (NBox.new _ _ _).cell 2
 have E := Ext.refl w1
 have H1 := Lib.hid hw1
 clear hw1
 have k1 : (o.kind == 1) = false := by rw [hk]; rfl
 have k2 : (o.kind == 2) = true := by rw [hk]; rfl
 have HF : Hid (o.formed = (may o.path && (true))) := by simp [Hid, OpD.formed, hk]
 have hcP : ∀ W, Ext w1 W → Calls Try.prog 80 #[.slice pA o.path.length pc] W (Ret W fun r _ => r = .bool (may o.path)) := fun W hW => mayR_any _ _ _ (RdS.ext (hE1.trans hW) hP)
 clear hP hT hC s2 hk
 generalize may o.path = m at hcP HF
 rcases m with _ | _
 ·go_enter Try.func73, Try.ntmps73
  go_wp2_with (first | (rw [H1.out]; clear H1) | (go_at_call 80; refine (hcP _ E).mono ?_; clear hcP; rintro e u ⟨r, rfl, rfl, hE⟩; replace E := Ext.trans E hE; clear hE; have B0' := E.cell B0; have B1' := E.cell B1; have B2' := E.cell B2))
  go_ret
  exact ret_bool (by rw [HF.out]; rfl) (hE1.trans E)
 ·rcases Int.lt_or_le o.at_ 0 with ha | ha
  ·have ha1 : decide (0 ≤ o.at_) = false := decide_eq_false (by omega)
   have hga : gapOk o.at_ = false := by rw [gapOk, ha1]; rfl
   go_enter Try.func73, Try.ntmps73
   go_wp2_with (first | (rw [H1.out]; clear H1) | (go_at_call 80; refine (hcP _ E).mono ?_; clear hcP; rintro e u ⟨r, rfl, rfl, hE⟩; replace E := Ext.trans E hE; clear hE; have B0' := E.cell B0; have B1' := E.cell B1; have B2' := E.cell B2))
   go_ret
   exact ret_bool (by rw [HF.out]; rfl) (hE1.trans E)
  have ha1 : decide (0 ≤ o.at_) = true := decide_eq_true ha
  rcases Int.lt_or_le 1048576 o.at_ with hb | hb
  ·have ha2 : decide (o.at_ ≤ 1048576) = false := decide_eq_false (by omega)
   have hga : gapOk o.at_ = false := by rw [gapOk, ha2, Bool.and_false]
   go_enter Try.func73, Try.ntmps73
   go_wp2_with (first | (rw [H1.out]; clear H1) | (go_at_call 80; refine (hcP _ E).mono ?_; clear hcP; rintro e u ⟨r, rfl, rfl, hE⟩; replace E := Ext.trans E hE; clear hE; have B0' := E.cell B0; have B1' := E.cell B1; have B2' := E.cell B2))
   go_ret
   exact ret_bool (by rw [HF.out]; rfl) (hE1.trans E)
  have ha2 : decide (o.at_ ≤ 1048576) = true := decide_eq_true hb
  have hga : gapOk o.at_ = true := by rw [gapOk, ha1, ha2]; rfl
  go_enter Try.func73, Try.ntmps73
  go_wp2_with (first | (rw [H1.out]; clear H1) | (go_at_call 80; refine (hcP _ E).mono ?_; clear hcP; rintro e u ⟨r, rfl, rfl, hE⟩; replace E := Ext.trans E hE; clear hE; have B0' := E.cell B0; have B1' := E.cell B1; have B2' := E.cell B2))
  go_ret
  exact ret_bool (by rw [HF.out]; rfl) (hE1.trans E)
set_option maxRecDepth 100000 in
set_option maxHeartbeats 4000000 in
theorem formedR_3 (o : OpD) (v : Value) (w : World) (h : o.rd w v) (hk : o.kind = 3) : Calls Try.prog 73 #[v] w (Ret w fun r _ => r = .bool o.formed) := by
 obtain ⟨pv, tv, cv, rfl, hP, hT, hC, s1, s2, s3⟩ := h
 have hP0 := hP
 have hT0 := hT
 have hC0 := hC
 obtain ⟨pA, pc, rfl, _⟩ := hP0
 obtain ⟨tA, tc, rfl, _⟩ := hT0
 obtain ⟨cA, cc, rfl, _⟩ := hC0
 unfold okStr maxLen at s1 s3
 obtain ⟨w1, hw1⟩ : ∃ w1, w.alloc (.cells #[.int .u8 o.kind, .slice pA o.path.length pc, .int .i64 o.at_, .slice tA o.to.length tc, .int .u64 o.id, .bool o.leaf, .string o.label, .string o.key, .string o.value, .bool o.gone, .slice cA o.pcs.length cc] 38) = w1 := ⟨_, rfl⟩
 have hE1 : Ext w w1 := by rw [← hw1]; exact (Ext.refl w).alloc _
 have B0 : w1.cell? ⟨w.heap.size, 0, none⟩ = some (.int .u8 o.kind) := by rw [← hw1]; exact (NBox.new _ _ _).cell 0
 have B1 : w1.cell? ⟨w.heap.size, 1, none⟩ = some (.slice pA o.path.length pc) := by rw [← hw1]; exact (NBox.new _ _ _).cell 1
 have B2 : w1.cell? ⟨w.heap.size, 2, none⟩ = some (.int .i64 o.at_) := by rw [← hw1]; exact (NBox.new _ _ _).cell 2
 have B3 : w1.cell? ⟨w.heap.size, 3, none⟩ = some (.slice tA o.to.length tc) := by rw [← hw1]; exact (NBox.new _ _ _).cell 3
 have E := Ext.refl w1
 have H1 := Lib.hid hw1
 clear hw1
 have k1 : (o.kind == 1) = false := by rw [hk]; rfl
 have k2 : (o.kind == 2) = false := by rw [hk]; rfl
 have k3 : (o.kind == 3) = true := by rw [hk]; rfl
 have HF : Hid (o.formed = (may o.path && (gapOk o.at_ && may o.to))) := by simp [Hid, OpD.formed, hk]
 have hcP : ∀ W, Ext w1 W → Calls Try.prog 80 #[.slice pA o.path.length pc] W (Ret W fun r _ => r = .bool (may o.path)) := fun W hW => mayR_any _ _ _ (RdS.ext (hE1.trans hW) hP)
 have hcT : ∀ W, Ext w1 W → Calls Try.prog 80 #[.slice tA o.to.length tc] W (Ret W fun r _ => r = .bool (may o.to)) := fun W hW => mayR_any _ _ _ (RdS.ext (hE1.trans hW) hT)
 clear hP hT hC s2 hk
 generalize may o.path = m at hcP HF
 generalize may o.to = mt at hcT HF
 rcases m with _ | _
 ·go_enter Try.func73, Try.ntmps73
  go_wp2_with (first | (rw [H1.out]; clear H1) | (go_at_call 80; refine (hcP _ E).mono ?_; clear hcP; rintro e u ⟨r, rfl, rfl, hE⟩; replace E := Ext.trans E hE; clear hE; have B0' := E.cell B0; have B1' := E.cell B1; have B2' := E.cell B2; have B3' := E.cell B3) | (go_at_call 80; refine (hcT _ E).mono ?_; clear hcT; rintro e u ⟨r, rfl, rfl, hE⟩; replace E := Ext.trans E hE; clear hE; have B0' := E.cell B0; have B1' := E.cell B1; have B2' := E.cell B2; have B3' := E.cell B3))
  go_ret
  exact ret_bool (by rw [HF.out]; rfl) (hE1.trans E)
 ·rcases Int.lt_or_le o.at_ 0 with ha | ha
  ·have ha1 : decide (0 ≤ o.at_) = false := decide_eq_false (by omega)
   have hga : gapOk o.at_ = false := by rw [gapOk, ha1]; rfl
   go_enter Try.func73, Try.ntmps73
   go_wp2_with (first | (rw [H1.out]; clear H1) | (go_at_call 80; refine (hcP _ E).mono ?_; clear hcP; rintro e u ⟨r, rfl, rfl, hE⟩; replace E := Ext.trans E hE; clear hE; have B0' := E.cell B0; have B1' := E.cell B1; have B2' := E.cell B2; have B3' := E.cell B3) | (go_at_call 80; refine (hcT _ E).mono ?_; clear hcT; rintro e u ⟨r, rfl, rfl, hE⟩; replace E := Ext.trans E hE; clear hE; have B0' := E.cell B0; have B1' := E.cell B1; have B2' := E.cell B2; have B3' := E.cell B3))
   go_ret
   exact ret_bool (by rw [HF.out, hga]; rfl) (hE1.trans E)
  have ha1 : decide (0 ≤ o.at_) = true := decide_eq_true ha
  rcases Int.lt_or_le 1048576 o.at_ with hb | hb
  ·have ha2 : decide (o.at_ ≤ 1048576) = false := decide_eq_false (by omega)
   have hga : gapOk o.at_ = false := by rw [gapOk, ha2, Bool.and_false]
   go_enter Try.func73, Try.ntmps73
   go_wp2_with (first | (rw [H1.out]; clear H1) | (go_at_call 80; refine (hcP _ E).mono ?_; clear hcP; rintro e u ⟨r, rfl, rfl, hE⟩; replace E := Ext.trans E hE; clear hE; have B0' := E.cell B0; have B1' := E.cell B1; have B2' := E.cell B2; have B3' := E.cell B3) | (go_at_call 80; refine (hcT _ E).mono ?_; clear hcT; rintro e u ⟨r, rfl, rfl, hE⟩; replace E := Ext.trans E hE; clear hE; have B0' := E.cell B0; have B1' := E.cell B1; have B2' := E.cell B2; have B3' := E.cell B3))
   go_ret
   exact ret_bool (by rw [HF.out, hga]; rfl) (hE1.trans E)
  have ha2 : decide (o.at_ ≤ 1048576) = true := decide_eq_true hb
  have hga : gapOk o.at_ = true := by rw [gapOk, ha1, ha2]; rfl
  rcases mt with _ | _
  ·go_enter Try.func73, Try.ntmps73
   go_wp2_with (first | (rw [H1.out]; clear H1) | (go_at_call 80; refine (hcP _ E).mono ?_; clear hcP; rintro e u ⟨r, rfl, rfl, hE⟩; replace E := Ext.trans E hE; clear hE; have B0' := E.cell B0; have B1' := E.cell B1; have B2' := E.cell B2; have B3' := E.cell B3) | (go_at_call 80; refine (hcT _ E).mono ?_; clear hcT; rintro e u ⟨r, rfl, rfl, hE⟩; replace E := Ext.trans E hE; clear hE; have B0' := E.cell B0; have B1' := E.cell B1; have B2' := E.cell B2; have B3' := E.cell B3))
   go_ret
   exact ret_bool (by rw [HF.out, hga]; rfl) (hE1.trans E)
  ·go_enter Try.func73, Try.ntmps73
   go_wp2_with (first | (rw [H1.out]; clear H1) | (go_at_call 80; refine (hcP _ E).mono ?_; clear hcP; rintro e u ⟨r, rfl, rfl, hE⟩; replace E := Ext.trans E hE; clear hE; have B0' := E.cell B0; have B1' := E.cell B1; have B2' := E.cell B2; have B3' := E.cell B3) | (go_at_call 80; refine (hcT _ E).mono ?_; clear hcT; rintro e u ⟨r, rfl, rfl, hE⟩; replace E := Ext.trans E hE; clear hE; have B0' := E.cell B0; have B1' := E.cell B1; have B2' := E.cell B2; have B3' := E.cell B3))
   go_ret
   exact ret_bool (by rw [HF.out, hga]; rfl) (hE1.trans E)
end Go.Proofs.Ytofcbclokkjfjaa.Sy
