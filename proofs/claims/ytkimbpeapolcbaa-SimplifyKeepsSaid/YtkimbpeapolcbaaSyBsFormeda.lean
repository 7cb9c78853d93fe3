/- Chapter 10: what all rows have in common. -/
import Derived.Test.YtkimbpeapolcbaaSyOpen
import Derived.Test.YtkimbpeapolcbaaRows
import Derived.ProofKit
import Derived.OpenShut
import Derived.Test.YtkimbpeapolcbaaSyLxFrame
import Derived.Test.YtkimbpeapolcbaaSyLxData
import Derived.Test.YtkimbpeapolcbaaSyWiLate
namespace Go.Proofs.Ytkimbpeapolcbaa.Sy
open Go.RowKit Go.ChangeShapes Go.WideShapes Go.ChangeAt

theorem own : ownKnob Try.prog.godebug = none := by kernel_rfl
theorem laidOut : laidOutB Try.prog = true := by kernel_rfl

/-- All arguments read as they did where nothing old has turned. -/
theorem trodAll_below {H : Type} {enc : TypeId × Value → H} {P : Program} (hl : laidOutB P = true) {W W' : World} (hb : Below W.heap.size W W') :
  ∀ {ts : List TypeId} {vs : List Value} {ds : List (DataW H)} {ps : List MemPlace}, (∀ t ∈ ts, P.readableRec t = true ∧ t < P.types.size) → (∀ x ∈ ps, x.block < W.heap.size) →
   DataW.TrodAll enc P W 0 (fun _ => true) true ts vs ds ps → DataW.TrodAll enc P W' 0 (fun b => decide (b < W.heap.size)) true ts vs ds ps
 | [], vs, ds, ps, _, _, h => by
  obtain ⟨rfl, rfl, rfl⟩ := trodAll_nil h
  exact trodAll_mk0
 | t :: ts, vs, ds, ps, hr, hlt, h => by
  obtain ⟨v, vs1, d, ds1, a, b, rfl, rfl, rfl, h1, h2⟩ := trodAll_cons h
  exact ⟨a, b, Below.trod hl (hr t (by simp)).1 (hr t (by simp)).2 h1 hb (fun x hx => hlt x (by simp [hx])), trodAll_below hl hb (fun t' ht => hr t' (by simp [ht])) (fun x hx => hlt x (by simp [hx])) h2, rfl⟩

/-- THE POST of a law that answers true and leaves all that was there. -/
theorem post_true {H : Type} {enc : TypeId × Value → H} {P : Program} {f : Func} {s : ChangeSpec} {bt : TypeId} {handsOn : Bool} {W W' : World} {args : Array Value} {ds gs : List (DataW H)} {before : List MemPlace}
  (hl : laidOutB P = true) (hps : ∀ t ∈ f.params.toList, P.readableRec t = true ∧ t < P.types.size) (hvars : s.vars = []) (hrt : f.resultTypes = #[bt]) (hbt : P.underlying bt = some .bool)
  (hW : DataW.Whole enc P f.params.toList s.vars false W args.toList ds gs before) (hE : Below W.heap.size W W')
  (hfn : s.fn H (ds ++ gs) = { results := [.lit (.bool true)], args := ds }) : s.post enc P f false true handsOn false W args (.bool true) W' := by
 have hlt : ∀ x ∈ before, x.block < W.heap.size := fun x hx => by simpa using hW.lt x hx
 have hW0 := hW
 obtain ⟨p, q, hA, hV, rfl, hfz, hnd⟩ := hW
 rw [hvars] at hV
 obtain ⟨rfl, rfl⟩ := trodVars_none hV
 refine ⟨ds, [], p ++ [], [], p, [], hW0, ?_, ?_, ?_, ?_, fun h => by cases h⟩
 ·rw [hfn, hrt]
  exact trodAll_mk1 (shut_bool hbt true)
 ·rw [hfn]
  exact trodAll_below hl hE hps (fun x hx => hlt x (by simp [hx])) hA
 ·rw [hfn, hvars]
  rfl
 ·exact hE.frame _
section
variable {H : Type} {enc : TypeId × Value → H} {P : Program} {w : World} {base : Nat} {spare : Nat → Bool} {held : Bool}
theorem trodAll_six {t t1 t2 t3 t4 t5 : TypeId} {args : Array Value} {ds : List (DataW H)} {ps : List MemPlace} (h : DataW.TrodAll enc P w base spare held [t, t1, t2, t3, t4, t5] args.toList ds ps) :
  ∃ v0 v1 v2 v3 v4 v5 d0 d1 d2 d3 d4 d5 p0 p1 p2 p3 p4 p5, args = #[v0, v1, v2, v3, v4, v5] ∧ ds = [d0, d1, d2, d3, d4, d5] ∧ ps = p0 ++ p1 ++ p2 ++ p3 ++ p4 ++ p5 ∧ DataW.Trod enc P w base spare held t v0 d0 p0 ∧ DataW.Trod enc P w base spare held t1 v1 d1 p1 ∧ DataW.Trod enc P w base spare held t2 v2 d2 p2 ∧ DataW.Trod enc P w base spare held t3 v3 d3 p3 ∧ DataW.Trod enc P w base spare held t4 v4 d4 p4 ∧ DataW.Trod enc P w base spare held t5 v5 d5 p5 := by
 obtain ⟨v0, vs0, d0, ds0, p0, q0, hargs, rfl, rfl, hd0, h0⟩ := trodAll_cons h
 obtain ⟨v1, vs1, d1, ds1, p1, q1, rfl, rfl, rfl, hd1, h1⟩ := trodAll_cons h0
 obtain ⟨v2, vs2, d2, ds2, p2, q2, rfl, rfl, rfl, hd2, h2⟩ := trodAll_cons h1
 obtain ⟨v3, vs3, d3, ds3, p3, q3, rfl, rfl, rfl, hd3, h3⟩ := trodAll_cons h2
 obtain ⟨v4, vs4, d4, ds4, p4, q4, rfl, rfl, rfl, hd4, h4⟩ := trodAll_cons h3
 obtain ⟨v5, vs5, d5, ds5, p5, q5, rfl, rfl, rfl, hd5, h5⟩ := trodAll_cons h4
 obtain ⟨rfl, rfl, rfl⟩ := trodAll_nil h5
 exact ⟨v0, v1, v2, v3, v4, v5, d0, d1, d2, d3, d4, d5, p0, p1, p2, p3, p4, p5, by cases args; simp_all, rfl, by simp, hd0, hd1, hd2, hd3, hd4, hd5⟩
end
end Go.Proofs.Ytkimbpeapolcbaa.Sy
namespace Go.Proofs.Ytkimbpeapolcbaa.Sy
open Go.RowKit Go.Proofs.Ytkimbpeapolcbaa.Bw Go.Proofs.Ytkimbpeapolcbaa.Bs


end Go.Proofs.Ytkimbpeapolcbaa.Sy
namespace Go.Proofs.Ytkimbpeapolcbaa.Sy
open Go.RowKit Go.Proofs.Ytkimbpeapolcbaa.Bw Go.Proofs.Ytkimbpeapolcbaa.Bs

def pcsLight (top : Nat) : Nat → List Pc → Bool
 | _, [] => true
 | n, p :: r => decide (n + p.put.size ≤ top) && pcsLight top (n + p.put.size) r
def OpD.light (o : OpD) (top : Nat) : Bool := decide (o.path.length ≤ top) && decide (o.to.length ≤ top) && decide (o.label.size ≤ top) && decide (o.key.size ≤ top) && decide (o.value.size ≤ top) && decide (o.pcs.length ≤ top) && pcsLight top 0 o.pcs
theorem light_at {top : Nat} {l : List Pc} {i : Nat} {p : Pc} (n : Nat) (h : l[i]? = some p) : pcsLight top n (l.drop i) = (decide (n + p.put.size ≤ top) && pcsLight top (n + p.put.size) (l.drop (i + 1))) := by
 rw [drop_at h, pcsLight]
theorem light_open {o : OpD} {top : Nat} (h : o.light top = true) : o.path.length ≤ top ∧ o.to.length ≤ top := by
 simp only [OpD.light, Bool.and_eq_true, decide_eq_true_eq] at h
 exact ⟨h.1.1.1.1.1.1, h.1.1.1.1.1.2⟩
set_option maxRecDepth 100000 in
set_option maxHeartbeats 2000000 in
theorem light_any (o : OpD) (v : Value) (top : Nat) (w : World) (h : o.rd w v) (htop : top ≤ 1000000) : Calls Try.prog 24 #[v, .int .i64 top] w (Ret w fun r _ => r = .bool (o.light top)) := by
 obtain ⟨pv, tv, cv, rfl, ⟨pA, pc, rfl, _, p1, p2, _⟩, ⟨tA, tc, rfl, _, t1, t2, _⟩, ⟨cA, cc, rfl, c1, c2, c3⟩, s1, s2, s3⟩ := h
 unfold maxLen at p2 t2 c2
 unfold okStr maxLen at s1 s2 s3
 rcases Nat.lt_or_ge top o.path.length with m0 | m0
 ·have HF := Lib.hid (show o.light top = false by simp [OpD.light]; omega)
  have d0 : decide ((top : Int) < (o.path.length : Int)) = true := decide_eq_true (by omega)
  have dn0 : top < o.path.length := m0
  clear c3 m0
  go_enter Try.func24, Try.ntmps24
  go_wp2_with fail
  go_ret
  exact ret_bool HF.out.symm ((Ext.refl w).alloc _)
 have d0 : decide ((top : Int) < (o.path.length : Int)) = false := decide_eq_false (by omega)
 have dn0 : decide (top < o.path.length) = false := decide_eq_false (by omega)
 rcases Nat.lt_or_ge top o.to.length with m1 | m1
 ·have HF := Lib.hid (show o.light top = false by simp [OpD.light]; omega)
  have d1 : decide ((top : Int) < (o.to.length : Int)) = true := decide_eq_true (by omega)
  have dn1 : top < o.to.length := m1
  clear c3 m0 m1
  go_enter Try.func24, Try.ntmps24
  go_wp2_with fail
  go_ret
  exact ret_bool HF.out.symm ((Ext.refl w).alloc _)
 have d1 : decide ((top : Int) < (o.to.length : Int)) = false := decide_eq_false (by omega)
 have dn1 : decide (top < o.to.length) = false := decide_eq_false (by omega)
 rcases Nat.lt_or_ge top o.label.size with m2 | m2
 ·have HF := Lib.hid (show o.light top = false by simp [OpD.light]; omega)
  have d2 : decide ((top : Int) < (o.label.size : Int)) = true := decide_eq_true (by omega)
  have dn2 : top < o.label.size := m2
  clear c3 m0 m1 m2
  go_enter Try.func24, Try.ntmps24
  go_wp2_with fail
  go_ret
  exact ret_bool HF.out.symm ((Ext.refl w).alloc _)
 have d2 : decide ((top : Int) < (o.label.size : Int)) = false := decide_eq_false (by omega)
 have dn2 : decide (top < o.label.size) = false := decide_eq_false (by omega)
 rcases Nat.lt_or_ge top o.key.size with m3 | m3
 ·have HF := Lib.hid (show o.light top = false by simp [OpD.light]; omega)
  have d3 : decide ((top : Int) < (o.key.size : Int)) = true := decide_eq_true (by omega)
  have dn3 : top < o.key.size := m3
  clear c3 m0 m1 m2 m3
  go_enter Try.func24, Try.ntmps24
  go_wp2_with fail
  go_ret
  exact ret_bool HF.out.symm ((Ext.refl w).alloc _)
 have d3 : decide ((top : Int) < (o.key.size : Int)) = false := decide_eq_false (by omega)
 have dn3 : decide (top < o.key.size) = false := decide_eq_false (by omega)
 rcases Nat.lt_or_ge top o.value.size with m4 | m4
 ·have HF := Lib.hid (show o.light top = false by simp [OpD.light]; omega)
  have d4 : decide ((top : Int) < (o.value.size : Int)) = true := decide_eq_true (by omega)
  have dn4 : top < o.value.size := m4
  clear c3 m0 m1 m2 m3 m4
  go_enter Try.func24, Try.ntmps24
  go_wp2_with fail
  go_ret
  exact ret_bool HF.out.symm ((Ext.refl w).alloc _)
 have d4 : decide ((top : Int) < (o.value.size : Int)) = false := decide_eq_false (by omega)
 have dn4 : decide (top < o.value.size) = false := decide_eq_false (by omega)
 rcases Nat.lt_or_ge top o.pcs.length with m5 | m5
 ·have HF := Lib.hid (show o.light top = false by simp [OpD.light]; omega)
  have d5 : decide ((top : Int) < (o.pcs.length : Int)) = true := decide_eq_true (by omega)
  have dn5 : top < o.pcs.length := m5
  clear c3 m0 m1 m2 m3 m4 m5
  go_enter Try.func24, Try.ntmps24
  go_wp2_with fail
  go_ret
  exact ret_bool HF.out.symm ((Ext.refl w).alloc _)
 have d5 : decide ((top : Int) < (o.pcs.length : Int)) = false := decide_eq_false (by omega)
 have dn5 : decide (top < o.pcs.length) = false := decide_eq_false (by omega)
 have HF : Hid (o.light top = pcsLight top 0 o.pcs) := by simp [Hid, OpD.light, m0, m1, m2, m3, m4, m5]
 clear m0 m1 m2 m3 m4
 obtain ⟨w1, hw1⟩ : ∃ w1, w.alloc (.cells #[.int .u8 o.kind, .slice pA o.path.length pc, .int .i64 o.at_, .slice tA o.to.length tc, .int .u64 o.id, .bool o.leaf, .string o.label, .string o.key, .string o.value, .bool o.gone, .slice cA o.pcs.length cc] 26) = w1 := ⟨_, rfl⟩
 have hE1 : Ext w w1 := by rw [← hw1]; exact (Ext.refl w).alloc _
 have b10 : w1.cell? ⟨w.heap.size, 10, none⟩ = some (.slice cA o.pcs.length cc) := by rw [← hw1]; exact (NBox.new _ _ _).cell 10
 have b1 : w1.cell? ⟨w.heap.size, 1, none⟩ = some (.slice pA o.path.length pc) := by rw [← hw1]; exact (NBox.new _ _ _).cell 1
 have b3 : w1.cell? ⟨w.heap.size, 3, none⟩ = some (.slice tA o.to.length tc) := by rw [← hw1]; exact (NBox.new _ _ _).cell 3
 have b6 : w1.cell? ⟨w.heap.size, 6, none⟩ = some (.string o.label) := by rw [← hw1]; exact (NBox.new _ _ _).cell 6
 have b7 : w1.cell? ⟨w.heap.size, 7, none⟩ = some (.string o.key) := by rw [← hw1]; exact (NBox.new _ _ _).cell 7
 have b8 : w1.cell? ⟨w.heap.size, 8, none⟩ = some (.string o.value) := by rw [← hw1]; exact (NBox.new _ _ _).cell 8
 have H1 := Lib.hid hw1
 clear hw1
 go_enter Try.func24, Try.ntmps24
 go_wp2_with fail
 rw [H1.out]
 clear H1
 go_wp2_with fail
 go_loopw [5, 6] (fun s5 s6 wr => ∃ i n : Nat, s6 = .int .i64 i ∧ s5 = .int .i64 n ∧ i ≤ o.pcs.length ∧ n ≤ top ∧ Hid (pcsLight top n (o.pcs.drop i) = o.light top) ∧ Ext w1 wr) (fun _ i _ => o.pcs.length - (intOf i).toNat)
 case atStart => exact ⟨0, 0, rfl, rfl, Nat.zero_le _, by omega, HF.out.symm, Ext.refl _⟩
 case round =>
  obtain ⟨i, n, rfl, rfl, hi, hn, HW, hE⟩ := hrel
  have q1 : (0 : Int) ≤ (i : Int) := by omega
  have b := hE.cell b10
  rcases Nat.lt_or_ge i o.pcs.length with hlt | hlt
  ·obtain ⟨p, hp⟩ : ∃ p, o.pcs[i]? = some p := ⟨_, List.getElem?_eq_getElem hlt⟩
   obtain ⟨ba, oa, rfl, ra⟩ := c3 (by omega)
   obtain ⟨e1, e2, e3, e4⟩ := rdPcs_at (rdPcs_ext (hE1.trans hE) ra) hp
   have HD := Lib.hid (light_at (top := top) n hp)
   have q2 : (i : Int) < (o.pcs.length : Int) := by omega
   unfold maxLen at e4
   obtain ⟨kp, dp, pt⟩ := p
   simp only at e1 e2 e3 e4 HD
   clear hp ra c3 HF b10 b1 b3 b6 b7 b8
   rcases Nat.lt_or_ge top (n + pt.size) with m4 | m4
   ·have HG : Hid (o.light top = false) := by
     rw [← HW.out, HD.out, decide_eq_false (by omega)]; rfl
    have t4 : decide ((top : Int) - (n : Int) < (pt.size : Int)) = true := decide_eq_true (by omega)
    clear HW HD
    go_wp2_with fail
    go_ret
    exact ret_bool HG.out.symm (hE1.trans hE)
   ·have HN : Hid (pcsLight top (n + pt.size) (o.pcs.drop (i + 1)) = o.light top) := by
     rw [← HW.out, HD.out, decide_eq_true m4]; rfl
    have t4 : decide ((top : Int) - (n : Int) < (pt.size : Int)) = false := decide_eq_false (by omega)
    clear HW HD
    go_wp2_with fail
    go_roundw
    case rel => exact ⟨i + 1, n + pt.size, by go_num, by go_num, by omega, m4, HN, hE⟩
    case measure => simp [intOf]; omega
  ·have HG : Hid (o.light top = true) := by rw [← HW.out, List.drop_eq_nil_of_le hlt]; rfl
   have q2 : decide ((i : Int) < (o.pcs.length : Int)) = false := decide_eq_false (by omega)
   clear HW c3 HF b10 b1 b3 b6 b7 b8
   go_wp2_with fail
   go_ret
   exact ret_bool HG.out.symm (hE1.trans hE)
end Go.Proofs.Ytkimbpeapolcbaa.Sy
namespace Go.Proofs.Ytkimbpeapolcbaa.Sy
open Go.RowKit Go.Proofs.Ytkimbpeapolcbaa.Bw Go.Proofs.Ytkimbpeapolcbaa.Bs

set_option maxRecDepth 100000 in
set_option maxHeartbeats 4000000 in
theorem formed_1 (o : OpD) (v : Value) (w : World) (h : o.rd w v) (hk : o.kind = 1) : Calls Try.prog 26 #[v] w (Ret w fun r _ => r = .bool o.formed) := by
 obtain ⟨pv, tv, cv, rfl, hP, hT, hC, s1, s2, s3⟩ := h
 have hP0 := hP
 have hT0 := hT
 have hC0 := hC
 obtain ⟨pA, pc, rfl, _⟩ := hP0
 obtain ⟨tA, tc, rfl, _⟩ := hT0
 obtain ⟨cA, cc, rfl, _⟩ := hC0
 unfold okStr maxLen at s1 s3
 obtain ⟨w1, hw1⟩ : ∃ w1, w.alloc (.cells #[.int .u8 o.kind, .slice pA o.path.length pc, .int .i64 o.at_, .slice tA o.to.length tc, .int .u64 o.id, .bool o.leaf, .string o.label, .string o.key, .string o.value, .bool o.gone, .slice cA o.pcs.length cc] 26) = w1 := ⟨_, rfl⟩
 have hE1 : Ext w w1 := by rw [← hw1]; exact (Ext.refl w).alloc _
 have B0 : w1.cell? ⟨w.heap.size, 0, none⟩ = some (.int .u8 o.kind) := by rw [← hw1]; exact (NBox.new _ _ _).cell 0
 have B1 : w1.cell? ⟨w.heap.size, 1, none⟩ = some (.slice pA o.path.length pc) := by rw [← hw1]; exact (NBox.new _ _ _).cell 1
 have B2 : w1.cell? ⟨w.heap.size, 2, none⟩ = some (.int .i64 o.at_) := by rw [← hw1]; exact (NBox.new _ _ _).cell 2
 have B6 : w1.cell? ⟨w.heap.size, 6, none⟩ = some (.string o.label) := by rw [← hw1]; exact (NBox.new _ _ _).cell 6
 have E := Ext.refl w1
 have H1 := Lib.hid hw1
 clear hw1
 have k1 : (o.kind == 1) = true := by rw [hk]; rfl
 have HF : Hid (o.formed = (may o.path && (gapOk o.at_ && decide (o.label.size ≤ 64)))) := by simp [Hid, OpD.formed, hk]
 have hcP : ∀ W, Ext w1 W → Calls Try.prog 44 #[.slice pA o.path.length pc] W (Ret W fun r _ => r = .bool (may o.path)) := fun W hW => pathMay_any _ _ _ (RdS.ext (hE1.trans hW) hP)
 clear hP hT hC s2 hk
 generalize may o.path = m at hcP HF
 rcases m with _ | _
 ·rcases Int.lt_or_le o.at_ 0 with ha | ha
  ·have ha1 : decide (0 ≤ o.at_) = false := decide_eq_false (by omega)
   have hga : gapOk o.at_ = false := by rw [gapOk, ha1]; rfl
   go_enter Try.func26, Try.ntmps26
   go_wp2_with (first | (rw [H1.out]; clear H1) | (go_at_call 44; refine (hcP _ E).mono ?_; clear hcP; rintro e u ⟨r, rfl, rfl, hE⟩; replace E := Ext.trans E hE; clear hE; have B0' := E.cell B0; have B1' := E.cell B1; have B2' := E.cell B2; have B6' := E.cell B6))
   go_ret
   exact ret_bool (by rw [HF.out]; rfl) (hE1.trans E)
  have ha1 : decide (0 ≤ o.at_) = true := decide_eq_true ha
  rcases Int.lt_or_le 1048576 o.at_ with hb | hb
  ·have ha2 : decide (o.at_ ≤ 1048576) = false := decide_eq_false (by omega)
   have hga : gapOk o.at_ = false := by rw [gapOk, ha2, Bool.and_false]
   go_enter Try.func26, Try.ntmps26
   go_wp2_with (first | (rw [H1.out]; clear H1) | (go_at_call 44; refine (hcP _ E).mono ?_; clear hcP; rintro e u ⟨r, rfl, rfl, hE⟩; replace E := Ext.trans E hE; clear hE; have B0' := E.cell B0; have B1' := E.cell B1; have B2' := E.cell B2; have B6' := E.cell B6))
   go_ret
   exact ret_bool (by rw [HF.out]; rfl) (hE1.trans E)
  have ha2 : decide (o.at_ ≤ 1048576) = true := decide_eq_true hb
  have hga : gapOk o.at_ = true := by rw [gapOk, ha1, ha2]; rfl
  go_enter Try.func26, Try.ntmps26
  go_wp2_with (first | (rw [H1.out]; clear H1) | (go_at_call 44; refine (hcP _ E).mono ?_; clear hcP; rintro e u ⟨r, rfl, rfl, hE⟩; replace E := Ext.trans E hE; clear hE; have B0' := E.cell B0; have B1' := E.cell B1; have B2' := E.cell B2; have B6' := E.cell B6))
  go_ret
  exact ret_bool (by rw [HF.out]; rfl) (hE1.trans E)
 ·rcases Int.lt_or_le o.at_ 0 with ha | ha
  ·have ha1 : decide (0 ≤ o.at_) = false := decide_eq_false (by omega)
   have hga : gapOk o.at_ = false := by rw [gapOk, ha1]; rfl
   go_enter Try.func26, Try.ntmps26
   go_wp2_with (first | (rw [H1.out]; clear H1) | (go_at_call 44; refine (hcP _ E).mono ?_; clear hcP; rintro e u ⟨r, rfl, rfl, hE⟩; replace E := Ext.trans E hE; clear hE; have B0' := E.cell B0; have B1' := E.cell B1; have B2' := E.cell B2; have B6' := E.cell B6))
   go_ret
   exact ret_bool (by rw [HF.out, hga]; rfl) (hE1.trans E)
  have ha1 : decide (0 ≤ o.at_) = true := decide_eq_true ha
  rcases Int.lt_or_le 1048576 o.at_ with hb | hb
  ·have ha2 : decide (o.at_ ≤ 1048576) = false := decide_eq_false (by omega)
   have hga : gapOk o.at_ = false := by rw [gapOk, ha2, Bool.and_false]
   go_enter Try.func26, Try.ntmps26
   go_wp2_with (first | (rw [H1.out]; clear H1) | (go_at_call 44; refine (hcP _ E).mono ?_; clear hcP; rintro e u ⟨r, rfl, rfl, hE⟩; replace E := Ext.trans E hE; clear hE; have B0' := E.cell B0; have B1' := E.cell B1; have B2' := E.cell B2; have B6' := E.cell B6))
   go_ret
   exact ret_bool (by rw [HF.out, hga]; rfl) (hE1.trans E)
  have ha2 : decide (o.at_ ≤ 1048576) = true := decide_eq_true hb
  have hga : gapOk o.at_ = true := by rw [gapOk, ha1, ha2]; rfl
  rcases Nat.lt_or_ge 64 o.label.size with hs | hs
  ·have hs1 : decide (o.label.size ≤ 64) = false := decide_eq_false (by omega)
   have hs2 : decide ((o.label.size : Int) ≤ 64) = false := decide_eq_false (by omega)
   go_enter Try.func26, Try.ntmps26
   go_wp2_with (first | (rw [H1.out]; clear H1) | (go_at_call 44; refine (hcP _ E).mono ?_; clear hcP; rintro e u ⟨r, rfl, rfl, hE⟩; replace E := Ext.trans E hE; clear hE; have B0' := E.cell B0; have B1' := E.cell B1; have B2' := E.cell B2; have B6' := E.cell B6))
   go_ret
   exact ret_bool (by rw [HF.out, hga, hs1]; rfl) (hE1.trans E)
  ·have hs1 : decide (o.label.size ≤ 64) = true := decide_eq_true hs
   have hs2 : decide ((o.label.size : Int) ≤ 64) = true := decide_eq_true (by omega)
   go_enter Try.func26, Try.ntmps26
   go_wp2_with (first | (rw [H1.out]; clear H1) | (go_at_call 44; refine (hcP _ E).mono ?_; clear hcP; rintro e u ⟨r, rfl, rfl, hE⟩; replace E := Ext.trans E hE; clear hE; have B0' := E.cell B0; have B1' := E.cell B1; have B2' := E.cell B2; have B6' := E.cell B6))
   go_ret
   exact ret_bool (by rw [HF.out, hga, hs1]; rfl) (hE1.trans E)
set_option maxRecDepth 100000 in
set_option maxHeartbeats 4000000 in
theorem formed_2 (o : OpD) (v : Value) (w : World) (h : o.rd w v) (hk : o.kind = 2) : Calls Try.prog 26 #[v] w (Ret w fun r _ => r = .bool o.formed) := by
 obtain ⟨pv, tv, cv, rfl, hP, hT, hC, s1, s2, s3⟩ := h
 have hP0 := hP
 have hT0 := hT
 have hC0 := hC
 obtain ⟨pA, pc, rfl, _⟩ := hP0
 obtain ⟨tA, tc, rfl, _⟩ := hT0
 obtain ⟨cA, cc, rfl, _⟩ := hC0
 unfold okStr maxLen at s1 s3
 obtain ⟨w1, hw1⟩ : ∃ w1, w.alloc (.cells #[.int .u8 o.kind, .slice pA o.path.length pc, .int .i64 o.at_, .slice tA o.to.length tc, .int .u64 o.id, .bool o.leaf, .string o.label, .string o.key, .string o.value, .bool o.gone, .slice cA o.pcs.length cc] 26) = w1 := ⟨_, rfl⟩
 have hE1 : Ext w w1 := by rw [← hw1]; exact (Ext.refl w).alloc _
 have B0 : w1.cell? ⟨w.heap.size, 0, none⟩ = some (.int .u8 o.kind) := by rw [← hw1]; exact (NBox.new _ _ _).cell 0
 have B1 : w1.cell? ⟨w.heap.size, 1, none⟩ = some (.slice pA o.path.length pc) := by rw [← hw1]; exact (NBox.new _ _ _).cell 1
 have B2 : w1.cell? ⟨w.heap.size, 2, none⟩ = some (.int .i64 o.at_) := by rw [← hw1]; exact (NBox.new _ _ _).cell 2
 have E := Ext.refl w1
 have H1 := Lib.hid hw1
 clear hw1
 have k1 : (o.kind == 1) = false := by rw [hk]; rfl
 have k2 : (o.kind == 2) = true := by rw [hk]; rfl
 have HF : Hid (o.formed = (may o.path && (true))) := by simp [Hid, OpD.formed, hk]
 have hcP : ∀ W, Ext w1 W → Calls Try.prog 44 #[.slice pA o.path.length pc] W (Ret W fun r _ => r = .bool (may o.path)) := fun W hW => pathMay_any _ _ _ (RdS.ext (hE1.trans hW) hP)
 clear hP hT hC s2 hk
 generalize may o.path = m at hcP HF
 rcases m with _ | _
 ·rcases Int.lt_or_le o.at_ 0 with ha | ha
  ·have ha1 : decide (0 ≤ o.at_) = false := decide_eq_false (by omega)
   have hga : gapOk o.at_ = false := by rw [gapOk, ha1]; rfl
   go_enter Try.func26, Try.ntmps26
   go_wp2_with (first | (rw [H1.out]; clear H1) | (go_at_call 44; refine (hcP _ E).mono ?_; clear hcP; rintro e u ⟨r, rfl, rfl, hE⟩; replace E := Ext.trans E hE; clear hE; have B0' := E.cell B0; have B1' := E.cell B1; have B2' := E.cell B2))
   go_ret
   exact ret_bool (by rw [HF.out]; rfl) (hE1.trans E)
  have ha1 : decide (0 ≤ o.at_) = true := decide_eq_true ha
  rcases Int.lt_or_le 1048576 o.at_ with hb | hb
  ·have ha2 : decide (o.at_ ≤ 1048576) = false := decide_eq_false (by omega)
   have hga : gapOk o.at_ = false := by rw [gapOk, ha2, Bool.and_false]
   go_enter Try.func26, Try.ntmps26
   go_wp2_with (first | (rw [H1.out]; clear H1) | (go_at_call 44; refine (hcP _ E).mono ?_; clear hcP; rintro e u ⟨r, rfl, rfl, hE⟩; replace E := Ext.trans E hE; clear hE; have B0' := E.cell B0; have B1' := E.cell B1; have B2' := E.cell B2))
   go_ret
   exact ret_bool (by rw [HF.out]; rfl) (hE1.trans E)
  have ha2 : decide (o.at_ ≤ 1048576) = true := decide_eq_true hb
  have hga : gapOk o.at_ = true := by rw [gapOk, ha1, ha2]; rfl
  go_enter Try.func26, Try.ntmps26
  go_wp2_with (first | (rw [H1.out]; clear H1) | (go_at_call 44; refine (hcP _ E).mono ?_; clear hcP; rintro e u ⟨r, rfl, rfl, hE⟩; replace E := Ext.trans E hE; clear hE; have B0' := E.cell B0; have B1' := E.cell B1; have B2' := E.cell B2))
  go_ret
  exact ret_bool (by rw [HF.out]; rfl) (hE1.trans E)
 ·rcases Int.lt_or_le o.at_ 0 with ha | ha
  ·have ha1 : decide (0 ≤ o.at_) = false := decide_eq_false (by omega)
   have hga : gapOk o.at_ = false := by rw [gapOk, ha1]; rfl
   go_enter Try.func26, Try.ntmps26
   go_wp2_with (first | (rw [H1.out]; clear H1) | (go_at_call 44; refine (hcP _ E).mono ?_; clear hcP; rintro e u ⟨r, rfl, rfl, hE⟩; replace E := Ext.trans E hE; clear hE; have B0' := E.cell B0; have B1' := E.cell B1; have B2' := E.cell B2))
   go_ret
   exact ret_bool (by rw [HF.out]; rfl) (hE1.trans E)
  have ha1 : decide (0 ≤ o.at_) = true := decide_eq_true ha
  rcases Int.lt_or_le 1048576 o.at_ with hb | hb
  ·have ha2 : decide (o.at_ ≤ 1048576) = false := decide_eq_false (by omega)
   have hga : gapOk o.at_ = false := by rw [gapOk, ha2, Bool.and_false]
   go_enter Try.func26, Try.ntmps26
   go_wp2_with (first | (rw [H1.out]; clear H1) | (go_at_call 44; refine (hcP _ E).mono ?_; clear hcP; rintro e u ⟨r, rfl, rfl, hE⟩; replace E := Ext.trans E hE; clear hE; have B0' := E.cell B0; have B1' := E.cell B1; have B2' := E.cell B2))
   go_ret
   exact ret_bool (by rw [HF.out]; rfl) (hE1.trans E)
  have ha2 : decide (o.at_ ≤ 1048576) = true := decide_eq_true hb
  have hga : gapOk o.at_ = true := by rw [gapOk, ha1, ha2]; rfl
  go_enter Try.func26, Try.ntmps26
  go_wp2_with (first | (rw [H1.out]; clear H1) | (go_at_call 44; refine (hcP _ E).mono ?_; clear hcP; rintro e u ⟨r, rfl, rfl, hE⟩; replace E := Ext.trans E hE; clear hE; have B0' := E.cell B0; have B1' := E.cell B1; have B2' := E.cell B2))
  go_ret
  exact ret_bool (by rw [HF.out]; rfl) (hE1.trans E)
set_option maxRecDepth 100000 in
set_option maxHeartbeats 4000000 in
theorem formed_3 (o : OpD) (v : Value) (w : World) (h : o.rd w v) (hk : o.kind = 3) : Calls Try.prog 26 #[v] w (Ret w fun r _ => r = .bool o.formed) := by
 obtain ⟨pv, tv, cv, rfl, hP, hT, hC, s1, s2, s3⟩ := h
 have hP0 := hP
 have hT0 := hT
 have hC0 := hC
 obtain ⟨pA, pc, rfl, _⟩ := hP0
 obtain ⟨tA, tc, rfl, _⟩ := hT0
 obtain ⟨cA, cc, rfl, _⟩ := hC0
 unfold okStr maxLen at s1 s3
 obtain ⟨w1, hw1⟩ : ∃ w1, w.alloc (.cells #[.int .u8 o.kind, .slice pA o.path.length pc, .int .i64 o.at_, .slice tA o.to.length tc, .int .u64 o.id, .bool o.leaf, .string o.label, .string o.key, .string o.value, .bool o.gone, .slice cA o.pcs.length cc] 26) = w1 := ⟨_, rfl⟩
 have hE1 : Ext w w1 := by rw [← hw1]; exact (Ext.refl w).alloc _
 have B0 : w1.cell? ⟨w.heap.size, 0, none⟩ = some (.int .u8 o.kind) := by rw [← hw1]; exact (NBox.new _ _ _).cell 0
 have B1 : w1.cell? ⟨w.heap.size, 1, none⟩ = some (.slice pA o.path.length pc) := by rw [← hw1]; exact (NBox.new _ _ _).cell 1
 have B2 : w1.cell? ⟨w.heap.size, 2, none⟩ = some (.int .i64 o.at_) := by rw [← hw1]; exact (NBox.new _ _ _).cell 2
 have B3 : w1.cell? ⟨w.heap.size, 3, none⟩ = some (.slice tA o.to.length tc) := by rw [← hw1]; exact (NBox.new _ _ _).cell 3
 have E := Ext.refl w1
 have H1 := Lib.hid hw1
 clear hw1
 have k1 : (o.kind == 1) = false := by rw [hk]; rfl
 have k2 : (o.kind == 2) = false := by rw [hk]; rfl
 have k3 : (o.kind == 3) = true := by rw [hk]; rfl
 have HF : Hid (o.formed = (may o.path && (gapOk o.at_ && may o.to))) := by simp [Hid, OpD.formed, hk]
 have hcP : ∀ W, Ext w1 W → Calls Try.prog 44 #[.slice pA o.path.length pc] W (Ret W fun r _ => r = .bool (may o.path)) := fun W hW => pathMay_any _ _ _ (RdS.ext (hE1.trans hW) hP)
 have hcT : ∀ W, Ext w1 W → Calls Try.prog 44 #[.slice tA o.to.length tc] W (Ret W fun r _ => r = .bool (may o.to)) := fun W hW => pathMay_any _ _ _ (RdS.ext (hE1.trans hW) hT)
 clear hP hT hC s2 hk
 generalize may o.path = m at hcP HF
 generalize may o.to = mt at hcT HF
 rcases m with _ | _
 ·rcases Int.lt_or_le o.at_ 0 with ha | ha
  ·have ha1 : decide (0 ≤ o.at_) = false := decide_eq_false (by omega)
   have hga : gapOk o.at_ = false := by rw [gapOk, ha1]; rfl
   go_enter Try.func26, Try.ntmps26
   go_wp2_with (first | (rw [H1.out]; clear H1) | (go_at_call 44; refine (hcP _ E).mono ?_; clear hcP; rintro e u ⟨r, rfl, rfl, hE⟩; replace E := Ext.trans E hE; clear hE; have B0' := E.cell B0; have B1' := E.cell B1; have B2' := E.cell B2; have B3' := E.cell B3) | (go_at_call 44; refine (hcT _ E).mono ?_; clear hcT; rintro e u ⟨r, rfl, rfl, hE⟩; replace E := Ext.trans E hE; clear hE; have B0' := E.cell B0; have B1' := E.cell B1; have B2' := E.cell B2; have B3' := E.cell B3))
   go_ret
   exact ret_bool (by rw [HF.out]; rfl) (hE1.trans E)
  have ha1 : decide (0 ≤ o.at_) = true := decide_eq_true ha
  rcases Int.lt_or_le 1048576 o.at_ with hb | hb
  ·have ha2 : decide (o.at_ ≤ 1048576) = false := decide_eq_false (by omega)
   have hga : gapOk o.at_ = false := by rw [gapOk, ha2, Bool.and_false]
   go_enter Try.func26, Try.ntmps26
   go_wp2_with (first | (rw [H1.out]; clear H1) | (go_at_call 44; refine (hcP _ E).mono ?_; clear hcP; rintro e u ⟨r, rfl, rfl, hE⟩; replace E := Ext.trans E hE; clear hE; have B0' := E.cell B0; have B1' := E.cell B1; have B2' := E.cell B2; have B3' := E.cell B3) | (go_at_call 44; refine (hcT _ E).mono ?_; clear hcT; rintro e u ⟨r, rfl, rfl, hE⟩; replace E := Ext.trans E hE; clear hE; have B0' := E.cell B0; have B1' := E.cell B1; have B2' := E.cell B2; have B3' := E.cell B3))
   go_ret
   exact ret_bool (by rw [HF.out]; rfl) (hE1.trans E)
  have ha2 : decide (o.at_ ≤ 1048576) = true := decide_eq_true hb
  have hga : gapOk o.at_ = true := by rw [gapOk, ha1, ha2]; rfl
  go_enter Try.func26, Try.ntmps26
  go_wp2_with (first | (rw [H1.out]; clear H1) | (go_at_call 44; refine (hcP _ E).mono ?_; clear hcP; rintro e u ⟨r, rfl, rfl, hE⟩; replace E := Ext.trans E hE; clear hE; have B0' := E.cell B0; have B1' := E.cell B1; have B2' := E.cell B2; have B3' := E.cell B3) | (go_at_call 44; refine (hcT _ E).mono ?_; clear hcT; rintro e u ⟨r, rfl, rfl, hE⟩; replace E := Ext.trans E hE; clear hE; have B0' := E.cell B0; have B1' := E.cell B1; have B2' := E.cell B2; have B3' := E.cell B3))
  go_ret
  exact ret_bool (by rw [HF.out]; rfl) (hE1.trans E)
 ·rcases Int.lt_or_le o.at_ 0 with ha | ha
  ·have ha1 : decide (0 ≤ o.at_) = false := decide_eq_false (by omega)
   have hga : gapOk o.at_ = false := by rw [gapOk, ha1]; rfl
   go_enter Try.func26, Try.ntmps26
   go_wp2_with (first | (rw [H1.out]; clear H1) | (go_at_call 44; refine (hcP _ E).mono ?_; clear hcP; rintro e u ⟨r, rfl, rfl, hE⟩; replace E := Ext.trans E hE; clear hE; have B0' := E.cell B0; have B1' := E.cell B1; have B2' := E.cell B2; have B3' := E.cell B3) | (go_at_call 44; refine (hcT _ E).mono ?_; clear hcT; rintro e u ⟨r, rfl, rfl, hE⟩; replace E := Ext.trans E hE; clear hE; have B0' := E.cell B0; have B1' := E.cell B1; have B2' := E.cell B2; have B3' := E.cell B3))
   go_ret
   exact ret_bool (by rw [HF.out, hga]; rfl) (hE1.trans E)
  have ha1 : decide (0 ≤ o.at_) = true := decide_eq_true ha
  rcases Int.lt_or_le 1048576 o.at_ with hb | hb
  ·have ha2 : decide (o.at_ ≤ 1048576) = false := decide_eq_false (by omega)
   have hga : gapOk o.at_ = false := by rw [gapOk, ha2, Bool.and_false]
   go_enter Try.func26, Try.ntmps26
   go_wp2_with (first | (rw [H1.out]; clear H1) | (go_at_call 44; refine (hcP _ E).mono ?_; clear hcP; rintro e u ⟨r, rfl, rfl, hE⟩; replace E := Ext.trans E hE; clear hE; have B0' := E.cell B0; have B1' := E.cell B1; have B2' := E.cell B2; have B3' := E.cell B3) | (go_at_call 44; refine (hcT _ E).mono ?_; clear hcT; rintro e u ⟨r, rfl, rfl, hE⟩; replace E := Ext.trans E hE; clear hE; have B0' := E.cell B0; have B1' := E.cell B1; have B2' := E.cell B2; have B3' := E.cell B3))
   go_ret
   exact ret_bool (by rw [HF.out, hga]; rfl) (hE1.trans E)
  have ha2 : decide (o.at_ ≤ 1048576) = true := decide_eq_true hb
  have hga : gapOk o.at_ = true := by rw [gapOk, ha1, ha2]; rfl
  rcases mt with _ | _
  ·go_enter Try.func26, Try.ntmps26
   go_wp2_with (first | (rw [H1.out]; clear H1) | (go_at_call 44; refine (hcP _ E).mono ?_; clear hcP; rintro e u ⟨r, rfl, rfl, hE⟩; replace E := Ext.trans E hE; clear hE; have B0' := E.cell B0; have B1' := E.cell B1; have B2' := E.cell B2; have B3' := E.cell B3) | (go_at_call 44; refine (hcT _ E).mono ?_; clear hcT; rintro e u ⟨r, rfl, rfl, hE⟩; replace E := Ext.trans E hE; clear hE; have B0' := E.cell B0; have B1' := E.cell B1; have B2' := E.cell B2; have B3' := E.cell B3))
   go_ret
   exact ret_bool (by rw [HF.out, hga]; rfl) (hE1.trans E)
  ·go_enter Try.func26, Try.ntmps26
   go_wp2_with (first | (rw [H1.out]; clear H1) | (go_at_call 44; refine (hcP _ E).mono ?_; clear hcP; rintro e u ⟨r, rfl, rfl, hE⟩; replace E := Ext.trans E hE; clear hE; have B0' := E.cell B0; have B1' := E.cell B1; have B2' := E.cell B2; have B3' := E.cell B3) | (go_at_call 44; refine (hcT _ E).mono ?_; clear hcT; rintro e u ⟨r, rfl, rfl, hE⟩; replace E := Ext.trans E hE; clear hE; have B0' := E.cell B0; have B1' := E.cell B1; have B2' := E.cell B2; have B3' := E.cell B3))
   go_ret
   exact ret_bool (by rw [HF.out, hga]; rfl) (hE1.trans E)
end Go.Proofs.Ytkimbpeapolcbaa.Sy
