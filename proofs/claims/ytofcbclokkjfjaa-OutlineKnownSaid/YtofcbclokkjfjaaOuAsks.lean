/- SyNdRSame turned to this seat. (Printed by gport.py.) -/
import Derived.Test.YtofcbclokkjfjaaOyNdAt
import Derived.StillTailTactics
import Derived.Test.YtofcbclokkjfjaaProg
import Derived.Test.YtofcbclokkjfjaaWiTree
import Derived.BigQuiet
import Derived.Deep.QuietTactic
import Derived.Test.YtofcbclokkjfjaaOuDone
import Derived.Test.YtofcbclokkjfjaaOuJoinR
namespace Go.Proofs.Ytofcbclokkjfjaa.Bw
open Go.RowKit
set_option maxRecDepth 100000 in
set_option maxHeartbeats 2000000 in
theorem rsame_any (N : Nat) : ∀ (a b : Nd) (u v : Value) (w : World), a.cnt ≤ N → a.rd w u → b.rd w v → Calls Try.prog 44 #[u, v] w (Ret w fun r _ => r = .bool (a.same true b)) := by
  induction N with
  | zero => intro a b u v w h; rw [Nd.cnt_eq] at h; omega
  | succ N ih =>
    intro a b u v w hN ha hb
    obtain ⟨av, kv, rfl, i0, i1, hl, ht, ⟨aA, ac, rfl, aa⟩, ⟨kA, kc, rfl, k1, k2, k3⟩⟩ := Nd.rd_open ha
    obtain ⟨bv, lv, rfl, j0, j1, gl, gt, ⟨bA, bc, rfl, bb⟩, ⟨lA, lc, rfl, l1, l2, l3⟩⟩ := Nd.rd_open hb
    unfold maxLen at k2 l2
    obtain ⟨w0, hw0⟩ : ∃ w0, (w.alloc (.cells #[.int .u64 a.id, .bool a.leaf, .string a.label, .slice aA a.attrs.length ac, .string a.text, .slice kA a.kids.length kc] 26)).alloc (.cells #[.int .u64 b.id, .bool b.leaf, .string b.label, .slice bA b.attrs.length bc, .string b.text, .slice lA b.kids.length lc] 26) = w0 := ⟨_, rfl⟩
    have hE0 : Ext w w0 := by rw [← hw0]; exact ((Ext.refl w).alloc _).alloc _
    have ca5 : w0.cell? ⟨w.heap.size, 5, none⟩ = some (.slice kA a.kids.length kc) := by rw [← hw0]; exact Ext.cell ((Ext.refl _).alloc _) (cells_new w _ _ 5 _ rfl)
    have cb5 : w0.cell? ⟨w.heap.size + 1, 5, none⟩ = some (.slice lA b.kids.length lc) := by rw [← hw0]; have := cells_new (w.alloc (.cells #[.int .u64 a.id, .bool a.leaf, .string a.label, .slice aA a.attrs.length ac, .string a.text, .slice kA a.kids.length kc] 26)) #[.int .u64 b.id, .bool b.leaf, .string b.label, .slice bA b.attrs.length bc, .string b.text, .slice lA b.kids.length lc] 26 5 _ rfl; rwa [World.size_alloc] at this
    have hq1 := reqA_any a.attrs b.attrs _ _ w0 (RdA.ext hE0 ⟨aA, ac, rfl, aa⟩) (RdA.ext hE0 ⟨bA, bc, rfl, bb⟩)
    have H0 := Lib.hid hw0
    clear hw0 aa bb
    by_cases hi : a.id = b.id
    case neg =>
      have HF := Lib.hid (same_id hi)
      have hd : (a.id == b.id) = false := beq_eq_false_iff_ne.2 hi
      have hd' : (a.id != b.id) = true := bne_iff_ne.2 hi
      clear hi hq1
      go_enter Try.func44, Try.ntmps44
      go_wp2_with fail
      go_ret
      exact ret_bool HF.out.symm (((Ext.refl w).alloc _).alloc _)
    have hd : (a.id == b.id) = true := beq_iff_eq.2 hi
    have hd' : (a.id != b.id) = false := by rw [bne, hd]; rfl
    have h0 : Hid (true = true → a.id = b.id) := fun _ => hi
    clear hi
    by_cases h1 : a.leaf = b.leaf
    case neg =>
      have HF := Lib.hid (same_leaf (i := true) h1)
      have hd1 : (a.leaf == b.leaf) = false := beq_eq_false_iff_ne.2 h1
      have hd1' : (a.leaf != b.leaf) = true := bne_iff_ne.2 h1
      clear h1 hq1
      go_enter Try.func44, Try.ntmps44
      go_wp2_with fail
      go_ret
      exact ret_bool HF.out.symm (((Ext.refl w).alloc _).alloc _)
    have hd1 : (a.leaf == b.leaf) = true := beq_iff_eq.2 h1
    have hd1' : (a.leaf != b.leaf) = false := by rw [bne, hd1]; rfl
    replace h1 := Lib.hid h1
    by_cases h2 : a.label = b.label
    case neg =>
      have HF := Lib.hid (same_label (i := true) h2)
      have hd2 := beq_str_no h2
      clear h2 hq1
      go_enter Try.func44, Try.ntmps44
      go_wp2_with fail
      go_ret
      exact ret_bool HF.out.symm (((Ext.refl w).alloc _).alloc _)
    have hd2 := beq_str_yes h2
    replace h2 := Lib.hid h2
    by_cases h3 : a.text = b.text
    case neg =>
      have HF := Lib.hid (same_text (i := true) h3)
      have hd3 := beq_str_no h3
      clear h3 hq1
      go_enter Try.func44, Try.ntmps44
      go_wp2_with fail
      go_ret
      exact ret_bool HF.out.symm (((Ext.refl w).alloc _).alloc _)
    have hd3 := beq_str_yes h3
    replace h3 := Lib.hid h3
    rcases hsa : sameA a.attrs b.attrs with _ | _
    case false =>
      have HF := Lib.hid (same_attrs (i := true) hsa)
      rw [hsa] at hq1
      clear hsa
      go_enter Try.func44, Try.ntmps44
      go_wp2_with (rw [H0.out]; go_at_call 54; refine hq1.mono ?_; rintro e w1 ⟨r, rfl, rfl, hE1⟩)
      go_ret
      exact ret_bool HF.out.symm (hE0.trans hE1)
    have HF := Lib.hid (same_kids h0.out h1.out h2.out h3.out hsa)
    rw [hsa] at hq1
    clear hsa h0 h1 h2 h3
    rcases Nat.lt_trichotomy a.kids.length b.kids.length with hll | hll | hll
    case inl | inr.inr =>
      replace HF := Lib.hid (HF.out.trans (sameK_len true _ _ (by omega)))
      have hdl : ((a.kids.length : Int) == (b.kids.length : Int)) = false := by rw [beq_eq_false_iff_ne]; omega
      have hdn : ((a.kids.length : Int) != (b.kids.length : Int)) = true := by rw [bne, hdl]; rfl
      go_enter Try.func44, Try.ntmps44
      go_wp2_with (rw [H0.out]; go_at_call 54; refine hq1.mono ?_; rintro e w1 ⟨r, rfl, rfl, hE1⟩; have ca6 := hE1.cell ca5; have cb6 := hE1.cell cb5)
      go_ret
      exact ret_bool HF.out.symm (hE0.trans hE1)
    have hdl : ((a.kids.length : Int) == (b.kids.length : Int)) = true := by rw [beq_iff_eq]; omega
    have hdn : ((a.kids.length : Int) != (b.kids.length : Int)) = false := by rw [bne, hdl]; rfl
    have hle := Nat.le_of_eq hll
    replace hll := Lib.hid hll
    go_enter Try.func44, Try.ntmps44
    go_wp2_with (rw [H0.out]; clear H0; go_at_call 54; refine hq1.mono ?_; rintro e w1 ⟨r, rfl, rfl, hE1⟩; have ca6 := hE1.cell ca5; have cb6 := hE1.cell cb5)
    clear ca6 cb6
    go_loopw [5] (fun s5 wr => ∃ k : Nat, s5 = .int .i64 k ∧ k ≤ a.kids.length ∧ Hid (sameK true (a.kids.drop k) (b.kids.drop k) = sameK true a.kids b.kids) ∧ Ext w0 wr) (fun k _ => a.kids.length - (intOf k).toNat)
    case atStart => exact ⟨0, rfl, Nat.zero_le _, rfl, hE1⟩
    case round =>
      clear hE1
      obtain ⟨k, rfl, hk, HW, hE⟩ := hrel
      have da5 := hE.cell ca5
      have db5 := hE.cell cb5
      rcases Nat.lt_or_ge k a.kids.length with hlt | hlt
      · obtain ⟨x, hx⟩ : ∃ x, a.kids[k]? = some x := ⟨_, List.getElem?_eq_getElem hlt⟩
        obtain ⟨y, hy⟩ : ∃ x, b.kids[k]? = some x := ⟨_, List.getElem?_eq_getElem (by omega)⟩
        obtain ⟨ba, oa, rfl, ra⟩ := k3 (by intro h; rw [h] at hlt; simp at hlt)
        obtain ⟨bb, ob, rfl, rb⟩ := l3 (by intro h; have h' := congrArg List.length h; rw [List.length_nil] at h'; omega)
        obtain ⟨xA, xa, xK, xk, e0, e1, e2, e3, e4, e5, hX⟩ := rdKids_get (rdKids_ext (hE0.trans hE) ra) hx
        obtain ⟨yA, ya, yK, yk, f0, f1, f2, f3, f4, f5, hY⟩ := rdKids_get (rdKids_ext (hE0.trans hE) rb) hy
        have HD := Lib.hid (sameK_step (i := true) hx hy)
        have hcx : x.cnt ≤ N := by have := Nd.cnt_kid hx; omega
        have q1 : (0 : Int) ≤ (k : Int) := by omega
        have q2 : (k : Int) < (a.kids.length : Int) := by omega
        have q3 : (k : Int) < (b.kids.length : Int) := by omega
        have hc := ih x y _ _ wr.drew hcx (Nd.rd_ext (Ext.refl _).drew hX) (Nd.rd_ext (Ext.refl _).drew hY)
        clear hx hy ra rb k3 l3 ih
        rcases hc1 : x.same true y with _ | _
        · have HG := Lib.hid (HF.out.trans (show sameK true a.kids b.kids = false by rw [← HW.out, HD.out, hc1]; rfl))
          rw [hc1] at hc
          clear HW HD hc1
          go_wp2_with fail
          go_still_tail 10, (by kernel_rfl)
          change wpList _ _ _ _ _ wr.drew
          go_wp2_with (go_at_call 44; refine hc.mono ?_; rintro e w4 ⟨r, rfl, rfl, hE5⟩)
          go_ret
          exact ret_bool HG.out.symm (hE0.trans (hE.drew.trans hE5))
        · have HN : Hid (sameK true (a.kids.drop (k + 1)) (b.kids.drop (k + 1)) = sameK true a.kids b.kids) := by rw [← HW.out, HD.out, hc1]; rfl
          rw [hc1] at hc
          clear HW HD hc1
          go_wp2_with fail
          go_still_tail 10, (by kernel_rfl)
          change wpList _ _ _ _ _ wr.drew
          go_wp2_with (go_at_call 44; refine hc.mono ?_; rintro e w4 ⟨r, rfl, rfl, hE5⟩)
          go_roundw
          case rel => exact ⟨k + 1, by go_num, by omega, HN, hE.drew.trans hE5⟩
          case measure => simp [intOf]; omega
      · have HG := Lib.hid (HF.out.trans (show sameK true a.kids b.kids = true by rw [← HW.out, sameK_end hll.out hlt]))
        clear HW
        go_wp2_with fail
        go_ret
        exact ret_bool HG.out.symm (hE0.trans hE)
end Go.Proofs.Ytofcbclokkjfjaa.Bw
namespace Go.Proofs.Ytofcbclokkjfjaa.Bw
open Go.RowKit

set_option maxRecDepth 100000 in
set_option maxHeartbeats 1000000 in
theorem weigh_any (N : Nat) : ∀ (t : Nd) (v : Value) (top : Int) (w : World), t.cnt ≤ N → t.rd w v → 0 ≤ top → top ≤ 100000 →
  Calls Try.prog 6 #[v, .int .i64 top] w (Ret w fun r _ => r = .int .i64 (t.weigh top)) := by
 induction N with
 | zero => intro t v top w h; rw [Nd.cnt_eq] at h; omega
 | succ N ih =>
  intro t v top w hN hr h0 h1
  cases t with
  | mk id leaf lb ats tx ks =>
  obtain ⟨av, kv, rfl, i0, i1, hl, ht, hA, hK⟩ := Nd.rd_open hr
  obtain ⟨aA, ac, rfl, a1, a2, a3⟩ := hA
  obtain ⟨kA, kc, rfl, k1, k2, k3⟩ := hK
  simp only [Nd.id, Nd.leaf, Nd.label, Nd.text, Nd.attrs, Nd.kids] at *
  unfold maxLen at hl ht a2 k2
  rcases Int.lt_or_le top (lb.size : Int) with b1 | b1
  ·have HF : Hid (Nd.weigh (.mk id leaf lb ats tx ks) top = top + 1) := by rw [Nd.weigh, if_pos (.inl b1)]; rfl
   go_enter Try.func6, Try.ntmps6
   go_wp2_with fail
   go_ret
   exact ret_int HF.out.symm ((Ext.refl w).alloc _)
  rcases Int.lt_or_le top (tx.size : Int) with b2 | b2
  ·have HF : Hid (Nd.weigh (.mk id leaf lb ats tx ks) top = top + 1) := by rw [Nd.weigh, if_pos (.inr (.inl b2))]; rfl
   go_enter Try.func6, Try.ntmps6
   go_wp2_with fail
   go_ret
   exact ret_int HF.out.symm ((Ext.refl w).alloc _)
  rcases Int.lt_or_le top (ats.length : Int) with b3 | b3
  ·have HF : Hid (Nd.weigh (.mk id leaf lb ats tx ks) top = top + 1) := by rw [Nd.weigh, if_pos (.inr (.inr b3))]; rfl
   go_enter Try.func6, Try.ntmps6
   go_wp2_with fail
   go_ret
   exact ret_int HF.out.symm ((Ext.refl w).alloc _)
  have HF : Hid (Nd.weigh (.mk id leaf lb ats tx ks) top = match weighA top (1 + lb.size + tx.size) ats with | none => top + 1 | some w => weighK top w ks) := by
   rw [Nd.weigh, if_neg (by omega)]; rfl
  obtain ⟨w0, hw0⟩ : ∃ w0, w.alloc (.cells #[.int .u64 id, .bool leaf, .string lb, .slice aA ats.length ac, .string tx, .slice kA ks.length kc] 26) = w0 := ⟨_, rfl⟩
  have hE0 : Ext w w0 := by rw [← hw0]; exact (Ext.refl w).alloc _
  have c3 : w0.cell? ⟨w.heap.size, 3, none⟩ = some (.slice aA ats.length ac) := by rw [← hw0]; simp
  have c5 : w0.cell? ⟨w.heap.size, 5, none⟩ = some (.slice kA ks.length kc) := by rw [← hw0]; simp
  have H0 := Lib.hid hw0
  clear hw0
  go_enter Try.func6, Try.ntmps6
  go_wp2_with fail
  rw [H0.out]
  go_loopw [5, 6] (fun s5 s6 wr => ∃ (k : Nat) (acc : Int), s6 = .int .i64 k ∧ s5 = .int .i64 acc ∧ k ≤ ats.length ∧ 0 ≤ acc ∧ acc ≤ 3 * top + 1 ∧ Hid (weighA top acc (ats.drop k) = weighA top (1 + lb.size + tx.size) ats) ∧ Ext w0 wr) (fun _ i _ => ats.length - (intOf i).toNat)
  case atStart => exact ⟨0, _, rfl, rfl, Nat.zero_le _, by omega, by omega, rfl, Ext.refl _⟩
  case round =>
   obtain ⟨k, acc, rfl, rfl, hk, ha0, ha1, HW, hE⟩ := hrel
   have d3 := hE.cell c3
   rcases Nat.lt_or_ge k ats.length with hlt | hlt
   rcases Int.lt_or_le top acc with hle | hle
   rotate_left
   ·obtain ⟨⟨key, val⟩, hx⟩ : ∃ x, ats[k]? = some x := ⟨_, List.getElem?_eq_getElem hlt⟩
    obtain ⟨b, off, rfl, hrd⟩ := a3 (by intro h; subst h; simp at hlt)
    obtain ⟨e1, e2, e3, e4⟩ := rdAttrs_at (rdAttrs_ext (hE0.trans hE) hrd) hx
    have HD := Lib.hid (drop_at hx)
    clear hx hrd a3
    unfold maxLen at e3 e4
    rcases Int.lt_or_le top (key.size : Int) with f1 | f1
    ·have HG : Hid (Nd.weigh (.mk id leaf lb ats tx ks) top = top + 1) := by rw [HF.out, ← HW.out, HD.out, weighA_out hle (.inl f1)]; rfl
     clear HW HD HF
     go_wp2_with fail
     go_ret
     exact ret_int HG.out.symm (hE0.trans hE)
    rcases Int.lt_or_le top (val.size : Int) with f2 | f2
    ·have HG : Hid (Nd.weigh (.mk id leaf lb ats tx ks) top = top + 1) := by rw [HF.out, ← HW.out, HD.out, weighA_out hle (.inr f2)]; rfl
     clear HW HD HF
     go_wp2_with fail
     go_ret
     exact ret_int HG.out.symm (hE0.trans hE)
    go_wp2_with fail
    go_quiet (fail)
    go_wp2_with fail
    go_roundw
    case rel => exact ⟨k + 1, _, by go_num, rfl, by omega, by omega, by omega, by rw [← HW.out, HD.out, weighA_on hle (by omega) (by omega)]; rfl, hE.drewN _⟩
    case measure => simp [intOf]; omega
   all_goals (have HX : Hid (weighA top (1 + lb.size + tx.size) ats = some acc) := by rw [← HW.out, weighA_done (by first | exact .inr hle | exact .inl (List.drop_eq_nil_of_le hlt))]; rfl)
   all_goals
    clear HW
    rw [HX.out] at HF
    clear HX
    go_wp2_with fail
    go_loopw [5, 7] (fun s5 s7 wr => ∃ (k : Nat) (acc : Int), s7 = .int .i64 k ∧ s5 = .int .i64 acc ∧ k ≤ ks.length ∧ 0 ≤ acc ∧ acc ≤ 3 * top + 1 ∧ Hid (weighK top acc (ks.drop k) = Nd.weigh (.mk id leaf lb ats tx ks) top) ∧ Ext w0 wr) (fun _ i _ => ks.length - (intOf i).toNat)
    case atStart => exact ⟨0, _, rfl, rfl, Nat.zero_le _, by omega, by omega, HF.out.symm, hE⟩
    case round =>
     clear hE
     obtain ⟨k, acc, rfl, rfl, hk, ha0, ha1, HW, hE⟩ := hrel
     have d5 := hE.cell c5
     rcases Nat.lt_or_ge k ks.length with hlt | hlt
     ·rcases Int.lt_or_le top acc with hle | hle
      ·have HG : Hid (Nd.weigh (.mk id leaf lb ats tx ks) top = acc) := by rw [← HW.out, weighK_done (.inr hle)]; rfl
       clear HW HF
       go_wp2_with fail
       go_ret
       exact ret_int HG.out.symm (hE0.trans hE)
      ·obtain ⟨kid, hx⟩ : ∃ x, ks[k]? = some x := ⟨_, List.getElem?_eq_getElem hlt⟩
       obtain ⟨b, off, rfl, hrd⟩ := k3 (by intro h; subst h; simp at hlt)
       obtain ⟨aA', ac', kA', kc', e0, e1, e2, e3, e4, e5, hkid⟩ := rdKids_get (rdKids_ext (hE0.trans hE) hrd) hx
       have HD := Lib.hid (drop_at hx)
       have hcnt : kid.cnt ≤ N := by have := Nd.cnt_kid (t := .mk id leaf lb ats tx ks) hx; omega
       have hb := Nd.weigh_le kid (top - acc) (by omega)
       clear hx hrd k3
       go_wp2_with (go_at_call 6; refine (ih kid _ (top - acc) _ hcnt hkid (by omega) (by omega)).mono ?_; rintro e w1 ⟨r, rfl, rfl, hE1⟩)
       go_roundw
       case rel => exact ⟨k + 1, _, by go_num, rfl, by omega, by omega, by omega, by rw [← HW.out, HD.out, weighK_on hle]; rfl, hE.trans hE1⟩
       case measure => simp [intOf]; omega
     ·have HG : Hid (Nd.weigh (.mk id leaf lb ats tx ks) top = acc) := by rw [← HW.out, weighK_done (.inl (List.drop_eq_nil_of_le hlt))]; rfl
      clear HW HF
      go_wp2_with fail
      go_ret
      exact ret_int HG.out.symm (hE0.trans hE)
end Go.Proofs.Ytofcbclokkjfjaa.Bw
namespace Go.Proofs.Ytofcbclokkjfjaa.Wi
open Go.RowKit Go.Proofs.Ytofcbclokkjfjaa.Bw Go.Proofs.Ytofcbclokkjfjaa.Bs

theorem ask_ind (t : Nd) (p : List Int) (tv pv : Value) (w : World) (ht : t.rd w tv) (hp : RdI w p pv) (hwt : t.wt ≤ 1000000) (hpl : p.length ≤ 10000) : Calls Try.prog 9 #[tv, pv] w (AnsR w (indC t p)) := (indent_any t p tv pv w ht hp hwt hpl).mono fun _ _ h => AskR.ansR h
theorem ask_out (t : Nd) (p : List Int) (tv pv : Value) (w : World) (ht : t.rd w tv) (hp : RdI w p pv) (hwt : t.wt ≤ 1000000) (hpl : p.length ≤ 10000) : Calls Try.prog 11 #[tv, pv] w (AnsR w (outC t p)) := (outdent_any t p tv pv w ht hp hwt hpl).mono fun _ _ h => AskR.ansR h
theorem ask_up (t : Nd) (p : List Int) (tv pv : Value) (w : World) (ht : t.rd w tv) (hp : RdI w p pv) (hwt : t.wt ≤ 1000000) (hpl : p.length ≤ 10000) : Calls Try.prog 14 #[tv, pv] w (AnsR w (upC t p)) := (up_any t p tv pv w ht hp hwt hpl).mono fun _ _ h => AskR.ansR h
theorem ask_down (t : Nd) (p : List Int) (tv pv : Value) (w : World) (ht : t.rd w tv) (hp : RdI w p pv) (hwt : t.wt ≤ 1000000) (hpl : p.length ≤ 10000) : Calls Try.prog 16 #[tv, pv] w (AnsR w (downC t p)) := (down_any t p tv pv w ht hp hwt hpl).mono fun _ _ h => AskR.ansR h
theorem ask_joi (t : Nd) (p : List Int) (tv pv : Value) (w : World) (ht : t.rd w tv) (hp : RdI w p pv) (hwt : t.wt ≤ 1000000) (hpl : p.length ≤ 10000) : Calls Try.prog 21 #[tv, pv] w (AnsR w (joiC t p)) := (join21_any t p tv pv w ht hp hwt hpl).mono fun _ _ h => AskG.ansR h
theorem ask_spl (t : Nd) (p : List Int) (tv pv : Value) (w : World) (ht : t.rd w tv) (hp : RdI w p pv) (hwt : t.wt ≤ 1000000) (hpl : p.length ≤ 10000) (cut id : Int) (hid : 0 ≤ id ∧ id ≤ 18446744073709551615) : Calls Try.prog 19 #[tv, pv, .int .i64 cut, .int .u64 id] w (AnsR w (splC t p cut id)) := (split19_any cut id t p tv pv w ht hp hwt hpl hid).mono fun _ _ h => AskG.ansR h
theorem AnsR.slice {lo : Nat} {l : List Sy.OpD} {v : Value} {W : World} (h : Late (fun k => k < lo) (fun W => Sy.RdL W l v) W) : ∃ A c, v = .slice A l.length c := by
 obtain ⟨A, c, rfl, -⟩ := h.now
 exact ⟨_, _, rfl⟩
/-- What 'backs' holds. -/
theorem backs_open {t : Nd} {a : Ans} {f : Nd → Ans} (h : backs t a f = true) : fitC t a = true ∧ (doneC t a).2.2 = true ∧ ((doneC t a).2.1 = true → (doneC t a).1.wt ≤ 100000 ∧ fitC (doneC t a).1 (f (doneC t a).1) = true ∧ doneC (doneC t a).1 (f (doneC t a).1) = (t, true, true)) := by
 unfold backs at h
 rw [Bool.and_eq_true, Bool.and_eq_true] at h
 obtain ⟨⟨h1, h2⟩, h3⟩ := h
 refine ⟨h1, h2, fun h4 => ?_⟩
 rw [h4] at h3
 simp only [Bool.not_true, Bool.false_or, Bool.and_eq_true, decide_eq_true_eq] at h3
 obtain ⟨⟨⟨⟨g1, g2⟩, g3⟩, g4⟩, g5⟩ := h3
 refine ⟨g1, g2, ?_⟩
 have e := (Nd.same_iff _ _).1 g5
 generalize doneC (doneC t a).1 (f (doneC t a).1) = d at *
 obtain ⟨x, y, z⟩ := d
 dsimp only at *
 rw [e, g3, g4]
theorem ok_zero {t : Nd} {a : Ans} (h : (doneC t a).2.1 = true) : a.1 = 0 := by
 unfold doneC at h
 by_cases h0 : a.1 = 0
 ·exact h0
 ·rw [if_neg h0] at h; cases h
theorem fit_mem {t : Nd} {a : Ans} (h : fitC t a = true) (h0 : a.1 = 0) : ∀ o ∈ a.2, o.path.length ≤ 1000 ∧ o.to.length ≤ 1000 := by
 unfold fitC fit at h
 simp only [h0, decide_true, Bool.true_and, ne_eq, not_true, decide_false, Bool.or_false, Bool.and_eq_true, List.all_eq_true, decide_eq_true_eq] at h
 exact fun o ho => h.2 o ho
end Go.Proofs.Ytofcbclokkjfjaa.Wi
