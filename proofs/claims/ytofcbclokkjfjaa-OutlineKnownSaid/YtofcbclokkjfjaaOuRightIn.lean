/- Chapter 24: a contract of chapter 06 turned to this seat (BwRRight). -/
import Derived.Test.YtofcbclokkjfjaaOuRight
namespace Go.Proofs.Ytofcbclokkjfjaa.Bw
open Go.RowKit Go.Shelf

theorem Nd.rightAll_no {t : Nd} (h : t.right1 = false) : t.rightAll = false := by rw [Nd.rightAll_eq, h]; rfl
theorem Nd.rightAll_yes {t : Nd} (h : t.right1 = true) : t.rightAll = rightK t.kids := by rw [Nd.rightAll_eq, h]; rfl
theorem rightK_no {k : Nd} {r : List Nd} (h : k.rightAll = false) : rightK (k :: r) = false := by rw [rightK, h]; rfl
theorem rightK_yes {k : Nd} {r : List Nd} (h : k.rightAll = true) : rightK (k :: r) = rightK r := by rw [rightK, h]; rfl

set_option maxRecDepth 100000 in
set_option maxHeartbeats 2000000 in
theorem rright_any (N : Nat) : ∀ (t : Nd) (v : Value) (w : World), t.cnt ≤ N → t.rd w v → Calls Try.prog 57 #[v] w (Ret w fun r _ => r = .bool t.rightAll) := by
 induction N with
 | zero => intro t v w h; rw [Nd.cnt_eq] at h; omega
 | succ N ih =>
  intro t v w hN hr
  obtain ⟨av, kv, rfl, i0, i1, hl, ht, ⟨aA, ac, rfl, a1, a2, a3⟩, ⟨kA, kc, rfl, k1, k2, k3⟩⟩ := Nd.rd_open hr
  obtain ⟨id, lf, lb, ats, tx, ks⟩ := t
  simp only [Nd.id, Nd.leaf, Nd.label, Nd.text, Nd.attrs, Nd.kids] at *
  unfold maxLen at hl ht a2 k2
  rcases Nat.lt_or_ge 64 lb.size with b1 | b1
  · have HF := Lib.hid (Nd.rightAll_no (Nd.shape_a (id := id) (lf := lf) (tx := tx) (ats := ats) (ks := ks) b1))
    go_enter Try.func57, Try.ntmps57
    go_wp2_with fail
    go_ret
    exact ret_bool HF.out.symm ((Ext.refl w).alloc _)
  have hcase : (lf = true ∧ 0 < ks.length) ∨ (lf = false ∧ 0 < tx.size) ∨ (lf = true ∧ ks.length = 0) ∨ (lf = false ∧ tx.size = 0) := by
    cases lf
    · rcases Nat.eq_zero_or_pos tx.size with h | h <;> simp [h]
    · rcases Nat.eq_zero_or_pos ks.length with h | h <;> simp [h]
  rcases hcase with ⟨rfl, b2⟩ | ⟨rfl, b2⟩ | ⟨rfl, b2⟩ | ⟨rfl, b2⟩
  · have HF := Lib.hid (Nd.rightAll_no (Nd.shape_b (id := id) (lb := lb) (tx := tx) (ats := ats) (ks := ks) b2))
    go_enter Try.func57, Try.ntmps57
    go_wp2_with fail
    go_ret
    exact ret_bool HF.out.symm ((Ext.refl w).alloc _)
  · have HF := Lib.hid (Nd.rightAll_no (Nd.shape_c (id := id) (lb := lb) (tx := tx) (ats := ats) (ks := ks) b2))
    have hs := str_some b2
    go_enter Try.func57, Try.ntmps57
    go_wp2_with fail
    go_ret
    exact ret_bool HF.out.symm ((Ext.refl w).alloc _)
  case' inr.inr.inl =>
    have HF := Lib.hid (Nd.shape_ok (id := id) (lf := true) (lb := lb) (tx := tx) (ats := ats) (ks := ks) b1 (fun _ => b2) (fun h => by cases h))
    have b3 : ks.length ≤ 0 := by omega
  case' inr.inr.inr =>
    have HF := Lib.hid (Nd.shape_ok (id := id) (lf := false) (lb := lb) (tx := tx) (ats := ats) (ks := ks) b1 (fun h => by cases h) (fun _ => b2))
    have b3 := str_empty b2
  all_goals
    clear b2
    go_enter Try.func57, Try.ntmps57
    go_wp2_with fail
    generalize hw0 : w.alloc (.cells #[.int .u64 id, .bool _, .string lb, .slice aA ats.length ac, .string tx, .slice kA ks.length kc] 26) = w0
    have hE0 : Ext w w0 := by rw [← hw0]; exact (Ext.refl w).alloc _
    have c5 : w0.cell? ⟨w.heap.size, 5, none⟩ = some (.slice kA ks.length kc) := by rw [← hw0]; simp
    have c3 : w0.cell? ⟨w.heap.size, 3, none⟩ = some (.slice aA ats.length ac) := by rw [← hw0]; simp
    clear hw0
    go_loopw [3] (fun s32 wr => ∃ i : Nat, s32 = .int .i64 i ∧ i ≤ ats.length ∧ Hid (attrsOk (prevK ats i) (ats.drop i) = attrsOk none ats) ∧ Ext w0 wr) (fun i _ => ats.length - (intOf i).toNat)
    case atStart => exact ⟨0, rfl, Nat.zero_le _, rfl, Ext.refl _⟩
    case round =>
      obtain ⟨i, rfl, hi, HW, hE⟩ := hrel
      have d3 := hE.cell c3
      rcases Nat.lt_or_ge i ats.length with hlt | hlt
      · obtain ⟨⟨key, val⟩, hx⟩ : ∃ x, ats[i]? = some x := ⟨_, List.getElem?_eq_getElem hlt⟩
        obtain ⟨b, off, rfl, hrd⟩ := a3 (by intro h; rw [h] at hlt; simp at hlt)
        have hrd' := rdAttrs_ext (hE0.trans hE) hrd
        obtain ⟨e1, e2, e3, e4⟩ := rdAttrs_at hrd' hx
        have HD := Lib.hid (drop_at hx)
        have hx := Lib.hid hx
        clear hrd a3
        have q1 : (0 : Int) ≤ (i : Int) := by omega
        have q2 : (i : Int) < (ats.length : Int) := by omega
        rcases hko : keyOk key with _ | _
        · have HG : Hid (attrsOk none ats = false) := by rw [← HW.out, HD.out, attrsOk_1 hko]; rfl
          replace HF := Lib.hid (Nd.rightAll_no (HF.out.trans HG.out))
          have HK := Lib.hid hko
          clear HW HG HD hko
          go_wp2_with fail
          go_quiet ((go_at_call 62; exact Calls.quiet_of_same (rkey_no key _ e3 HK.out)))
          go_wp2_with fail
          go_ret
          exact ret_bool HF.out.symm ((hE0.trans hE).drewN _)
        have HK := Lib.hid hko
        rcases Nat.lt_or_ge 256 val.size with hv | hv
        · have HG : Hid (attrsOk none ats = false) := by rw [← HW.out, HD.out, attrsOk_2 hv]; rfl
          replace HF := Lib.hid (Nd.rightAll_no (HF.out.trans HG.out))
          clear HW HG HD hko
          have hvd : decide ((256 : Int) < val.size) = true := by simp; omega
          go_wp2_with fail
          go_quiet ((go_at_call 62; exact Calls.quiet_of_same (rkey_yes key _ e3 HK.out)))
          go_wp2_with fail
          go_ret
          exact ret_bool HF.out.symm ((hE0.trans hE).drewN _)
        have hvd : decide ((256 : Int) < val.size) = false := by simp; omega
        rcases Nat.eq_zero_or_pos i with hi0 | hi0
        · have HN : Hid (attrsOk (prevK ats (i + 1)) (ats.drop (i + 1)) = attrsOk none ats) := by
            rw [← HW.out, HD.out, prevK_succ hx.out]
            subst hi0
            simp only [prevK, Hid]; rw [attrsOk_n hko hv]
          have hid : decide (0 < i) = false := by simp; omega
          clear HW HD hko hi0
          go_wp2_with fail
          go_quiet ((go_at_call 62; exact Calls.quiet_of_same (rkey_yes key _ e3 HK.out)))
          go_wp2_with fail
          go_roundw
          case rel => exact ⟨i + 1, by go_num, by omega, HN, hE.drewN _⟩
          case measure => simp [intOf]; omega
        · obtain ⟨⟨pk, pv⟩, hy⟩ : ∃ x, ats[i - 1]? = some x := ⟨_, List.getElem?_eq_getElem (by omega)⟩
          obtain ⟨f1, f2, f3, f4⟩ := rdAttrs_at hrd' hy
          have q3 : (1 : Int) ≤ (i : Int) := by omega
          have q4 : (0 : Int) ≤ (i : Int) - 1 := by omega
          have q5 : (i : Int) - 1 < (ats.length : Int) := by omega
          have hid : decide (0 < i) = true := by simp; omega
          have hp := Lib.hid (prevK_pos hi0 hy)
          clear hy hi0
          rcases hs1 : Op.bytesLess key.toList pk.toList with _ | _
          · rcases hs2 : (key.toList == pk.toList) with _ | _
            · have HN : Hid (attrsOk (prevK ats (i + 1)) (ats.drop (i + 1)) = attrsOk none ats) := by
                rw [← HW.out, HD.out, prevK_succ hx.out, hp.out, attrsOk_s hko hv (by simp [strLe, hs1, hs2])]; rfl
              clear HW HD hko
              have hwr : IntKind.i64.wrap ((i : Int) - 1) = (i : Int) - 1 := IntWalk.i64_in _ (by omega)
              have htn : ((i : Int) - 1).toNat = i - 1 := by omega
              go_wp2_with fail
              go_quiet ((go_at_call 62; exact Calls.quiet_of_same (rkey_yes key _ e3 HK.out)))
              clear hwr htn
              go_wp2_with fail
              go_roundw
              case rel => exact ⟨i + 1, by go_num, by omega, HN, hE.drewN _⟩
              case measure => simp [intOf]; omega
            · have HG : Hid (attrsOk none ats = false) := by rw [← HW.out, HD.out, hp.out, attrsOk_3 (by simp [strLe, hs2])]; rfl
              replace HF := Lib.hid (Nd.rightAll_no (HF.out.trans HG.out))
              clear HW HG HD hko
              have hwr : IntKind.i64.wrap ((i : Int) - 1) = (i : Int) - 1 := IntWalk.i64_in _ (by omega)
              have htn : ((i : Int) - 1).toNat = i - 1 := by omega
              go_wp2_with fail
              go_quiet ((go_at_call 62; exact Calls.quiet_of_same (rkey_yes key _ e3 HK.out)))
              clear hwr htn
              go_wp2_with fail
              go_ret
              exact ret_bool HF.out.symm ((hE0.trans hE).drewN _)
          · have HG : Hid (attrsOk none ats = false) := by rw [← HW.out, HD.out, hp.out, attrsOk_3 (by simp [strLe, hs1])]; rfl
            replace HF := Lib.hid (Nd.rightAll_no (HF.out.trans HG.out))
            clear HW HG HD hko
            have hwr : IntKind.i64.wrap ((i : Int) - 1) = (i : Int) - 1 := IntWalk.i64_in _ (by omega)
            have htn : ((i : Int) - 1).toNat = i - 1 := by omega
            go_wp2_with fail
            go_quiet ((go_at_call 62; exact Calls.quiet_of_same (rkey_yes key _ e3 HK.out)))
            clear hwr htn
            go_wp2_with fail
            go_ret
            exact ret_bool HF.out.symm ((hE0.trans hE).drewN _)
      · have HG : Hid (attrsOk none ats = true) := by rw [← HW.out, List.drop_eq_nil_of_le hlt]; cases prevK ats i <;> rfl
        replace HF := Lib.hid (Nd.rightAll_yes (HF.out.trans HG.out))
        have hld : decide (i < ats.length) = false := by simp; omega
        clear HW HG a3 hlt
        go_wp2_with fail
        go_loopw [4] (fun s4 wr => ∃ k : Nat, s4 = .int .i64 k ∧ k ≤ ks.length ∧ Hid (rightK (ks.drop k) = rightK ks) ∧ Ext w0 wr) (fun i _ => ks.length - (intOf i).toNat)
        case atStart => exact ⟨0, rfl, Nat.zero_le _, rfl, hE⟩
        case round =>
          clear hE d3
          obtain ⟨k, rfl, hk, HW, hE⟩ := hrel
          have d5 := hE.cell c5
          rcases Nat.lt_or_ge k ks.length with hlt2 | hlt2
          · try (exfalso; omega)
            all_goals
              obtain ⟨kid, hx⟩ : ∃ x, ks[k]? = some x := ⟨_, List.getElem?_eq_getElem hlt2⟩
              obtain ⟨b, off, rfl, hrd⟩ := k3 (by intro h; rw [h] at hlt2; simp at hlt2)
              obtain ⟨aA', ac', kA', kc', e0, e1, e2, e3, e4, e5, hkid⟩ := rdKids_get (rdKids_ext (hE0.trans hE) hrd) hx
              have HD := Lib.hid (drop_at hx)
              have hcnt : kid.cnt ≤ N := by have := cntK_mem (List.mem_of_getElem? hx); rw [Nd.cnt] at hN; omega
              clear hx hrd k3
              rcases hkr : kid.rightAll with _ | _
              · have HG : Hid (rightK ks = false) := by rw [← HW.out, HD.out, rightK_no hkr]; rfl
                have ih1 := ih kid _ wr hcnt hkid
                rw [hkr] at ih1
                replace HF := Lib.hid (HF.out.trans HG.out)
                clear HW HD HG hkr
                go_wp2_with (go_at_call 57; refine ih1.mono ?_; rintro e w1 ⟨r, rfl, rfl, hE1⟩)
                go_ret
                exact ret_bool HF.out.symm (hE0.trans (hE.trans hE1))
              · have HN : Hid (rightK (ks.drop (k + 1)) = rightK ks) := by rw [← HW.out, HD.out, rightK_yes hkr]; rfl
                have ih1 := ih kid _ wr hcnt hkid
                rw [hkr] at ih1
                clear HW HD hkr
                go_wp2_with (go_at_call 57; refine ih1.mono ?_; rintro e w1 ⟨r, rfl, rfl, hE1⟩)
                go_roundw
                case rel => exact ⟨k + 1, by go_num, by omega, HN, hE.trans hE1⟩
                case measure => simp [intOf]; omega
          · have HG : Hid (rightK ks = true) := by rw [← HW.out, List.drop_eq_nil_of_le hlt2, rightK]; rfl
            replace HF := Lib.hid (HF.out.trans HG.out)
            clear HW HG
            go_wp2_with fail
            go_ret
            exact ret_bool HF.out.symm (hE0.trans hE)
end Go.Proofs.Ytofcbclokkjfjaa.Bw
namespace Go.Proofs.Ytofcbclokkjfjaa.Bw
open Go.RowKit Go.Shelf
attribute [local go_sem] Oper.semAt_some

def allR (l : List (Int × Nd)) : Bool := l.all (fun x => x.2.right1)
theorem allR_snoc (l : List (Int × Nd)) (d : Int) (k : Nd) : allR (l ++ [(d, k)]) = (allR l && k.right1) := by simp [allR]
theorem allR_pre (t : Nd) : allR (t.pre 0) = t.rightAll := Nd.right_pre t 0
theorem all_prefix {l q : List (Int × Nd)} (h : q <+: l) (hq : allR q = false) : allR l = false := by
 obtain ⟨r, rfl⟩ := h
 unfold allR at *
 rw [List.all_append, hq]; rfl

set_option maxRecDepth 100000 in
set_option maxHeartbeats 2000000 in
theorem right_in (n : Nat) (hn : 1 ≤ n) (t : Nd) (v : Value) (w : World) (hr : t.rd w v) (hc : t.wt ≤ 1000000) :
  CallsIn Fence.wide n Try.prog 55 #[v] w (Ret w fun r _ => r = .bool t.right) := by
 obtain ⟨av, kv, rfl, i0, i1, hl, ht, ⟨aA, ac, rfl, _⟩, ⟨kA, kc, rfl, _⟩⟩ := Nd.rd_open hr
 obtain ⟨w1, hw1⟩ : ∃ w1, (w.alloc (.cells #[.int .u64 t.id, .bool t.leaf, .string t.label, .slice aA t.attrs.length ac, .string t.text, .slice kA t.kids.length kc] 26)).alloc (.cells #[.bool false] 4) = w1 := ⟨_, rfl⟩
 have hE1 : Ext w w1 := by rw [← hw1]; exact ((Ext.refl w).alloc _).alloc _
 have hbx : Boxed w1 (w.heap.size + 1) 4 (.bool false) := by rw [← hw1]; exact Boxed.new2 _ _ _ _
 have H1 := Lib.hid hw1
 clear hw1
 rcases hlf : t.leaf with _ | _
 case true =>
  have HF : Hid (t.right = false) := by simp [Nd.right, hlf, Hid]
  refine callsIn_wide.2 ?_
  go_enter Try.func55, Try.ntmps55
  go_wp2_with fail
  refine bodyPost_ret (v := .bool false) (by simp [results, Try.f55, go_sem]) rfl ⟨_, rfl, by rw [HF.out], ((Ext.refl w).alloc _).alloc _⟩
 have HF : Hid (t.right = t.rightAll) := by simp [Nd.right, hlf, Hid]
 rw [hlf] at H1 hr
 have hlf' := Lib.hid hlf
 clear hlf
 have hn1 := nodes_w (n - 1) w1 t _ (Nd.rd_ext hE1 hr)
 refine callsIn_of_wp_marks Try.func55 rfl trivial ?_ rfl
 simp only [Try.ntmps55, List.size_toArray, List.length_cons, List.length_nil, Nat.reduceAdd, Nat.reduceSub, Array.replicate_succ, Array.replicate_zero, List.push_toArray, List.append_toArray, List.nil_append, List.cons_append]
 gi_wp2_with (rw [H1.out]; refine ⟨trivial, ?_⟩; gi_at_call 60; refine hn1.mono ?_; clear hn1; rintro e w2 ⟨rfl, rfl⟩)
 refine range_nodes (F := Fence.wide) rfl trivial trivial rfl hn (Bn := w1.heap.size) (t := t) (w₀ := w) rfl hr (hE1.alloc _) (World.alloc_heap_new w1 _) hc
  (fun pre W => Boxed W (w.heap.size + 1) 4 (.bool false) ∧ allR (keys pre) = true)
  (fun c pre W => Boxed W (w.heap.size + 1) 4 (.bool false) ∧ (c = .ret ∧ allR (keys pre) = false))
  (fun s X Y row hs hg hr => ⟨boxed_own _ _ (fun s => _) s X Y row hs.1 hg hr, hs.2⟩) (fun c s X Y row hs hg hr => ⟨boxed_own _ _ (fun s => _) s X Y row hs.1 hg hr, hs.2⟩) ⟨hbx.alloc _, rfl⟩
  (fun d k vk a' W => ∃ Bk : Nat, (a' = { tmps := #[.agg #[.int .u64 t.id, .bool false, .string t.label, .slice aA t.attrs.length ac, .string t.text, .slice kA t.kids.length kc], .pointer (some ⟨w.heap.size, 0, none⟩), .pointer (some ⟨w.heap.size + 1, 0, none⟩),
   undef, .pointer (some ⟨Bk, 0, none⟩), .pointer (some ⟨w.heap.size, 1, none⟩), .bool false, .agg #[.int .u64 t.id, .bool false, .string t.label, .slice aA t.attrs.length ac, .string t.text, .slice kA t.kids.length kc], .func (.func 70) #[] #[.pointer (some ⟨w1.heap.size, 0, none⟩)], .int .i64 d, vk, undef, undef, undef], defers := [] }) ∧ NBox W Bk 26 vk.cells)
  (fun d k vk a' s X Y row hs hg hr => by obtain ⟨Bk, h⟩ := hs; exact ⟨Bk, NBox.own (β := Unit) (fun _ => _) s X Y row h hg hr⟩) ?assign ?body ?done ?stop
 case assign =>
  intro l pre d k vk W K hk hp hEW hK
  obtain ⟨av', kv', rfl, _, _, _, _, ⟨aA', ac', rfl, _⟩, ⟨kA', kc', rfl, _⟩⟩ := Nd.rd_open hk
  gi_wp2
  exact hK _ _ ((Keep2.refl _ _ _).ext hEW.size ((Ext.refl _).alloc _)) ⟨hp.1.alloc _, hp.2⟩ ⟨_, by simp, NBox.new _ _ _⟩
 case body =>
  rintro l pre d k vk hk hkw a' W ⟨hp, hpre⟩ hEW ⟨Bk, rfl, hbk⟩ hlen
  have hr1 := right1_any k vk W (Nd.rd_ext hEW hk)
  obtain ⟨av', kv', rfl, _, _, _, htx, ⟨aA', ac', rfl, a1, a2, a3⟩, ⟨kA', kc', rfl, _⟩⟩ := Nd.rd_open hk
  have c0 : W.cell? ⟨Bk, 0, none⟩ = some (.int .u64 k.id) := by rw [hbk.cell]; rfl
  have c1 : W.cell? ⟨Bk, 1, none⟩ = some (.bool k.leaf) := by rw [hbk.cell]; rfl
  have c2 : W.cell? ⟨Bk, 2, none⟩ = some (.string k.label) := by rw [hbk.cell]; rfl
  have c3 : W.cell? ⟨Bk, 3, none⟩ = some (.slice aA' k.attrs.length ac') := by rw [hbk.cell]; rfl
  have c4 : W.cell? ⟨Bk, 4, none⟩ = some (.string k.text) := by rw [hbk.cell]; rfl
  have c5 : W.cell? ⟨Bk, 5, none⟩ = some (.slice kA' k.kids.length kc') := by rw [hbk.cell]; rfl
  have hpre' := Lib.hid hpre
  clear hpre
  rcases hkr : k.right1 with _ | _
  ·rw [hkr] at hr1
   have hk1 := Lib.hid hkr
   clear hkr
   gi_wp2_with fail
   refine ⟨trivial, (fun h => by cases h), ?_⟩
   refine (CallsIn.inRound l (callsIn_wide.2 hr1)).mono ?_
   rintro e w2 ⟨r, rfl, rfl, hE2⟩
   have hp2 := Boxed.ext hE2 hp
   have hc0 := hp2.cell
   have hf0 := hp2.frozen
   gi_wp2_with fail
   refine ⟨((Keep2.refl _ _ _).ext hEW.size hE2).box hp2 (by decide) (by omega) _, hp2.set _, ?_⟩
   rw [keys_append, keys_one, El.of_key, allR_snoc, hk1.out, Bool.and_false]
  ·rw [hkr] at hr1
   have hk1 := Lib.hid hkr
   clear hkr
   gi_wp2_with ((first | gi_at_call 61 | (refine ⟨trivial, (fun h => by cases h), ?_⟩; gi_at_call 61) | (refine ⟨trivial, ?_⟩; gi_at_call 61)); refine (CallsIn.inRound l (callsIn_wide.2 hr1)).mono ?_; clear hr1; rintro e w2 ⟨r, rfl, rfl, hE2⟩)
   refine ⟨(Keep2.refl _ _ _).ext hEW.size hE2, Boxed.ext hE2 hp, ?_⟩
   rw [keys_append, keys_one, El.of_key, allR_snoc, hpre'.out, hk1.out]; rfl
 case done =>
  rintro D xs W hD hS ⟨hp, ha⟩ hEW hK
  have hc0 := hp.cell
  have hf0 := hp.frozen
  have hlx : Hid (t.right = true) := by rw [HF.out, ← allR_pre, ← hS, ha]; rfl
  clear hS ha
  gi_wp2
  have hK' := (KeepsOthers.setCell W ⟨w.heap.size + 1, 0, none⟩ (.bool true)).same D _ hK rfl
  refine ⟨by simp, .inl ⟨_, _, rfl, run_takeDeferred hK', ?_⟩⟩
  have hc5 := cell_kept (hp.set (.bool true)).cell (grownBy_putObj' _ D (.deferred none)) (fun r e => by cases e; exact ⟨_, hK', rfl⟩)
  refine ⟨.bool true, ?_, _, rfl, by rw [hlx.out], ?_⟩
  ·simp [results, Try.f55, go_sem, hc5]
  ·exact Ext.putObj (Below.setCell hEW (p := ⟨w.heap.size + 1, 0, none⟩) (by simp) _) (by have := hE1.size; simp at hD; omega) _
 case stop =>
  rintro D c q W hD hq ⟨hp, rfl, ha⟩ hEW hK
  have hlx : Hid (t.right = false) := by rw [HF.out, ← allR_pre, all_prefix hq ha]; rfl
  clear hq ha
  gi_wp2
  refine ⟨by simp, .inl ⟨_, _, rfl, run_takeDeferred hK, ?_⟩⟩
  have hc5 := cell_kept hp.cell (grownBy_putObj' _ D (.deferred none)) (fun r e => by cases e; exact ⟨_, hK, rfl⟩)
  refine ⟨.bool false, ?_, _, rfl, by rw [hlx.out], ?_⟩
  ·simp [results, Try.f55, go_sem, hc5]
  ·exact Ext.putObj hEW (by have := hE1.size; simp at hD; omega) _

theorem right_any (t : Nd) (v : Value) (w : World) (hr : t.rd w v) (hc : t.wt ≤ 1000000) : Calls Try.prog 55 #[v] w (Ret w fun r _ => r = .bool t.right) :=
 callsIn_wide.1 (right_in 9 (by omega) t v w hr hc)

set_option maxHeartbeats 400000 in
theorem rrightTop_any (t : Nd) (v : Value) (w : World) (hr : t.rd w v) : Calls Try.prog 48 #[v] w (Ret w fun r _ => r = .bool t.right) := by
 obtain ⟨av, kv, rfl, i0, i1, hl, ht, ⟨aA, ac, rfl, _⟩, ⟨kA, kc, rfl, _⟩⟩ := Nd.rd_open hr
 rcases hlf : t.leaf with _ | _
 ·have HF : Hid (t.right = t.rightAll) := by simp [Nd.right, hlf, Hid]
  rw [hlf] at hr
  have h1 := rright_any t.cnt t _ (w.alloc (.cells #[.int .u64 t.id, .bool false, .string t.label, .slice aA t.attrs.length ac, .string t.text, .slice kA t.kids.length kc] 26)) (Nat.le_refl _) (Nd.rd_ext ((Ext.refl w).alloc _) hr)
  clear hlf
  go_enter Try.func48, Try.ntmps48
  go_wp2_with (go_at_call 57; refine h1.mono ?_; rintro e w1 ⟨r, rfl, rfl, hE1⟩)
  go_ret
  exact ret_bool (by rw [HF.out]) (((Ext.refl w).alloc _).trans hE1)
 ·have HF : Hid (t.right = false) := by simp [Nd.right, hlf, Hid]
  go_enter Try.func48, Try.ntmps48
  go_wp2_with fail
  go_ret
  exact ret_bool HF.out.symm ((Ext.refl w).alloc _)
end Go.Proofs.Ytofcbclokkjfjaa.Bw
