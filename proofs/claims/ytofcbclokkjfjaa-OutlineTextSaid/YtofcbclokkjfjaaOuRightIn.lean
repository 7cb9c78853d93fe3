/- Chapter 24: a contract of chapter 06 turned to this seat (BwRightIn). -/
import Derived.Test.YtofcbclokkjfjaaOuRRight
namespace Go.Proofs.Ytofcbclokkjfjaa.Bw
open Go.RowKit Go.Shelf
attribute [local go_sem] Oper.semAt_some

def allR (l : List (Int × Nd)) : Bool := l.all (fun x => x.2.right1)
theorem allR_snoc (l : List (Int × Nd)) (d : Int) (k : Nd) : allR (l ++ [(d, k)]) = (allR l && k.right1) := by simp [allR]
theorem allR_pre (t : Nd) : allR (t.pre 0) = t.rightAll := Nd.right_pre t 0
theorem all_prefix {l q : List (Int × Nd)} (h : q <+: l) (hq : allR q = false) : allR l = false := by
  obtain ⟨r, rfl⟩ := h
  unfold allR at *
  rw [List.all_append, hq]; rfl

set_option maxRecDepth 100000 in
set_option maxHeartbeats 2000000 in
theorem right_in (n : Nat) (hn : 1 ≤ n) (t : Nd) (v : Value) (w : World) (hr : t.rd w v) (hc : t.wt ≤ 1000000) :
    CallsIn Fence.wide n Try.prog 55 #[v] w (Ret w fun r _ => r = .bool t.right) := by
  obtain ⟨av, kv, rfl, i0, i1, hl, ht, ⟨aA, ac, rfl, _⟩, ⟨kA, kc, rfl, _⟩⟩ := Nd.rd_open hr
  obtain ⟨w1, hw1⟩ : ∃ w1, (w.alloc (.cells #[.int .u64 t.id, .bool t.leaf, .string t.label, .slice aA t.attrs.length ac, .string t.text, .slice kA t.kids.length kc] 26)).alloc (.cells #[.bool false] 4) = w1 := ⟨_, rfl⟩
  have hE1 : Ext w w1 := by rw [← hw1]; exact ((Ext.refl w).alloc _).alloc _
  have hbx : Boxed w1 (w.heap.size + 1) 4 (.bool false) := by rw [← hw1]; exact Boxed.new2 _ _ _ _
  have H1 := Lib.hid hw1
  clear hw1
  rcases hlf : t.leaf with _ | _
  case true =>
    have HF : Hid (t.right = false) := by simp [Nd.right, hlf, Hid]
    refine callsIn_wide.2 ?_
    go_enter Try.func55, Try.ntmps55
    go_wp2_with fail
    refine bodyPost_ret (v := .bool false) (by simp [results, Try.f55, go_sem]) rfl ⟨_, rfl, by rw [HF.out], ((Ext.refl w).alloc _).alloc _⟩
  have HF : Hid (t.right = t.rightAll) := by simp [Nd.right, hlf, Hid]
  rw [hlf] at H1 hr
  have hlf' := Lib.hid hlf
  clear hlf
  have hn1 := nodes_w (n - 1) w1 t _ (Nd.rd_ext hE1 hr)
  refine callsIn_of_wp_marks Try.func55 rfl trivial ?_ rfl
  simp only [Try.ntmps55, List.size_toArray, List.length_cons, List.length_nil, Nat.reduceAdd, Nat.reduceSub, Array.replicate_succ, Array.replicate_zero, List.push_toArray, List.append_toArray, List.nil_append, List.cons_append]
  gi_wp2_with (rw [H1.out]; refine ⟨trivial, ?_⟩; gi_at_call 60; refine hn1.mono ?_; clear hn1; rintro e w2 ⟨rfl, rfl⟩)
  refine range_nodes (F := Fence.wide) rfl trivial trivial rfl hn (Bn := w1.heap.size) (t := t) (w₀ := w) rfl hr (hE1.alloc _) (World.alloc_heap_new w1 _) hc
    (fun pre W => Boxed W (w.heap.size + 1) 4 (.bool false) ∧ allR (keys pre) = true)
    (fun c pre W => Boxed W (w.heap.size + 1) 4 (.bool false) ∧ (c = .ret ∧ allR (keys pre) = false))
    (fun s X Y row hs hg hr => ⟨boxed_own _ _ (fun s => _) s X Y row hs.1 hg hr, hs.2⟩) (fun c s X Y row hs hg hr => ⟨boxed_own _ _ (fun s => _) s X Y row hs.1 hg hr, hs.2⟩) ⟨hbx.alloc _, rfl⟩
    (fun d k vk a' W => ∃ Bk : Nat, (a' = { tmps := #[.agg #[.int .u64 t.id, .bool false, .string t.label, .slice aA t.attrs.length ac, .string t.text, .slice kA t.kids.length kc], .pointer (some ⟨w.heap.size, 0, none⟩), .pointer (some ⟨w.heap.size + 1, 0, none⟩),
      undef, .pointer (some ⟨Bk, 0, none⟩), .pointer (some ⟨w.heap.size, 1, none⟩), .bool false, .agg #[.int .u64 t.id, .bool false, .string t.label, .slice aA t.attrs.length ac, .string t.text, .slice kA t.kids.length kc], .func (.func 70) #[] #[.pointer (some ⟨w1.heap.size, 0, none⟩)], .int .i64 d, vk, undef, undef, undef], defers := [] }) ∧ NBox W Bk 26 vk.cells)
    (fun d k vk a' s X Y row hs hg hr => by obtain ⟨Bk, h⟩ := hs; exact ⟨Bk, NBox.own (β := Unit) (fun _ => _) s X Y row h hg hr⟩) ?assign ?body ?done ?stop
  case assign =>
    intro l pre d k vk W K hk hp hEW hK
    obtain ⟨av', kv', rfl, _, _, _, _, ⟨aA', ac', rfl, _⟩, ⟨kA', kc', rfl, _⟩⟩ := Nd.rd_open hk
    gi_wp2
    exact hK _ _ ((Keep2.refl _ _ _).ext hEW.size ((Ext.refl _).alloc _)) ⟨hp.1.alloc _, hp.2⟩ ⟨_, by simp, NBox.new _ _ _⟩
  case body =>
    rintro l pre d k vk hk hkw a' W ⟨hp, hpre⟩ hEW ⟨Bk, rfl, hbk⟩ hlen
    have hr1 := right1_any k vk W (Nd.rd_ext hEW hk)
    obtain ⟨av', kv', rfl, _, _, _, htx, ⟨aA', ac', rfl, a1, a2, a3⟩, ⟨kA', kc', rfl, _⟩⟩ := Nd.rd_open hk
    have c0 : W.cell? ⟨Bk, 0, none⟩ = some (.int .u64 k.id) := by rw [hbk.cell]; rfl
    have c1 : W.cell? ⟨Bk, 1, none⟩ = some (.bool k.leaf) := by rw [hbk.cell]; rfl
    have c2 : W.cell? ⟨Bk, 2, none⟩ = some (.string k.label) := by rw [hbk.cell]; rfl
    have c3 : W.cell? ⟨Bk, 3, none⟩ = some (.slice aA' k.attrs.length ac') := by rw [hbk.cell]; rfl
    have c4 : W.cell? ⟨Bk, 4, none⟩ = some (.string k.text) := by rw [hbk.cell]; rfl
    have c5 : W.cell? ⟨Bk, 5, none⟩ = some (.slice kA' k.kids.length kc') := by rw [hbk.cell]; rfl
    have hpre' := Lib.hid hpre
    clear hpre
    rcases hkr : k.right1 with _ | _
    · rw [hkr] at hr1
      have hk1 := Lib.hid hkr
      clear hkr
      gi_wp2_with fail
      refine ⟨trivial, (fun h => by cases h), ?_⟩
      refine (CallsIn.inRound l (callsIn_wide.2 hr1)).mono ?_
      rintro e w2 ⟨r, rfl, rfl, hE2⟩
      have hp2 := Boxed.ext hE2 hp
      have hc0 := hp2.cell
      have hf0 := hp2.frozen
      gi_wp2_with fail
      refine ⟨((Keep2.refl _ _ _).ext hEW.size hE2).box hp2 (by decide) (by omega) _, hp2.set _, ?_⟩
      rw [keys_append, keys_one, El.of_key, allR_snoc, hk1.out, Bool.and_false]
    · rw [hkr] at hr1
      have hk1 := Lib.hid hkr
      clear hkr
      gi_wp2_with ((first | gi_at_call 61 | (refine ⟨trivial, (fun h => by cases h), ?_⟩; gi_at_call 61) | (refine ⟨trivial, ?_⟩; gi_at_call 61)); refine (CallsIn.inRound l (callsIn_wide.2 hr1)).mono ?_; clear hr1; rintro e w2 ⟨r, rfl, rfl, hE2⟩)
      refine ⟨(Keep2.refl _ _ _).ext hEW.size hE2, Boxed.ext hE2 hp, ?_⟩
      rw [keys_append, keys_one, El.of_key, allR_snoc, hpre'.out, hk1.out]; rfl
  case done =>
    rintro D xs W hD hS ⟨hp, ha⟩ hEW hK
    have hc0 := hp.cell
    have hf0 := hp.frozen
    have hlx : Hid (t.right = true) := by rw [HF.out, ← allR_pre, ← hS, ha]; rfl
    clear hS ha
    gi_wp2
    have hK' := (KeepsOthers.setCell W ⟨w.heap.size + 1, 0, none⟩ (.bool true)).same D _ hK rfl
    refine ⟨by simp, .inl ⟨_, _, rfl, run_takeDeferred hK', ?_⟩⟩
    have hc5 := cell_kept (hp.set (.bool true)).cell (grownBy_putObj' _ D (.deferred none)) (fun r e => by cases e; exact ⟨_, hK', rfl⟩)
    refine ⟨.bool true, ?_, _, rfl, by rw [hlx.out], ?_⟩
    · simp [results, Try.f55, go_sem, hc5]
    · exact Ext.putObj (Below.setCell hEW (p := ⟨w.heap.size + 1, 0, none⟩) (by simp) _) (by have := hE1.size; simp at hD; omega) _
  case stop =>
    rintro D c q W hD hq ⟨hp, rfl, ha⟩ hEW hK
    have hlx : Hid (t.right = false) := by rw [HF.out, ← allR_pre, all_prefix hq ha]; rfl
    clear hq ha
    gi_wp2
    refine ⟨by simp, .inl ⟨_, _, rfl, run_takeDeferred hK, ?_⟩⟩
    have hc5 := cell_kept hp.cell (grownBy_putObj' _ D (.deferred none)) (fun r e => by cases e; exact ⟨_, hK, rfl⟩)
    refine ⟨.bool false, ?_, _, rfl, by rw [hlx.out], ?_⟩
    · simp [results, Try.f55, go_sem, hc5]
    · exact Ext.putObj hEW (by have := hE1.size; simp at hD; omega) _

theorem right_any (t : Nd) (v : Value) (w : World) (hr : t.rd w v) (hc : t.wt ≤ 1000000) : Calls Try.prog 55 #[v] w (Ret w fun r _ => r = .bool t.right) :=
  callsIn_wide.1 (right_in 9 (by omega) t v w hr hc)

set_option maxHeartbeats 400000 in
theorem rrightTop_any (t : Nd) (v : Value) (w : World) (hr : t.rd w v) : Calls Try.prog 48 #[v] w (Ret w fun r _ => r = .bool t.right) := by
  obtain ⟨av, kv, rfl, i0, i1, hl, ht, ⟨aA, ac, rfl, _⟩, ⟨kA, kc, rfl, _⟩⟩ := Nd.rd_open hr
  rcases hlf : t.leaf with _ | _
  · have HF : Hid (t.right = t.rightAll) := by simp [Nd.right, hlf, Hid]
    rw [hlf] at hr
    have h1 := rright_any t.cnt t _ (w.alloc (.cells #[.int .u64 t.id, .bool false, .string t.label, .slice aA t.attrs.length ac, .string t.text, .slice kA t.kids.length kc] 26)) (Nat.le_refl _) (Nd.rd_ext ((Ext.refl w).alloc _) hr)
    clear hlf
    go_enter Try.func48, Try.ntmps48
    go_wp2_with (go_at_call 57; refine h1.mono ?_; rintro e w1 ⟨r, rfl, rfl, hE1⟩)
    go_ret
    exact ret_bool (by rw [HF.out]) (((Ext.refl w).alloc _).trans hE1)
  · have HF : Hid (t.right = false) := by simp [Nd.right, hlf, Hid]
    go_enter Try.func48, Try.ntmps48
    go_wp2_with fail
    go_ret
    exact ret_bool HF.out.symm ((Ext.refl w).alloc _)
end Go.Proofs.Ytofcbclokkjfjaa.Bw
