/- Lemmas and walks for the claims of chapter 06: Count. No conditions beside those that stand in each lemma. -/
import Derived.Test.YtamkgdkoddoehaaBwRange
namespace Go.Proofs.Ytamkgdkoddoehaa.Bw
open Go.RowKit Go.Shelf
attribute [local go_sem] Oper.semAt_some

set_option maxRecDepth 100000 in
set_option maxHeartbeats 1000000 in
theorem count_in (F : Fence) (hd : F.depth = none) (h18 : F.fn 18) (h36 : F.fn 36) (h44 : F.fn 44) (h45 : F.fn 45) (hro : F.round = none) (n : Nat) (hn : 1 ≤ n) (t : Nd) (v : Value) (w : World) (hr : t.rd w v) (hc : t.wt ≤ 1000000)
    (hnodes : ∀ W, t.rd W v → CallsIn F (n - 1) Try.prog 36 #[v] W fun e w' => e = .returned (.func (.func 44) #[] #[.pointer (some ⟨W.heap.size, 0, none⟩)]) ∧ w' = W.alloc (.cells v.cells 26)) :
    CallsIn F n Try.prog 18 #[v] w (Ret w fun r _ => r = .int .i64 t.cnt) := by
  obtain ⟨av, kv, rfl, i0, i1, hl, ht, ⟨aA, ac, rfl, _⟩, ⟨kA, kc, rfl, _⟩⟩ := Nd.rd_open hr
  have hdd : ∀ k : Nat, (F.depth.isSome = true → 1 ≤ k) := fun k h => by rw [hd] at h; cases h
  obtain ⟨w1, hw1⟩ : ∃ w1, (w.alloc (.cells #[.int .u64 t.id, .bool t.leaf, .string t.label, .slice aA t.attrs.length ac, .string t.text, .slice kA t.kids.length kc] 26)).alloc (.cells #[.int .i64 0] 3) = w1 := ⟨_, rfl⟩
  have hE1 : Ext w w1 := by rw [← hw1]; exact ((Ext.refl w).alloc _).alloc _
  have hn1 := hnodes w1 (Nd.rd_ext hE1 hr)
  have H1 := Lib.hid hw1
  clear hnodes hw1
  refine callsIn_of_wp_marks Try.func18 rfl h18 ?_ hro
  simp only [Try.ntmps18, List.size_toArray, List.length_cons, List.length_nil, Nat.reduceAdd, Nat.reduceSub, Array.replicate_succ, Array.replicate_zero, List.push_toArray, List.append_toArray, List.nil_append, List.cons_append]
  gi_wp2_with (rw [H1.out]; (try refine ⟨hdd _, ?_⟩); gi_at_call 36; refine hn1.mono ?_; clear hn1; rintro e w2 ⟨rfl, rfl⟩)
  have hbx : Boxed w1 (w.heap.size + 1) 3 (.int .i64 0) := by rw [← H1.out]; exact Boxed.new2 _ _ _ _
  refine range_nodes hd h44 h45 hro hn (Bn := w1.heap.size) (t := t) (w₀ := w) rfl hr (hE1.alloc _) (World.alloc_heap_new w1 _) hc
    (fun pre W => Boxed W (w.heap.size + 1) 3 (.int .i64 pre.length)) (fun _ _ _ => False) (boxed_own _ _ _) (fun _ _ _ _ _ h _ _ => h) (hbx.alloc _)
    (fun d _ vk a' _ => a' = { tmps := #[.agg #[.int .u64 t.id, .bool t.leaf, .string t.label, .slice aA t.attrs.length ac, .string t.text, .slice kA t.kids.length kc], .pointer (some ⟨w.heap.size, 0, none⟩), .int .i64 0,
      .pointer (some ⟨w.heap.size + 1, 0, none⟩), .agg #[.int .u64 t.id, .bool t.leaf, .string t.label, .slice aA t.attrs.length ac, .string t.text, .slice kA t.kids.length kc], .func (.func 44) #[] #[.pointer (some ⟨w1.heap.size, 0, none⟩)], .int .i64 d, vk, undef, undef, undef], defers := [] })
    (fun _ _ _ _ _ _ _ _ h _ _ => h) ?assign ?body ?done ?stop
  case assign =>
    intro l pre d k vk W K _ hp hEW hK
    gi_wp2
    exact hK _ _ (Keep2.refl _ _ _) hp (by simp)
  case body =>
    rintro l pre d k vk hk hkw a' W hp hEW rfl hlen
    have hc0 := hp.cell
    have hf0 := hp.frozen
    have hcw := Nd.cnt_wt t
    gi_wp2
    refine ⟨(Keep2.refl _ _ _).box hp (by decide) (by omega) _, ?_⟩
    have := hp.set (.int .i64 (pre.length + 1))
    simpa using this
  case done =>
    intro D xs W hD hS hp hEW hK
    have hc0 := hp.cell
    have hlx : Hid (xs.length = t.cnt) := by rw [← keys_len, hS, Nd.pre_len]; rfl
    clear hS
    gi_wp2
    refine ⟨by simp, .inl ⟨_, _, rfl, run_takeDeferred hK, ?_⟩⟩
    exact ⟨_, results_tmp rfl _ _ _, ret_int (by rw [hlx.out]) (hEW.putObj (by have := hE1.size; simp at hD; omega) _)⟩
  case stop =>
    rintro D c q W _ _ h
    exact h.elim
end Go.Proofs.Ytamkgdkoddoehaa.Bw
