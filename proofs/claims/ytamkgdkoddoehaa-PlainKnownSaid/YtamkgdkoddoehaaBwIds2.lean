/- Lemmas and walks for the claims of chapter 06: Ids2. No conditions beside those that stand in each lemma. -/
import Derived.Test.YtamkgdkoddoehaaBwLong
namespace Go.Proofs.Ytamkgdkoddoehaa.Bw
open Go.RowKit Go.Shelf
attribute [local go_sem] Oper.semAt_some

theorem owns_type {W : World} {base e size n : Nat} {v : Value} {xs : List Value} (h : W.ownsRow base e size v n xs) {T k : Nat} {c : Array Value} {fz : Nat × Nat} (hT : e ≠ T) (hk : v.ownBlock = some k) : W.heap[k]? ≠ some (.cells c T fz) := by
  rcases h.2 with ⟨rfl, _⟩ | ⟨g, cap, cur, rfl, _, hg, _⟩
  · simp [Value.ownBlock] at hk
  · obtain rfl : g = k := by simpa [Value.ownBlock] using hk
    rw [hg]; intro he; cases he; exact hT rfl
/-- A round that appends onto a row of the call's own. -/
theorem Keep2.grown {n₀ T : Nat} {A W W' : World} (h : Keep2 n₀ T A W) {base e size n : Nat} {v : Value} {xs : List Value} (hown : W.ownsRow base e size v n xs) (hT : e ≠ T) (hg : W.grownBy W' v.ownBlock) (hn : n₀ ≤ base) (hW : n₀ ≤ W.heap.size) : Keep2 n₀ T A W' := by
  refine h.trans ⟨KeepT.grown ((Below.refl n₀ W).grown hg hW (fun k e => Nat.le_trans hn (owns_base hown k e))) hg (fun k c fz e => owns_type hown hT e), KeepsOthers.of_grownBy hg fun j o ej hj => ?_⟩
  rcases hown.2 with ⟨rfl, _⟩ | ⟨g, cap, cur, rfl, _, hgb, _⟩
  · simp [Value.ownBlock] at ej
  · obtain rfl : g = j := by simpa [Value.ownBlock] using ej
    rw [hgb] at hj; cases hj; rfl
theorem owns_set {W : World} {base e size n B : Nat} {t : TypeId} {v u : Value} {xs : List Value} (h : W.ownsRow base e size v n xs) (hb : Boxed W B t u) (hne : t ≠ e) (u' : Value) : (W.setCell ⟨B, 0, none⟩ u').ownsRow base e size v n xs :=
  h.kept (grownBy_setCell' W B u') (.inr (hb.not_row hne h).symm)

set_option maxRecDepth 100000 in
set_option maxHeartbeats 2000000 in
theorem ids_in (n : Nat) (hn : 1 ≤ n) (t : Nd) (v : Value) (w : World) (hr : t.rd w v) (hc : t.wt ≤ 1000000) :
    CallsIn Fence.wide n Try.prog 16 #[v] w (Ret w fun r w' => w'.ownsRow w.heap.size 22 1 r t.ids.length (t.ids.map (Value.int .u64))) := by
  obtain ⟨av, kv, rfl, i0, i1, hl, ht, ⟨aA, ac, rfl, _⟩, ⟨kA, kc, rfl, _⟩⟩ := Nd.rd_open hr
  obtain ⟨w1, hw1⟩ : ∃ w1, (w.alloc (.cells #[.int .u64 t.id, .bool t.leaf, .string t.label, .slice aA t.attrs.length ac, .string t.text, .slice kA t.kids.length kc] 26)).alloc (.cells #[.slice none 0 0] 32) = w1 := ⟨_, rfl⟩
  have hE1 : Ext w w1 := by rw [← hw1]; exact ((Ext.refl w).alloc _).alloc _
  have hn1 := nodes_w (n - 1) w1 t _ (Nd.rd_ext hE1 hr)
  have H1 := Lib.hid hw1
  have hcw := Nd.cnt_wt t
  clear hw1
  refine callsIn_of_wp_marks Try.func16 rfl trivial ?_ rfl
  simp only [Try.ntmps16, List.size_toArray, List.length_cons, List.length_nil, Nat.reduceAdd, Nat.reduceSub, Array.replicate_succ, Array.replicate_zero, List.push_toArray, List.append_toArray, List.nil_append, List.cons_append]
  gi_wp2_with (rw [H1.out]; refine ⟨trivial, ?_⟩; gi_at_call 36; refine hn1.mono ?_; clear hn1; rintro e w2 ⟨rfl, rfl⟩)
  have hbx : Boxed w1 (w.heap.size + 1) 32 (.slice none 0 0) := by rw [← H1.out]; exact Boxed.new2 _ _ _ _
  refine range_nodes (F := Fence.wide) rfl trivial trivial rfl hn (Bn := w1.heap.size) (t := t) (w₀ := w) rfl hr (hE1.alloc _) (World.alloc_heap_new w1 _) hc
    (fun pre W => ∃ u, Boxed W (w.heap.size + 1) 32 u ∧ W.ownsRow w.heap.size 22 1 u pre.length ((keys pre).map fun x => Value.int .u64 x.2.id) ∧ True) (fun _ _ _ => False)
    (holdsRow_own w.heap.size (w.heap.size + 1) 32 22 1 (fun pre => pre.length) (fun pre => (keys pre).map fun x => Value.int .u64 x.2.id) (fun _ _ => True)) (fun _ _ _ _ _ h _ _ => h) ⟨_, hbx.alloc _, World.ownsRow_nil _ _ _ _, trivial⟩
    (fun d k vk a' W => ∃ Bk : Nat, (a' = { tmps := #[.agg #[.int .u64 t.id, .bool t.leaf, .string t.label, .slice aA t.attrs.length ac, .string t.text, .slice kA t.kids.length kc], .pointer (some ⟨w.heap.size, 0, none⟩), .slice none 0 0,
      .pointer (some ⟨w.heap.size + 1, 0, none⟩), undef, .pointer (some ⟨Bk, 0, none⟩), .agg #[.int .u64 t.id, .bool t.leaf, .string t.label, .slice aA t.attrs.length ac, .string t.text, .slice kA t.kids.length kc], .func (.func 44) #[] #[.pointer (some ⟨w1.heap.size, 0, none⟩)], .int .i64 d, vk,
      undef, undef, undef, undef, undef, undef], defers := [] }) ∧ NBox W Bk 26 vk.cells)
    (fun d k vk a' s X Y row hs hg hr => by obtain ⟨Bk, h⟩ := hs; exact ⟨Bk, NBox.own (β := Unit) (fun _ => _) s X Y row h hg hr⟩) ?assign ?body ?done ?stop
  case assign =>
    rintro l pre d k vk W K hk ⟨u, hu, hrow, _⟩ hEW hK
    obtain ⟨av', kv', rfl, _, _, _, _, ⟨aA', ac', rfl, _⟩, ⟨kA', kc', rfl, _⟩⟩ := Nd.rd_open hk
    gi_wp2
    exact hK _ _ ((Keep2.refl _ _ _).ext hEW.size ((Ext.refl _).alloc _)) ⟨u, hu.alloc _, hrow.alloc _, trivial⟩ ⟨_, by simp, NBox.new _ _ _⟩
  case body =>
    rintro l pre d k vk hk hkw a' W ⟨u, hu, hrow, _⟩ hEW ⟨Bk, rfl, hbk⟩ hlen
    obtain ⟨av', kv', rfl, _, _, _, htx, ⟨aA', ac', rfl, a1, a2, a3⟩, ⟨kA', kc', rfl, _⟩⟩ := Nd.rd_open hk
    have c0 : W.cell? ⟨Bk, 0, none⟩ = some (.int .u64 k.id) := by rw [hbk.cell]; rfl
    have hc0 := hu.cell
    have hone : RdS (W.alloc (.cells #[.int .u64 k.id] 22)) 1 1 [.int .u64 k.id] (.slice (some ⟨W.heap.size, 0, none⟩) 1 1) := RdS.one rfl
    gi_wp2_with (gi_at_builtin
                 refine wpListIn_append_rd rfl rfl T32 (v := u) (by rfl) (hrow.alloc _) (by rfl) hone (by simp [Value.oneCell']) (by omega) (by simp only [maxLen]; omega) (by have := hEW.size; simp; omega) ?_
                 intro v3 w3 hown3 hg3 hat3
                 obtain ⟨g', cap', rfl⟩ := ownsRow_succ hown3
                 have hu3 : Boxed w3 (w.heap.size + 1) 32 u := (hu.alloc _).kept hg3 (hu.not_row (by decide) hrow)
                 have hc3 := hu3.cell
                 have hf3 := hu3.frozen)
    refine ⟨(((Keep2.refl _ _ _).ext hEW.size ((Ext.refl _).alloc _)).grown (hrow.alloc _) (by decide) hg3 (Nat.le_refl _) (by have := hEW.size; simp; omega)).box hu3 (by decide) (by omega) _, _, hu3.set _, ?_⟩
    rw [keys_append, List.map_append, keys_one, El.of_key]
    exact owns_set hown3 hu3 (by decide) _
  case done =>
    rintro D xs W hD hS ⟨u, hu, hrow, _⟩ hEW hK
    have hc0 := hu.cell
    have hlx : Hid ((keys xs).map (fun x => Value.int .u64 x.2.id) = t.ids.map (Value.int .u64)) := by rw [hS, ← Nd.ids_pre t 0, List.map_map]; rfl
    have hll : Hid (xs.length = t.ids.length) := by rw [← keys_len, hS, Nd.pre_len, Nd.ids_len]; rfl
    clear hS
    gi_wp2
    refine ⟨by simp, .inl ⟨_, _, rfl, run_takeDeferred hK, ?_⟩⟩
    refine ⟨_, results_tmp rfl _ _ _, _, rfl, ?_, hEW.putObj (by have := hE1.size; simp at hD; omega) _⟩
    rw [← hlx.out, ← hll.out]
    exact ownsRow_putObj hrow _ hK rfl
  case stop =>
    rintro D c q W _ _ h
    exact h.elim
end Go.Proofs.Ytamkgdkoddoehaa.Bw
