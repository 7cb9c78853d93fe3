/- Lemmas and walks for the claims of chapter 06: Long. No conditions beside those that stand in each lemma. -/
import Derived.Test.YtamkgdkoddoehaaBwSizes
namespace Go.Proofs.Ytamkgdkoddoehaa.Bw
open Go.RowKit Go.Shelf
attribute [local go_sem] Oper.semAt_some

/-- A block that holds a struct's cells. -/
def NBox (W : World) (B : Nat) (t : TypeId) (cs : Array Value) : Prop := W.heap[B]? = some (.cells cs t (0, 0))
theorem NBox.new (W : World) (t : TypeId) (cs : Array Value) : NBox (W.alloc (.cells cs t)) W.heap.size t cs := World.alloc_heap_new W _
theorem NBox.cell {W : World} {B : Nat} {t : TypeId} {cs : Array Value} (h : NBox W B t cs) (i : Nat) : W.cell? ⟨B, i, none⟩ = cs[i]? := cell_of_blk h
theorem NBox.ext {W W' : World} (he : Ext W W') {B : Nat} {t : TypeId} {cs : Array Value} (h : NBox W B t cs) : NBox W' B t cs := (he.block B (Array.getElem?_eq_some_iff.1 h).1).trans h
theorem NBox.own {β : Type} {B : Nat} {t : TypeId} {cs : Array Value} (p : β → Prop) : Own (fun (s : β) W => p s ∧ NBox W B t cs) := fun s X Y row hs hg hr =>
  ⟨hs.1, (hg.block B (Array.getElem?_eq_some_iff.1 hs.2).1 (fun e => by obtain ⟨o, ho, hc⟩ := hr B e.symm; rw [show X.heap[B]? = _ from hs.2] at ho; cases ho; cases hc)).trans hs.2⟩
theorem Boxed.ext {W W' : World} (he : Ext W W') {B : Nat} {t : TypeId} {v : Value} (h : Boxed W B t v) : Boxed W' B t v := (he.block B h.lt).trans h

theorem lenA_drop {l : List (ByteArray × ByteArray)} : ∀ k, lenA (l.drop k) ≤ lenA l := by
  induction l with
  | nil => intro k; simp [lenA]
  | cons x r ih => intro k; obtain ⟨a, b⟩ := x; cases k with
    | zero => exact Nat.le_refl _
    | succ k => have := ih k; rw [List.drop_succ_cons, lenA]; omega

set_option maxRecDepth 100000 in
set_option maxHeartbeats 2000000 in
theorem long_in (n : Nat) (hn : 1 ≤ n) (t : Nd) (v : Value) (w : World) (hr : t.rd w v) (hc : t.wt ≤ 1000000) :
    CallsIn Fence.wide n Try.prog 22 #[v] w (Ret w fun r _ => r = .int .i64 t.lng) := by
  obtain ⟨av, kv, rfl, i0, i1, hl, ht, ⟨aA, ac, rfl, _⟩, ⟨kA, kc, rfl, _⟩⟩ := Nd.rd_open hr
  obtain ⟨w1, hw1⟩ : ∃ w1, (w.alloc (.cells #[.int .u64 t.id, .bool t.leaf, .string t.label, .slice aA t.attrs.length ac, .string t.text, .slice kA t.kids.length kc] 26)).alloc (.cells #[.int .i64 0] 3) = w1 := ⟨_, rfl⟩
  have hE1 : Ext w w1 := by rw [← hw1]; exact ((Ext.refl w).alloc _).alloc _
  have hn1 := nodes_w (n - 1) w1 t _ (Nd.rd_ext hE1 hr)
  have H1 := Lib.hid hw1
  clear hw1
  refine callsIn_of_wp_marks Try.func22 rfl trivial ?_ rfl
  simp only [Try.ntmps22, List.size_toArray, List.length_cons, List.length_nil, Nat.reduceAdd, Nat.reduceSub, Array.replicate_succ, Array.replicate_zero, List.push_toArray, List.append_toArray, List.nil_append, List.cons_append]
  gi_wp2_with (rw [H1.out]; refine ⟨trivial, ?_⟩; gi_at_call 36; refine hn1.mono ?_; clear hn1; rintro e w2 ⟨rfl, rfl⟩)
  have hbx : Boxed w1 (w.heap.size + 1) 3 (.int .i64 0) := by rw [← H1.out]; exact Boxed.new2 _ _ _ _
  refine range_nodes (F := Fence.wide) rfl trivial trivial rfl hn (Bn := w1.heap.size) (t := t) (w₀ := w) rfl hr (hE1.alloc _) (World.alloc_heap_new w1 _) hc
    (fun pre W => Boxed W (w.heap.size + 1) 3 (.int .i64 (maxL (keys pre) : Nat)) ∧ w.heap.size + 1 < W.heap.size) (fun _ _ _ => False) (fun s X Y row hs hg hr => ⟨boxed_own _ _ (fun s => _) s X Y row hs.1 hg hr, Nat.lt_of_lt_of_le hs.2 hg.size⟩) (fun _ _ _ _ _ h _ _ => h) ⟨hbx.alloc _, by simp; have := hbx.lt; omega⟩
    (fun d k vk a' W => ∃ Bk : Nat, (a' = { tmps := #[.agg #[.int .u64 t.id, .bool t.leaf, .string t.label, .slice aA t.attrs.length ac, .string t.text, .slice kA t.kids.length kc], .pointer (some ⟨w.heap.size, 0, none⟩), .int .i64 0,
      .pointer (some ⟨w.heap.size + 1, 0, none⟩), undef, .pointer (some ⟨Bk, 0, none⟩), undef, undef, undef, .agg #[.int .u64 t.id, .bool t.leaf, .string t.label, .slice aA t.attrs.length ac, .string t.text, .slice kA t.kids.length kc], .func (.func 44) #[] #[.pointer (some ⟨w1.heap.size, 0, none⟩)], .int .i64 d, vk,
      undef, undef, undef, undef, undef, undef, undef, undef, undef, undef, undef, undef, undef, undef, undef, undef, undef, undef, undef, undef, undef, undef, undef, undef], defers := [] }) ∧ NBox W Bk 26 vk.cells)
    (fun d k vk a' s X Y row hs hg hr => by obtain ⟨Bk, h⟩ := hs; exact ⟨Bk, NBox.own (β := Unit) (fun _ => _) s X Y row h hg hr⟩) ?assign ?body ?done ?stop
  case assign =>
    intro l pre d k vk W K hk hp hEW hK
    obtain ⟨av', kv', rfl, _, _, _, _, ⟨aA', ac', rfl, _⟩, ⟨kA', kc', rfl, _⟩⟩ := Nd.rd_open hk
    gi_wp2
    exact hK _ _ ((Keep2.refl _ _ _).ext hEW.size ((Ext.refl _).alloc _)) ⟨hp.1.alloc _, by have := hp.2; simp; omega⟩ ⟨_, by simp, NBox.new _ _ _⟩
  case body =>
    rintro l pre d k vk hk hkw a' W ⟨hp, hsz⟩ hEW ⟨Bk, rfl, hbk⟩ hlen
    obtain ⟨av', kv', rfl, _, _, _, htx, ⟨aA', ac', rfl, a1, a2, a3⟩, ⟨kA', kc', rfl, _⟩⟩ := Nd.rd_open hk
    have c3 : W.cell? ⟨Bk, 3, none⟩ = some (.slice aA' k.attrs.length ac') := by rw [hbk.cell]; rfl
    have c4 : W.cell? ⟨Bk, 4, none⟩ = some (.string k.text) := by rw [hbk.cell]; rfl
    unfold maxLen at a2 htx
    have how := Nd.own_wt k
    have hown := Lib.hid (show k.own = k.text.size + lenA k.attrs from rfl)
    have how2 : k.text.size + lenA k.attrs ≤ 1000000 := by have := hown.out; omega
    gi_wp2
    gi_loopw [6, 19] (fun s6 s19 wr => ∃ (i acc : Nat), s19 = .int .i64 i ∧ s6 = .int .i64 acc ∧ i ≤ k.attrs.length ∧ Hid (acc + lenA (k.attrs.drop i) = k.own) ∧ Ext W wr) (fun _ i _ => k.attrs.length - (intOf i).toNat)
    case atStart => exact ⟨0, k.text.size, rfl, rfl, Nat.zero_le _, hown, Ext.refl _⟩
    case round =>
      obtain ⟨i, acc, rfl, rfl, hi, HW, hE⟩ := hrel
      have hacc : acc + lenA (k.attrs.drop i) ≤ 1000000 := by have := HW.out; omega
      rcases Nat.lt_or_ge i k.attrs.length with hlt | hlt
      · obtain ⟨⟨key, val⟩, hx⟩ : ∃ x, k.attrs[i]? = some x := ⟨_, List.getElem?_eq_getElem hlt⟩
        obtain ⟨b, off, rfl, hrd⟩ := a3 (by intro h; rw [h] at hlt; simp at hlt)
        obtain ⟨e1, e2, e3, e4⟩ := rdAttrs_at (rdAttrs_ext (hEW.trans hE) hrd) hx
        have HD := Lib.hid (drop_at hx)
        have hb : acc + (key.size + val.size) ≤ 1000000 := by have := hacc; rw [HD.out, lenA] at this; omega
        clear hx hrd a3
        gi_wp2
        go_roundw
        case rel => exact ⟨i + 1, acc + (key.size + val.size), by go_num, by go_num, by omega, by rw [← HW.out, HD.out, lenA]; simp only [Hid]; omega, hE.alloc _⟩
        case measure => simp [intOf]; omega
      · have HG : Hid (acc = k.own) := by have := HW.out; rw [List.drop_eq_nil_of_le hlt, lenA] at this; exact this
        clear HW hown
        have hb2 := Boxed.ext hE hp
        have hc0 := hb2.cell
        have hf0 := hb2.frozen
        gi_wp2
        all_goals
          refine ⟨((Keep2.refl _ _ _).ext hEW.size hE).box hb2 (by decide) (by omega) _, ?_, by have := hE.size; simp; omega⟩
          rw [keys_append, keys_one, El.of_key, maxL_append]
          have hm : max (maxL (keys pre)) (maxL [(d, k)]) = max (maxL (keys pre)) acc := by rw [HG.out]; simp [maxL]
          rw [hm]
          first | (rw [Nat.max_eq_right (by omega)]; exact hb2.set _) | (rw [Nat.max_eq_left (by omega)]; exact hb2.set _)
  case done =>
    rintro D xs W hD hS ⟨hp, _⟩ hEW hK
    have hc0 := hp.cell
    have hlx : Hid (maxL (keys xs) = t.lng) := by rw [hS, Nd.maxL_pre t 0]; rfl
    clear hS
    gi_wp2
    refine ⟨by simp, .inl ⟨_, _, rfl, run_takeDeferred hK, ?_⟩⟩
    exact ⟨_, results_tmp rfl _ _ _, ret_int (by rw [hlx.out]) (hEW.putObj (by have := hE1.size; simp at hD; omega) _)⟩
  case stop =>
    rintro D c q W _ _ h
    exact h.elim
end Go.Proofs.Ytamkgdkoddoehaa.Bw
