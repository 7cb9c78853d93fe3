/- Lemmas and walks for the claims of chapter 06: Same2. No conditions beside those that stand in each lemma. -/
import Derived.Test.YtamkgdkoddoehaaBwSame
namespace Go.Proofs.Ytamkgdkoddoehaa.Bw
open Go.RowKit

/-- What 'same' asks of two nodes themselves. -/
theorem same_id {a b : Nd} (h : a.id ≠ b.id) : a.same true b = false := by rw [Nd.same_eq, decide_eq_false h]; rfl
theorem same_leaf {i : Bool} {a b : Nd} (h : a.leaf ≠ b.leaf) : a.same i b = false := by rw [Nd.same_eq, decide_eq_false h]; simp
theorem same_label {i : Bool} {a b : Nd} (h : a.label ≠ b.label) : a.same i b = false := by rw [Nd.same_eq, decide_eq_false h]; simp
theorem same_text {i : Bool} {a b : Nd} (h : a.text ≠ b.text) : a.same i b = false := by rw [Nd.same_eq, decide_eq_false h]; simp
theorem same_attrs {i : Bool} {a b : Nd} (h : sameA a.attrs b.attrs = false) : a.same i b = false := by rw [Nd.same_eq, h]; simp
theorem same_kids {i : Bool} {a b : Nd} (h0 : i = true → a.id = b.id) (h1 : a.leaf = b.leaf) (h2 : a.label = b.label) (h3 : a.text = b.text) (h4 : sameA a.attrs b.attrs = true) : a.same i b = sameK i a.kids b.kids := by
  rw [Nd.same_eq, decide_eq_true h1, decide_eq_true h2, decide_eq_true h3, h4]
  cases i with
  | false => simp
  | true => rw [decide_eq_true (h0 rfl)]; simp

theorem cells_new (w : World) (cs : Array Value) (t : TypeId) (j : Nat) (v : Value) (h : cs[j]? = some v) : (w.alloc (.cells cs t)).cell? ⟨w.heap.size, j, none⟩ = some v :=
  (cell_of_blk (World.alloc_heap_new w _)).trans h
theorem cells_new3 (w : World) (o1 o2 : Obj) (cs : Array Value) (t : TypeId) (j : Nat) (v : Value) (h : cs[j]? = some v) : (((w.alloc o1).alloc o2).alloc (.cells cs t)).cell? ⟨w.heap.size + 1 + 1, j, none⟩ = some v := by
  have := cells_new ((w.alloc o1).alloc o2) cs t j v h
  rwa [World.size_alloc, World.size_alloc] at this

set_option maxRecDepth 100000 in
set_option maxHeartbeats 2000000 in
theorem same_any (N : Nat) : ∀ (i : Bool) (a b : Nd) (u v : Value) (w : World), a.cnt ≤ N → a.rd w u → b.rd w v → Calls Try.prog 43 #[u, v, .bool i] w (Ret w fun r _ => r = .bool (a.same i b)) := by
  induction N with
  | zero => intro i a b u v w h; rw [Nd.cnt_eq] at h; omega
  | succ N ih =>
    intro i a b u v w hN ha hb
    obtain ⟨av, kv, rfl, i0, i1, hl, ht, hA, hK⟩ := Nd.rd_open ha
    obtain ⟨bv, lv, rfl, j0, j1, gl, gt, hB, hL⟩ := Nd.rd_open hb
    obtain ⟨w0, hw0⟩ : ∃ w0, ((w.alloc (.cells #[.int .u64 a.id, .bool a.leaf, .string a.label, av, .string a.text, kv] 26)).alloc (.cells #[.int .u64 b.id, .bool b.leaf, .string b.label, bv, .string b.text, lv] 26)).alloc (.cells #[.bool i] 4) = w0 := ⟨_, rfl⟩
    have hE0 : Ext w w0 := by rw [← hw0]; exact (((Ext.refl w).alloc _).alloc _).alloc _
    have hbx : w0.cell? ⟨w.heap.size + 1 + 1, 0, none⟩ = some (.bool i) := by rw [← hw0]; exact cells_new3 _ _ _ _ _ _ _ rfl
    have ca5 : w0.cell? ⟨w.heap.size, 5, none⟩ = some kv := by rw [← hw0]; exact Ext.cell (((Ext.refl _).alloc _).alloc _) (cells_new w _ _ 5 _ rfl)
    have cb5 : w0.cell? ⟨w.heap.size + 1, 5, none⟩ = some lv := by rw [← hw0]; exact Ext.cell ((Ext.refl _).alloc _) (by have := cells_new (w.alloc (.cells #[.int .u64 a.id, .bool a.leaf, .string a.label, av, .string a.text, kv] 26)) #[.int .u64 b.id, .bool b.leaf, .string b.label, bv, .string b.text, lv] 26 5 lv rfl; rwa [World.size_alloc] at this)
    have hq1 := eqA_any a.attrs b.attrs av bv w0 (hA.ext hE0) (hB.ext hE0)
    have hclo : ∀ (x y : Nd) (vx vy : Value) (W : World), x ∈ a.kids → x.rd W vx → y.rd W vy → Ext w0 W → Calls Try.prog 48 #[vx, vy, .pointer (some ⟨w.heap.size + 1 + 1, 0, none⟩)] W (Ret W fun r _ => r = .bool (x.same i y)) := by
      intro x y vx vy W hx rx ry hE
      have hcx : x.cnt ≤ N := by have := cntK_mem hx; rw [Nd.cnt_eq a] at hN; omega
      obtain ⟨xav, xkv, rfl, _, _, _, _, ⟨xA, xa, rfl, _⟩, ⟨xK, xk, rfl, _⟩⟩ := Nd.rd_open rx
      obtain ⟨yav, ykv, rfl, _, _, _, _, ⟨yA, ya, rfl, _⟩, ⟨yK, yk, rfl, _⟩⟩ := Nd.rd_open ry
      have hbW := hE.cell hbx
      obtain ⟨W1, hW1⟩ : ∃ W1, (W.alloc (.cells #[.int .u64 x.id, .bool x.leaf, .string x.label, .slice xA x.attrs.length xa, .string x.text, .slice xK x.kids.length xk] 26)).alloc (.cells #[.int .u64 y.id, .bool y.leaf, .string y.label, .slice yA y.attrs.length ya, .string y.text, .slice yK y.kids.length yk] 26) = W1 := ⟨_, rfl⟩
      have hE1 : Ext W W1 := by rw [← hW1]; exact ((Ext.refl _).alloc _).alloc _
      have h1 := ih i x y _ _ W1 hcx (Nd.rd_ext hE1 rx) (Nd.rd_ext hE1 ry)
      have hbW1 := hE1.cell hbW
      rw [← hW1] at hbW1
      have H1 := Lib.hid hW1
      clear hW1 ih hq1
      go_enter Try.func48, Try.ntmps48
      go_wp2_with (rw [H1.out]; go_at_call 43; refine h1.mono ?_; rintro e w1 ⟨r, rfl, rfl, hE2⟩)
      go_ret
      exact ret_bool rfl (hE1.trans hE2)
    have hq2 := fun W (hE : Ext w0 W) => eqF_any i a.kids b.kids kv lv W (w.heap.size + 1 + 1) (hK.ext (hE0.trans hE)) (hL.ext (hE0.trans hE)) (fun x y vx vy W' hx rx ry hE' => hclo x y vx vy W' hx rx ry (hE.trans hE'))
    have H0 := Lib.hid hw0
    have HQ := Lib.hid hq2
    clear hq2 hclo ih hw0 hbx
    obtain ⟨aA, ac, rfl, _⟩ := hA
    obtain ⟨kA, kc, rfl, _⟩ := hK
    obtain ⟨bA, bc, rfl, _⟩ := hB
    obtain ⟨lA, lc, rfl, _⟩ := hL
    have hid : (i = false) ∨ (i = true ∧ a.id = b.id) ∨ (i = true ∧ a.id ≠ b.id) := by cases i <;> simp; exact Decidable.em _
    rcases hid with rfl | ⟨rfl, hi⟩ | ⟨rfl, hi⟩
    case inr.inr =>
      have HF := Lib.hid (same_id hi)
      have hd : (a.id == b.id) = false := beq_eq_false_iff_ne.2 hi
      clear hi HQ hq1
      go_enter Try.func43, Try.ntmps43
      go_wp2_with fail
      go_ret
      exact ret_bool HF.out.symm ((((Ext.refl w).alloc _).alloc _).alloc _)
    case' inl => have h0 : Hid (false = true → a.id = b.id) := fun h => by cases h
    case' inr.inl =>
      have h0 : Hid (true = true → a.id = b.id) := fun _ => hi
      have hd : (a.id == b.id) = true := beq_iff_eq.2 hi
      clear hi
    all_goals
      by_cases h1 : a.leaf = b.leaf
      case neg =>
        have HF := Lib.hid (fun i => same_leaf (i := i) h1)
        have hd1 : (a.leaf == b.leaf) = false := beq_eq_false_iff_ne.2 h1
        clear h1 HQ hq1
        go_enter Try.func43, Try.ntmps43
        go_wp2_with fail
        go_ret
        exact ret_bool (HF.out _).symm ((((Ext.refl w).alloc _).alloc _).alloc _)
      have hd1 : (a.leaf == b.leaf) = true := beq_iff_eq.2 h1
      replace h1 := Lib.hid h1
      by_cases h2 : a.label = b.label
      case neg =>
        have HF := Lib.hid (fun i => same_label (i := i) h2)
        have hd2 := beq_str_no h2
        clear h2 HQ hq1
        go_enter Try.func43, Try.ntmps43
        go_wp2_with fail
        go_ret
        exact ret_bool (HF.out _).symm ((((Ext.refl w).alloc _).alloc _).alloc _)
      have hd2 := beq_str_yes h2
      replace h2 := Lib.hid h2
      by_cases h3 : a.text = b.text
      case neg =>
        have HF := Lib.hid (fun i => same_text (i := i) h3)
        have hd3 := beq_str_no h3
        clear h3 HQ hq1
        go_enter Try.func43, Try.ntmps43
        go_wp2_with fail
        go_ret
        exact ret_bool (HF.out _).symm ((((Ext.refl w).alloc _).alloc _).alloc _)
      have hd3 := beq_str_yes h3
      replace h3 := Lib.hid h3
      rcases hsa : sameA a.attrs b.attrs with _ | _
      · have HF := Lib.hid (fun i => same_attrs (i := i) hsa)
        rw [hsa] at hq1
        clear hsa HQ
        go_enter Try.func43, Try.ntmps43
        go_wp2_with (rw [H0.out]; go_at_call 46; refine hq1.mono ?_; rintro e w1 ⟨r, rfl, rfl, hE1⟩)
        go_ret
        exact ret_bool (HF.out _).symm (hE0.trans hE1)
      · have HF := Lib.hid (same_kids h0.out h1.out h2.out h3.out hsa)
        rw [hsa] at hq1
        clear hsa
        go_enter Try.func43, Try.ntmps43
        go_wp2_with (first
          | (rw [H0.out]; clear H0; go_at_call 46; refine hq1.mono ?_; rintro e w1 ⟨r, rfl, rfl, hE1⟩; have ca6 := hE1.cell ca5; have cb6 := hE1.cell cb5)
          | (go_at_call 47; refine (HQ.out _ hE1).mono ?_; rintro e w2 ⟨r, rfl, rfl, hE2⟩))
        go_ret
        exact ret_bool HF.out.symm (hE0.trans (hE1.trans hE2))

set_option maxHeartbeats 400000 in
theorem Same_any (a b : Nd) (u v : Value) (w : World) (ha : a.rd w u) (hb : b.rd w v) : Calls Try.prog 31 #[u, v] w (Ret w fun r _ => r = .bool (a.same true b)) := by
  obtain ⟨av, kv, rfl, _, _, _, _, ⟨aA, ac, rfl, _⟩, ⟨kA, kc, rfl, _⟩⟩ := Nd.rd_open ha
  obtain ⟨bv, lv, rfl, _, _, _, _, ⟨bA, bc, rfl, _⟩, ⟨lA, lc, rfl, _⟩⟩ := Nd.rd_open hb
  have hE := ((Ext.refl w).alloc (.cells #[.int .u64 a.id, .bool a.leaf, .string a.label, .slice aA a.attrs.length ac, .string a.text, .slice kA a.kids.length kc] 26)).alloc (.cells #[.int .u64 b.id, .bool b.leaf, .string b.label, .slice bA b.attrs.length bc, .string b.text, .slice lA b.kids.length lc] 26)
  have h := same_any a.cnt true a b _ _ _ (Nat.le_refl _) (Nd.rd_ext hE ha) (Nd.rd_ext hE hb)
  go_enter Try.func31, Try.ntmps31
  go_wp2_with (go_at_call 43; refine h.mono ?_; rintro e w1 ⟨r, rfl, rfl, hE1⟩)
  go_ret
  exact ret_bool rfl (hE.trans hE1)
set_option maxHeartbeats 400000 in
theorem Alike_any (a b : Nd) (u v : Value) (w : World) (ha : a.rd w u) (hb : b.rd w v) : Calls Try.prog 32 #[u, v] w (Ret w fun r _ => r = .bool (a.same false b)) := by
  obtain ⟨av, kv, rfl, _, _, _, _, ⟨aA, ac, rfl, _⟩, ⟨kA, kc, rfl, _⟩⟩ := Nd.rd_open ha
  obtain ⟨bv, lv, rfl, _, _, _, _, ⟨bA, bc, rfl, _⟩, ⟨lA, lc, rfl, _⟩⟩ := Nd.rd_open hb
  have hE := ((Ext.refl w).alloc (.cells #[.int .u64 a.id, .bool a.leaf, .string a.label, .slice aA a.attrs.length ac, .string a.text, .slice kA a.kids.length kc] 26)).alloc (.cells #[.int .u64 b.id, .bool b.leaf, .string b.label, .slice bA b.attrs.length bc, .string b.text, .slice lA b.kids.length lc] 26)
  have h := same_any a.cnt false a b _ _ _ (Nat.le_refl _) (Nd.rd_ext hE ha) (Nd.rd_ext hE hb)
  go_enter Try.func32, Try.ntmps32
  go_wp2_with (go_at_call 43; refine h.mono ?_; rintro e w1 ⟨r, rfl, rfl, hE1⟩)
  go_ret
  exact ret_bool rfl (hE.trans hE1)
end Go.Proofs.Ytamkgdkoddoehaa.Bw
