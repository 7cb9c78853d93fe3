/- Lemmas and walks for the claims of chapter 06: LawRight. No conditions beside those that stand in each lemma. -/
import Derived.Test.YtamkgdkoddoehaaBwWorks2
import Derived.Test.YtamkgdkoddoehaaBwWeighWalk
import Derived.Deep.RegionHeld3
namespace Go.Proofs.Ytamkgdkoddoehaa.Bw
open Go.RowKit

set_option maxRecDepth 100000 in
set_option maxHeartbeats 1000000 in
theorem lawRight (t : Nd) (v : Value) (s : ByteArray) (w : World) (hr : t.rd w v) (hs : s.size ≤ maxLen) : Calls Try.prog 3 #[v, .string s] w (Ret w fun r _ => r = .bool true) := by
  obtain ⟨av, kv, rfl, i0, i1, hl, ht, ⟨aA, ac, rfl, _⟩, ⟨kA, kc, rfl, _⟩⟩ := Nd.rd_open hr
  obtain ⟨w1, hw1⟩ : ∃ w1, w.alloc (.cells #[.int .u64 t.id, .bool t.leaf, .string t.label, .slice aA t.attrs.length ac, .string t.text, .slice kA t.kids.length kc] 26) = w1 := ⟨_, rfl⟩
  have hE1 : Ext w w1 := by rw [← hw1]; exact (Ext.refl w).alloc _
  have hbx : NBox w1 w.heap.size 26 #[.int .u64 t.id, .bool t.leaf, .string t.label, .slice aA t.attrs.length ac, .string t.text, .slice kA t.kids.length kc] := by rw [← hw1]; exact NBox.new _ _ _
  have hwg := weigh_any t.cnt t _ 1000 w1 (Nat.le_refl _) (Nd.rd_ext hE1 hr) (by omega) (by omega)
  have hiff := Nd.weigh_iff t (top := 1000) (by omega)
  have hle := Nd.weigh_le t 1000 (by omega)
  have H1 := Lib.hid hw1
  clear hw1
  have hs' := hs
  unfold maxLen at hs'
  rcases Int.lt_or_le 1000 (t.weigh 1000) with h1 | h1
  · clear hiff
    go_enter Try.func3, Try.ntmps3
    go_wp2_with fail
    rw [H1.out]
    refine hwg.mono ?_
    clear hwg
    rintro e w2 ⟨r, rfl, rfl, hE2⟩
    go_wp2_with fail
    refine (works_any w2).mono ?_
    rintro e w3 ⟨r, rfl, rfl, hE3⟩
    go_wp2_with fail
    go_ret
    exact ret_bool (by rfl) ((hE1.trans hE2).trans hE3)
  · have hwt : t.wt ≤ 1000000 := by have := hiff.1 h1; omega
    clear hiff
    rcases Nat.lt_or_ge 500 s.size with h2 | h2
    · go_enter Try.func3, Try.ntmps3
      go_wp2_with fail
      rw [H1.out]
      refine hwg.mono ?_
      clear hwg
      rintro e w2 ⟨r, rfl, rfl, hE2⟩
      go_wp2_with fail
      refine (works_any w2).mono ?_
      rintro e w3 ⟨r, rfl, rfl, hE3⟩
      go_wp2_with fail
      go_ret
      exact ret_bool (by rfl) ((hE1.trans hE2).trans hE3)
    · go_enter Try.func3, Try.ntmps3
      go_wp2_with fail
      rw [H1.out]
      refine hwg.mono ?_
      clear hwg
      rintro e w2 ⟨r, rfl, rfl, hE2⟩
      replace hbx := hbx.ext hE2
      replace hr := Nd.rd_ext (hE1.trans hE2) hr
      have HE := hE1.trans hE2
      clear H1 hE1 hE2
      go_wp2_with fail
      have hc12 : ∀ W, Ext w2 W → Calls Try.prog 12 #[.agg #[(.int .u64 t.id), (.bool t.leaf), (.string t.label), (.slice aA t.attrs.length ac), (.string t.text), (.slice kA t.kids.length kc)]] W (Ret W fun r _ => r = .bool t.right) := fun W h => right_any t _ W (Nd.rd_ext h hr) hwt
      have hc13 : ∀ W, Ext w2 W → Calls Try.prog 13 #[.agg #[(.int .u64 t.id), (.bool t.leaf), (.string t.label), (.slice aA t.attrs.length ac), (.string t.text), (.slice kA t.kids.length kc)]] W (Ret W fun r _ => r = .bool t.right) := fun W h => rrightTop_any t _ W (Nd.rd_ext h hr)
      have hc14 : ∀ W, Ext w2 W → Calls Try.prog 14 #[.string s] W (Ret W fun r _ => r = .bool (keyOk s)) := fun W h => (key_any s W hs).mono (by rintro e W' ⟨rfl, rfl⟩; exact ⟨_, rfl, rfl, Ext.refl _⟩)
      have hc15 : ∀ W, Ext w2 W → Calls Try.prog 15 #[.string s] W (Ret W fun r _ => r = .bool (keyOk s)) := fun W h => (rkey_any s W hs).mono (by rintro e W' ⟨rfl, rfl⟩; exact ⟨_, rfl, rfl, Ext.refl _⟩)
      have hc11 : ∀ W, Ext w2 W → Calls Try.prog 11 #[] W (Ret W fun r _ => r = .bool true) := fun W h => works_any W
      go_region_held3 (fun W => Ext w2 W ∧ W.cell? ⟨w.heap.size, 0, none⟩ = some (.int .u64 t.id) ∧ W.cell? ⟨w.heap.size, 1, none⟩ = some (.bool t.leaf) ∧ W.cell? ⟨w.heap.size, 2, none⟩ = some (.string t.label) ∧ W.cell? ⟨w.heap.size, 3, none⟩ = some (.slice aA t.attrs.length ac) ∧ W.cell? ⟨w.heap.size, 4, none⟩ = some (.string t.text) ∧ W.cell? ⟨w.heap.size, 5, none⟩ = some (.slice kA t.kids.length kc)) (first | exact ⟨(Ext.refl w2).drew, hbx.cell 0, hbx.cell 1, hbx.cell 2, hbx.cell 3, hbx.cell 4, hbx.cell 5⟩ | exact ⟨E2, E2.cell (hbx.cell 0), E2.cell (hbx.cell 1), E2.cell (hbx.cell 2), E2.cell (hbx.cell 3), E2.cell (hbx.cell 4), E2.cell (hbx.cell 5)⟩) (first | (go_at_call 12; have hh := ‹Ext w2 _ ∧ _ ∧ _ ∧ _ ∧ _ ∧ _ ∧ _›; refine (hc12 _ hh.1).mono ?_; rintro e u ⟨r, rfl, rfl, hE⟩; have E2 := Ext.trans hh.1 hE; clear hE) | (go_at_call 13; have hh := ‹Ext w2 _ ∧ _ ∧ _ ∧ _ ∧ _ ∧ _ ∧ _›; refine (hc13 _ hh.1).mono ?_; rintro e u ⟨r, rfl, rfl, hE⟩; have E2 := Ext.trans hh.1 hE; clear hE) | (go_at_call 14; have hh := ‹Ext w2 _ ∧ _ ∧ _ ∧ _ ∧ _ ∧ _ ∧ _›; refine (hc14 _ hh.1).mono ?_; rintro e u ⟨r, rfl, rfl, hE⟩; have E2 := Ext.trans hh.1 hE; clear hE) | (go_at_call 15; have hh := ‹Ext w2 _ ∧ _ ∧ _ ∧ _ ∧ _ ∧ _ ∧ _›; refine (hc15 _ hh.1).mono ?_; rintro e u ⟨r, rfl, rfl, hE⟩; have E2 := Ext.trans hh.1 hE; clear hE) | (go_at_call 11; have hh := ‹Ext w2 _ ∧ _ ∧ _ ∧ _ ∧ _ ∧ _ ∧ _›; refine (hc11 _ hh.1).mono ?_; rintro e u ⟨r, rfl, rfl, hE⟩; have E2 := Ext.trans hh.1 hE; clear hE))
      go_wp2_with fail
      go_ret
      exact ret_bool (by rfl) (HE.trans ‹Ext w2 _ ∧ _ ∧ _ ∧ _ ∧ _ ∧ _ ∧ _›.1)
end Go.Proofs.Ytamkgdkoddoehaa.Bw
