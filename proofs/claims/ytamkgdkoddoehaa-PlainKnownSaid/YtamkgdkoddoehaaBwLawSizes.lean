/- Lemmas and walks for the claims of chapter 06: LawSizes. No conditions beside those that stand in each lemma. -/
import Derived.Test.YtamkgdkoddoehaaBwWorks2
import Derived.Test.YtamkgdkoddoehaaBwWeighWalk
import Derived.Test.YtamkgdkoddoehaaBwRLong
import Derived.Test.YtamkgdkoddoehaaBwIds
import Derived.Deep.RegionHeld3
namespace Go.Proofs.Ytamkgdkoddoehaa.Bw
open Go.RowKit

set_option maxRecDepth 100000 in
set_option maxHeartbeats 2000000 in
theorem lawSizes (t : Nd) (v : Value) (w : World) (hr : t.rd w v) : Calls Try.prog 4 #[v] w (Ret w fun r _ => r = .bool true) := by
  obtain ⟨av, kv, rfl, i0, i1, hl, ht, ⟨aA, ac, rfl, _⟩, ⟨kA, kc, rfl, _⟩⟩ := Nd.rd_open hr
  obtain ⟨w1, hw1⟩ : ∃ w1, w.alloc (.cells #[.int .u64 t.id, .bool t.leaf, .string t.label, .slice aA t.attrs.length ac, .string t.text, .slice kA t.kids.length kc] 26) = w1 := ⟨_, rfl⟩
  have hE1 : Ext w w1 := by rw [← hw1]; exact (Ext.refl w).alloc _
  have hbx : NBox w1 w.heap.size 26 #[.int .u64 t.id, .bool t.leaf, .string t.label, .slice aA t.attrs.length ac, .string t.text, .slice kA t.kids.length kc] := by rw [← hw1]; exact NBox.new _ _ _
  have hwg := weigh_any t.cnt t _ 1000 w1 (Nat.le_refl _) (Nd.rd_ext hE1 hr) (by omega) (by omega)
  have hiff := Nd.weigh_iff t (top := 1000) (by omega)
  have hle := Nd.weigh_le t 1000 (by omega)
  have H1 := Lib.hid hw1
  clear hw1
  rcases Int.lt_or_le 1000 (t.weigh 1000) with h1 | h1
  · clear hiff
    go_enter Try.func4, Try.ntmps4
    go_wp2_with fail
    rw [H1.out]
    refine hwg.mono ?_
    clear hwg
    rintro e w2 ⟨r, rfl, rfl, hE2⟩
    go_wp2_with fail
    refine (works_any w2).mono ?_
    rintro e w3 ⟨r, rfl, rfl, hE3⟩
    go_wp2_with fail
    go_ret
    exact ret_bool (by rfl) ((hE1.trans hE2).trans hE3)
  · have hwt : t.wt ≤ 1000000 := by have := hiff.1 h1; omega
    have hcw := Nd.cnt_wt t
    have hct : t.cnt ≤ 1000000 := by omega
    have hdt : t.dep ≤ 1000000 := by have := Nd.dep_cnt t; omega
    clear hiff hcw
    obtain ⟨n, hn⟩ : ∃ n, t.ids.length = n := ⟨_, rfl⟩
    have hnc : t.cnt = n := by rw [← hn, Nd.ids_len]
    have hn6 : n ≤ 1000000 := by omega
    obtain ⟨m1, hm1⟩ : ∃ m, t.dep = m := ⟨_, rfl⟩
    obtain ⟨m2, hm2⟩ : ∃ m, t.lng = m := ⟨_, rfl⟩
    have Hn := Lib.hid hn
    have Hnc := Lib.hid hnc
    have Hm1 := Lib.hid hm1
    have Hm2 := Lib.hid hm2
    clear hn hnc hm1 hm2
    go_enter Try.func4, Try.ntmps4
    go_wp2_with fail
    rw [H1.out]
    refine hwg.mono ?_
    clear hwg
    rintro e w2 ⟨r, rfl, rfl, hE2⟩
    replace hbx := hbx.ext hE2
    replace hr := Nd.rd_ext (hE1.trans hE2) hr
    have HE := hE1.trans hE2
    clear H1 hE1 hE2
    go_wp2_with fail
    have hc16 : ∀ W, Ext w2 W → Calls Try.prog 16 #[.agg #[.int .u64 t.id, .bool t.leaf, .string t.label, .slice aA t.attrs.length ac, .string t.text, .slice kA t.kids.length kc]] W (Ret W fun r w' => RdS w' 1 n (t.ids.map (Value.int .u64)) r) := fun W h => (ids_any t _ W (Nd.rd_ext h hr) hwt).mono (by
      rintro e W' ⟨r, rfl, ho, hE⟩
      rw [Hn.out] at ho
      exact ⟨r, rfl, RdS.of_owns ho, hE⟩)
    have hc17 : ∀ W, Ext w2 W → Calls Try.prog 17 #[.agg #[.int .u64 t.id, .bool t.leaf, .string t.label, .slice aA t.attrs.length ac, .string t.text, .slice kA t.kids.length kc]] W (Ret W fun r w' => RdS w' 1 n (t.ids.map (Value.int .u64)) r) := fun W h => (rids_any t.cnt t _ W (Nat.le_refl _) (Nd.rd_ext h hr) hct).mono (by
      rintro e W' ⟨r, rfl, ho, hE⟩
      rw [Hn.out] at ho
      exact ⟨r, rfl, RdS.of_owns ho, hE⟩)
    go_region_held3 (fun W => Ext w2 W ∧ W.cell? ⟨w.heap.size, 0, none⟩ = some (.int .u64 t.id) ∧ W.cell? ⟨w.heap.size, 1, none⟩ = some (.bool t.leaf) ∧ W.cell? ⟨w.heap.size, 2, none⟩ = some (.string t.label) ∧ W.cell? ⟨w.heap.size, 3, none⟩ = some (.slice aA t.attrs.length ac) ∧ W.cell? ⟨w.heap.size, 4, none⟩ = some (.string t.text) ∧ W.cell? ⟨w.heap.size, 5, none⟩ = some (.slice kA t.kids.length kc)) (first | exact ⟨(Ext.refl w2).drew, hbx.cell 0, hbx.cell 1, hbx.cell 2, hbx.cell 3, hbx.cell 4, hbx.cell 5⟩ | exact ⟨E2, E2.cell (hbx.cell 0), E2.cell (hbx.cell 1), E2.cell (hbx.cell 2), E2.cell (hbx.cell 3), E2.cell (hbx.cell 4), E2.cell (hbx.cell 5)⟩) (first | (go_at_call 16; have hh := ‹Ext w2 _ ∧ _ ∧ _ ∧ _ ∧ _ ∧ _ ∧ _›; refine (hc16 _ hh.1).mono ?_; rintro e u1 ⟨r, rfl, ⟨A1, k1, rfl, p1, p2, p3, p4⟩, hE16⟩; have E2 := Ext.trans hh.1 hE16) | (go_at_call 17; have hh := ‹Ext w2 _ ∧ _ ∧ _ ∧ _ ∧ _ ∧ _ ∧ _›; refine (hc17 _ hh.1).mono ?_; rintro e u2 ⟨r, rfl, ⟨A2, k2, rfl, q1, q2, q3, q4⟩, hE17⟩; have E2 := Ext.trans hh.1 hE17))
    clear hc16 hc17
    have E2k := ‹Ext w2 _ ∧ _ ∧ _ ∧ _ ∧ _ ∧ _ ∧ _›.1
    have p4' : 0 < n → ∃ b off, A1 = some ⟨b, off, none⟩ ∧ ∀ j u, (t.ids.map (Value.int .u64))[j]? = some u → u2.cell? ⟨b, off + j, none⟩ = some u := fun h => by
      obtain ⟨b, off, e1, e2⟩ := p4 h
      exact ⟨b, off, e1, fun j u hj => hE17.cell (e2 j u hj)⟩
    clear p4 p1 q1
    unfold maxLen at p3 q3
    go_wp2_with fail
    go_loopw [5] (fun s5 wr => ∃ (k : Nat), s5 = .int .i64 k ∧ k ≤ n ∧ Ext u2 wr) (fun i _ => n - (intOf i).toNat)
    case atStart => exact ⟨0, rfl, Nat.zero_le _, Ext.refl _⟩
    case round =>
      obtain ⟨k, rfl, hk, hX⟩ := hrel
      rcases Nat.lt_or_ge k n with hlt | hlt
      · obtain ⟨z, hz⟩ : ∃ z, t.ids[k]? = some z := ⟨_, List.getElem?_eq_getElem (by rw [Hn.out]; exact hlt)⟩
        obtain ⟨b1, o1, rfl, f1⟩ := p4' (by omega)
        obtain ⟨b2, o2, rfl, f2⟩ := q4 (by omega)
        have g1 := hX.cell (f1 k (.int .u64 z) (by rw [List.getElem?_map, hz]; rfl))
        have g2 := hX.cell (f2 k (.int .u64 z) (by rw [List.getElem?_map, hz]; rfl))
        clear hz f1 f2 p4' q4
        have zz : (z != z) = false := by simp
        go_wp2_with fail
        go_quiet (fail)
        go_wp2_with fail
        go_roundw
        case rel => exact ⟨k + 1, by go_num, by omega, hX.drewN _⟩
        case measure => simp [intOf]; omega
      · clear p4' q4
        go_wp2_with fail
        have hbr := hbx.ext (E2k.trans hX)
        have hrr := Nd.rd_ext (E2k.trans hX) hr
        have HEr := HE.trans (E2k.trans hX)
        replace hbx := hbr
        have hc18 : ∀ W, Ext wr W → Calls Try.prog 18 #[.agg #[.int .u64 t.id, .bool t.leaf, .string t.label, .slice aA t.attrs.length ac, .string t.text, .slice kA t.kids.length kc]] W (Ret W fun r _ => r = .int .i64 (n : Nat)) := fun W h => by
          have := count_any t _ W (Nd.rd_ext h hrr) hwt
          rw [Hnc.out] at this
          exact this
        have hc19 : ∀ W, Ext wr W → Calls Try.prog 19 #[.agg #[.int .u64 t.id, .bool t.leaf, .string t.label, .slice aA t.attrs.length ac, .string t.text, .slice kA t.kids.length kc]] W (Ret W fun r _ => r = .int .i64 (n : Nat)) := fun W h => by
          have := rcount_any t.cnt t _ W (Nat.le_refl _) (Nd.rd_ext h hrr) hct
          rw [Hnc.out] at this
          exact this
        have hc20 : ∀ W, Ext wr W → Calls Try.prog 20 #[.agg #[.int .u64 t.id, .bool t.leaf, .string t.label, .slice aA t.attrs.length ac, .string t.text, .slice kA t.kids.length kc]] W (Ret W fun r _ => r = .int .i64 (m1 : Nat)) := fun W h => by
          have := depth_any t _ W (Nd.rd_ext h hrr) hwt
          rw [Hm1.out] at this
          exact this
        have hc21 : ∀ W, Ext wr W → Calls Try.prog 21 #[.agg #[.int .u64 t.id, .bool t.leaf, .string t.label, .slice aA t.attrs.length ac, .string t.text, .slice kA t.kids.length kc]] W (Ret W fun r _ => r = .int .i64 (m1 : Nat)) := fun W h => by
          have := rdepth_any t.cnt t _ W (Nat.le_refl _) (Nd.rd_ext h hrr) hdt
          rw [Hm1.out] at this
          exact this
        have hc22 : ∀ W, Ext wr W → Calls Try.prog 22 #[.agg #[.int .u64 t.id, .bool t.leaf, .string t.label, .slice aA t.attrs.length ac, .string t.text, .slice kA t.kids.length kc]] W (Ret W fun r _ => r = .int .i64 (m2 : Nat)) := fun W h => by
          have := long_any t _ W (Nd.rd_ext h hrr) hwt
          rw [Hm2.out] at this
          exact this
        have hc23 : ∀ W, Ext wr W → Calls Try.prog 23 #[.agg #[.int .u64 t.id, .bool t.leaf, .string t.label, .slice aA t.attrs.length ac, .string t.text, .slice kA t.kids.length kc]] W (Ret W fun r _ => r = .int .i64 (m2 : Nat)) := fun W h => by
          have := rlong_any t.cnt t _ W (Nat.le_refl _) (Nd.rd_ext h hrr) hwt
          rw [Hm2.out] at this
          exact this
        have hc11 : ∀ W, Ext wr W → Calls Try.prog 11 #[] W (Ret W fun r _ => r = .bool true) := fun W h => works_any W
        clear Hn Hnc Hm1 Hm2 E2k hX
        go_region_held3 (fun W => Ext wr W ∧ W.cell? ⟨w.heap.size, 0, none⟩ = some (.int .u64 t.id) ∧ W.cell? ⟨w.heap.size, 1, none⟩ = some (.bool t.leaf) ∧ W.cell? ⟨w.heap.size, 2, none⟩ = some (.string t.label) ∧ W.cell? ⟨w.heap.size, 3, none⟩ = some (.slice aA t.attrs.length ac) ∧ W.cell? ⟨w.heap.size, 4, none⟩ = some (.string t.text) ∧ W.cell? ⟨w.heap.size, 5, none⟩ = some (.slice kA t.kids.length kc)) (first | exact ⟨(Ext.refl wr).drew, hbx.cell 0, hbx.cell 1, hbx.cell 2, hbx.cell 3, hbx.cell 4, hbx.cell 5⟩ | exact ⟨E2, E2.cell (hbx.cell 0), E2.cell (hbx.cell 1), E2.cell (hbx.cell 2), E2.cell (hbx.cell 3), E2.cell (hbx.cell 4), E2.cell (hbx.cell 5)⟩) (first | (go_at_call 18; have hh := ‹Ext wr _ ∧ _ ∧ _ ∧ _ ∧ _ ∧ _ ∧ _›; refine (hc18 _ hh.1).mono ?_; rintro e u ⟨r, rfl, rfl, hE⟩; have E2 := Ext.trans hh.1 hE; clear hE) | (go_at_call 19; have hh := ‹Ext wr _ ∧ _ ∧ _ ∧ _ ∧ _ ∧ _ ∧ _›; refine (hc19 _ hh.1).mono ?_; rintro e u ⟨r, rfl, rfl, hE⟩; have E2 := Ext.trans hh.1 hE; clear hE) | (go_at_call 20; have hh := ‹Ext wr _ ∧ _ ∧ _ ∧ _ ∧ _ ∧ _ ∧ _›; refine (hc20 _ hh.1).mono ?_; rintro e u ⟨r, rfl, rfl, hE⟩; have E2 := Ext.trans hh.1 hE; clear hE) | (go_at_call 21; have hh := ‹Ext wr _ ∧ _ ∧ _ ∧ _ ∧ _ ∧ _ ∧ _›; refine (hc21 _ hh.1).mono ?_; rintro e u ⟨r, rfl, rfl, hE⟩; have E2 := Ext.trans hh.1 hE; clear hE) | (go_at_call 22; have hh := ‹Ext wr _ ∧ _ ∧ _ ∧ _ ∧ _ ∧ _ ∧ _›; refine (hc22 _ hh.1).mono ?_; rintro e u ⟨r, rfl, rfl, hE⟩; have E2 := Ext.trans hh.1 hE; clear hE) | (go_at_call 23; have hh := ‹Ext wr _ ∧ _ ∧ _ ∧ _ ∧ _ ∧ _ ∧ _›; refine (hc23 _ hh.1).mono ?_; rintro e u ⟨r, rfl, rfl, hE⟩; have E2 := Ext.trans hh.1 hE; clear hE) | (go_at_call 11; have hh := ‹Ext wr _ ∧ _ ∧ _ ∧ _ ∧ _ ∧ _ ∧ _›; refine (hc11 _ hh.1).mono ?_; rintro e u ⟨r, rfl, rfl, hE⟩; have E2 := Ext.trans hh.1 hE; clear hE))
        go_wp2_with fail
        go_ret
        exact ret_bool (by rfl) (HEr.trans ‹Ext wr _ ∧ _ ∧ _ ∧ _ ∧ _ ∧ _ ∧ _›.1)
end Go.Proofs.Ytamkgdkoddoehaa.Bw
