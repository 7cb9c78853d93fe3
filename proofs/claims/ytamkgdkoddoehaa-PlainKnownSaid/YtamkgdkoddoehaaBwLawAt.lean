/- Lemmas and walks for the claims of chapter 06: LawAt. No conditions beside those that stand in each lemma. -/
import Derived.Test.YtamkgdkoddoehaaBwWorks2
import Derived.Test.YtamkgdkoddoehaaBwWeighWalk
import Derived.Test.YtamkgdkoddoehaaBwRSame
import Derived.Test.YtamkgdkoddoehaaBwSame2
import Derived.Test.YtamkgdkoddoehaaBwRPut
import Derived.Test.YtamkgdkoddoehaaBwIds
import Derived.Test.YtamkgdkoddoehaaBwRAt
namespace Go.Proofs.Ytamkgdkoddoehaa.Bw
open Go.RowKit

theorem rsame_aa (a : Nd) (u v : Value) (w : World) (ha : a.rd w u) (hb : a.rd w v) : Calls Try.prog 30 #[u, v] w (Ret w fun r _ => r = .bool true) := by
  have := rsame_any a.cnt a a u v w (Nat.le_refl _) ha hb
  rw [Nd.same_refl] at this
  exact this
theorem RdO.open {w : World} {o : Option Nd} {r : Value} (h : RdO w o r) {z : Nd} {bb : Bool} (hz : o.getD Nd.zero = z) (hb : o.isSome = bb) :
    ∃ aA ac kA kc, r = .tuple #[.agg #[.int .u64 z.id, .bool z.leaf, .string z.label, .slice aA z.attrs.length ac, .string z.text, .slice kA z.kids.length kc], .bool bb] ∧
      z.rd w (.agg #[.int .u64 z.id, .bool z.leaf, .string z.label, .slice aA z.attrs.length ac, .string z.text, .slice kA z.kids.length kc]) := by
  subst hz hb
  obtain ⟨v, rfl, hv⟩ := h
  have hv0 := hv
  obtain ⟨av, kv, rfl, _, _, _, _, ⟨aA, ac, rfl, _⟩, ⟨kA, kc, rfl, _⟩⟩ := Nd.rd_open hv
  exact ⟨aA, ac, kA, kc, rfl, hv0⟩

set_option maxRecDepth 100000 in
set_option maxHeartbeats 4000000 in
theorem lawAt (t x : Nd) (v xv : Value) (p : List Int) (q : Value) (w : World) (ht : t.rd w v) (hx : x.rd w xv) (hq : RdS w 1 p.length (p.map (Value.int .i64)) q) : Calls Try.prog 6 #[v, q, xv] w (Ret w fun r _ => r = .bool true) := by
  have ht0 := ht
  have hx0 := hx
  have hq0 := hq
  obtain ⟨A, qc, rfl, _, q2, q3, q4⟩ := hq0
  obtain ⟨av, kv, rfl, _, _, _, _, ⟨nA, nc, rfl, _⟩, ⟨nK, nd, rfl, _⟩⟩ := Nd.rd_open ht
  obtain ⟨xav, xkv, rfl, _, _, _, _, ⟨xA, xc, rfl, _⟩, ⟨xK, xd, rfl, _⟩⟩ := Nd.rd_open hx
  unfold maxLen at q3
  obtain ⟨w1, hw1⟩ : ∃ w1, (w.alloc (.cells #[.int .u64 t.id, .bool t.leaf, .string t.label, .slice nA t.attrs.length nc, .string t.text, .slice nK t.kids.length nd] 26)).alloc (.cells #[.int .u64 x.id, .bool x.leaf, .string x.label, .slice xA x.attrs.length xc, .string x.text, .slice xK x.kids.length xd] 26) = w1 := ⟨_, rfl⟩
  have hE1 : Ext w w1 := by rw [← hw1]; exact ((Ext.refl w).alloc _).alloc _
  have hbn : NBox w1 w.heap.size 26 #[.int .u64 t.id, .bool t.leaf, .string t.label, .slice nA t.attrs.length nc, .string t.text, .slice nK t.kids.length nd] := by rw [← hw1]; exact NBox.ext ((Ext.refl _).alloc _) (NBox.new _ _ _)
  have hbx : NBox w1 (w.heap.size + 1) 26 #[.int .u64 x.id, .bool x.leaf, .string x.label, .slice xA x.attrs.length xc, .string x.text, .slice xK x.kids.length xd] := by rw [← hw1]; simpa using NBox.new (w.alloc (.cells #[.int .u64 t.id, .bool t.leaf, .string t.label, .slice nA t.attrs.length nc, .string t.text, .slice nK t.kids.length nd] 26)) 26 #[.int .u64 x.id, .bool x.leaf, .string x.label, .slice xA x.attrs.length xc, .string x.text, .slice xK x.kids.length xd]
  have hwa := weigh_any t.cnt t _ 600 w1 (Nat.le_refl _) (Nd.rd_ext hE1 ht) (by omega) (by omega)
  have hla := Nd.weigh_le t 600 (by omega)
  have hlb := Nd.weigh_le x 600 (by omega)
  have hia := Nd.weigh_iff t (top := 600) (by omega)
  have hib := Nd.weigh_iff x (top := 600) (by omega)
  have H1 := Lib.hid hw1
  clear hw1 q4 hx0 ht0
  go_enter Try.func6, Try.ntmps6
  rcases Int.lt_or_le 600 (t.weigh 600) with h1 | h1
  · clear hia hib
    go_wp2_with fail
    rw [H1.out]
    refine hwa.mono ?_
    clear hwa
    rintro e w2 ⟨r, rfl, rfl, hE2⟩
    go_wp2_with fail
    refine (works_any w2).mono ?_
    rintro e w9 ⟨r, rfl, rfl, hE9⟩
    go_wp2_with fail
    go_ret
    exact ret_bool (by rfl) ((hE1.trans hE2).trans hE9)
  have hta : t.wt ≤ 600 := by have := hia.1 h1; omega
  clear hia
  go_wp2_with fail
  rw [H1.out]
  refine hwa.mono ?_
  clear hwa
  rintro e w0 ⟨r, rfl, rfl, hE2⟩
  replace hbn := hbn.ext hE2
  replace hbx := hbx.ext hE2
  have HE := hE1.trans hE2
  replace ht := Nd.rd_ext HE ht
  replace hx := Nd.rd_ext HE hx
  replace hq := hq.ext HE
  clear H1 hE1 hE2
  have hwb := weigh_any x.cnt x _ 600 w0 (Nat.le_refl _) hx (by omega) (by omega)
  obtain ⟨e0, e1, e2, e3, e4, e5⟩ := NBox.six hbx
  rcases Int.lt_or_le 600 (x.weigh 600) with h2 | h2
  · clear hib
    go_wp2_with fail
    refine hwb.mono ?_
    clear hwb e0 e1 e2 e3 e4 e5
    rintro e w2 ⟨r, rfl, rfl, hE2⟩
    go_wp2_with fail
    refine (works_any w2).mono ?_
    rintro e w9 ⟨r, rfl, rfl, hE9⟩
    go_wp2_with fail
    go_ret
    exact ret_bool (by rfl) ((HE.trans hE2).trans hE9)
  have htx : x.wt ≤ 600 := by have := hib.1 h2; omega
  clear hib
  rcases Int.lt_or_le 100 p.length with h3 | h3
  · go_wp2_with fail
    refine hwb.mono ?_
    clear hwb e0 e1 e2 e3 e4 e5
    rintro e w2 ⟨r, rfl, rfl, hE2⟩
    go_wp2_with fail
    refine (works_any w2).mono ?_
    rintro e w9 ⟨r, rfl, rfl, hE9⟩
    go_wp2_with fail
    go_ret
    exact ret_bool (by rfl) ((HE.trans hE2).trans hE9)
  go_wp2_with fail
  refine hwb.mono ?_
  clear hwb e0 e1 e2 e3 e4 e5
  rintro e W0 ⟨r, rfl, rfl, hE2⟩
  replace hbn := hbn.ext hE2
  replace hbx := hbx.ext hE2
  replace HE := HE.trans hE2
  replace ht := Nd.rd_ext hE2 ht
  replace hx := Nd.rd_ext hE2 hx
  replace hq := hq.ext hE2
  clear hE2
  obtain ⟨n0, n1, n2, n3, n4, n5⟩ := NBox.six hbn
  obtain ⟨x0, x1, x2, x3, x4, x5⟩ := NBox.six hbx
  have hcw := Nd.cnt_wt t
  obtain ⟨bb, hbb⟩ : ∃ bb, (t.at? p).isSome = bb := ⟨_, rfl⟩
  obtain ⟨z, hz⟩ : ∃ z, (t.at? p).getD Nd.zero = z := ⟨_, rfl⟩
  obtain ⟨y, hy⟩ : ∃ y, (t.put p x).getD Nd.zero = y := ⟨_, rfl⟩
  have hbp : (t.put p x).isSome = bb := by rw [← at_put, hbb]
  have HZ := Lib.hid hz
  have HY := Lib.hid hy
  have HB := Lib.hid hbb
  have HP := Lib.hid hbp
  have H00 := Lib.hid (show (t.put [] t).getD Nd.zero = t by rw [put_nil]; rfl)
  have H01 := Lib.hid (show (t.put [] t).isSome = true by rw [put_nil]; rfl)
  obtain ⟨n, hn⟩ : ∃ n, t.ids.length = n := ⟨_, rfl⟩
  have hn6 : n ≤ 1000000 := by rw [← hn, Nd.ids_len]; omega
  have Hn := Lib.hid hn
  clear hz hy hbb hbp hn
  go_wp2_with fail
  refine (rput_any t t _ _ [] (.slice none 0 0) W0 ht ht (RdS.nil_ _ _) (by omega)).mono ?_
  rintro e u1 ⟨r, rfl, hr, hE⟩
  obtain ⟨aA, ac, aK, ad, rfl, hz1⟩ := hr.open H00.out H01.out
  obtain ⟨W1, hW⟩ : ∃ W, u1.alloc (.cells #[.int .u64 t.id, .bool t.leaf, .string t.label, .slice aA t.attrs.length ac, .string t.text, .slice aK t.kids.length ad] 26) = W := ⟨_, rfl⟩
  have hG : Ext u1 W1 := by rw [← hW]; exact (Ext.refl _).alloc _
  have hF : Ext W0 W1 := hE.trans hG
  have hb1 : NBox W1 u1.heap.size 26 #[.int .u64 t.id, .bool t.leaf, .string t.label, .slice aA t.attrs.length ac, .string t.text, .slice aK t.kids.length ad] := by rw [← hW]; exact NBox.new _ _ _
  replace hz1 := Nd.rd_ext hG hz1
  have H2 := Lib.hid hW
  clear hW hE hr hG
  replace hbn := hbn.ext hF
  replace hbx := hbx.ext hF
  replace ht := Nd.rd_ext hF ht
  replace hx := Nd.rd_ext hF hx
  replace hq := RdS.ext hF hq
  replace n0 := hF.cell n0
  replace n1 := hF.cell n1
  replace n2 := hF.cell n2
  replace n3 := hF.cell n3
  replace n4 := hF.cell n4
  replace n5 := hF.cell n5
  replace x0 := hF.cell x0
  replace x1 := hF.cell x1
  replace x2 := hF.cell x2
  replace x3 := hF.cell x3
  replace x4 := hF.cell x4
  replace x5 := hF.cell x5
  replace HE := HE.trans hF
  clear hF
  go_wp2_with (rw [H2.out]; clear H2)
  refine ((rids_any t.cnt t _ W1 (Nat.le_refl _) ht (by omega))).mono ?_
  rintro e W2 ⟨r, rfl, ho, hF⟩
  replace hbn := hbn.ext hF
  replace hbx := hbx.ext hF
  replace hb1 := hb1.ext hF
  replace ht := Nd.rd_ext hF ht
  replace hx := Nd.rd_ext hF hx
  replace hz1 := Nd.rd_ext hF hz1
  replace hq := RdS.ext hF hq
  replace n0 := hF.cell n0
  replace n1 := hF.cell n1
  replace n2 := hF.cell n2
  replace n3 := hF.cell n3
  replace n4 := hF.cell n4
  replace n5 := hF.cell n5
  replace x0 := hF.cell x0
  replace x1 := hF.cell x1
  replace x2 := hF.cell x2
  replace x3 := hF.cell x3
  replace x4 := hF.cell x4
  replace x5 := hF.cell x5
  replace HE := HE.trans hF
  clear hF
  have hp := RdS.of_owns ho
  rw [Hn.out] at hp
  clear ho
  obtain ⟨A1, c1, rfl, p1, p2, p3, p4⟩ := hp
  have hp := (⟨A1, c1, rfl, p1, p2, p3, p4⟩ : RdS W2 1 n (t.ids.map (Value.int .u64)) (.slice A1 n c1))
  clear p1 p4
  go_wp2_with fail
  refine (at_any t _ p _ W2 ht hq).mono ?_
  rintro e u3 ⟨r, rfl, hr, hE⟩
  obtain ⟨bA, bc, bK, bd, rfl, hz3⟩ := hr.open HZ.out HB.out
  obtain ⟨W3, hW⟩ : ∃ W, u3.alloc (.cells #[.int .u64 z.id, .bool z.leaf, .string z.label, .slice bA z.attrs.length bc, .string z.text, .slice bK z.kids.length bd] 26) = W := ⟨_, rfl⟩
  have hG : Ext u3 W3 := by rw [← hW]; exact (Ext.refl _).alloc _
  have hF : Ext W2 W3 := hE.trans hG
  have hb3 : NBox W3 u3.heap.size 26 #[.int .u64 z.id, .bool z.leaf, .string z.label, .slice bA z.attrs.length bc, .string z.text, .slice bK z.kids.length bd] := by rw [← hW]; exact NBox.new _ _ _
  replace hz3 := Nd.rd_ext hG hz3
  have H4 := Lib.hid hW
  clear hW hE hr hG
  replace hbn := hbn.ext hF
  replace hbx := hbx.ext hF
  replace hb1 := hb1.ext hF
  replace ht := Nd.rd_ext hF ht
  replace hx := Nd.rd_ext hF hx
  replace hz1 := Nd.rd_ext hF hz1
  replace hq := RdS.ext hF hq
  replace hp := RdS.ext hF hp
  replace n0 := hF.cell n0
  replace n1 := hF.cell n1
  replace n2 := hF.cell n2
  replace n3 := hF.cell n3
  replace n4 := hF.cell n4
  replace n5 := hF.cell n5
  replace x0 := hF.cell x0
  replace x1 := hF.cell x1
  replace x2 := hF.cell x2
  replace x3 := hF.cell x3
  replace x4 := hF.cell x4
  replace x5 := hF.cell x5
  replace HE := HE.trans hF
  clear hF
  go_wp2_with (rw [H4.out]; clear H4)
  refine (rat_any t _ p _ W3 ht hq).mono ?_
  rintro e u4 ⟨r, rfl, hr, hE⟩
  obtain ⟨cA, cc, cK, cd, rfl, hz4⟩ := hr.open HZ.out HB.out
  obtain ⟨W4, hW⟩ : ∃ W, u4.alloc (.cells #[.int .u64 z.id, .bool z.leaf, .string z.label, .slice cA z.attrs.length cc, .string z.text, .slice cK z.kids.length cd] 26) = W := ⟨_, rfl⟩
  have hG : Ext u4 W4 := by rw [← hW]; exact (Ext.refl _).alloc _
  have hF : Ext W3 W4 := hE.trans hG
  have hb4 : NBox W4 u4.heap.size 26 #[.int .u64 z.id, .bool z.leaf, .string z.label, .slice cA z.attrs.length cc, .string z.text, .slice cK z.kids.length cd] := by rw [← hW]; exact NBox.new _ _ _
  replace hz4 := Nd.rd_ext hG hz4
  have H5 := Lib.hid hW
  clear hW hE hr hG
  replace hbn := hbn.ext hF
  replace hbx := hbx.ext hF
  replace hb1 := hb1.ext hF
  replace hb3 := hb3.ext hF
  replace ht := Nd.rd_ext hF ht
  replace hx := Nd.rd_ext hF hx
  replace hz1 := Nd.rd_ext hF hz1
  replace hz3 := Nd.rd_ext hF hz3
  replace hq := RdS.ext hF hq
  replace hp := RdS.ext hF hp
  replace n0 := hF.cell n0
  replace n1 := hF.cell n1
  replace n2 := hF.cell n2
  replace n3 := hF.cell n3
  replace n4 := hF.cell n4
  replace n5 := hF.cell n5
  replace x0 := hF.cell x0
  replace x1 := hF.cell x1
  replace x2 := hF.cell x2
  replace x3 := hF.cell x3
  replace x4 := hF.cell x4
  replace x5 := hF.cell x5
  replace HE := HE.trans hF
  clear hF
  go_wp2_with (rw [H5.out]; clear H5)
  refine (put_any t x _ _ p _ W4 ht hx hq (by omega)).mono ?_
  rintro e u5 ⟨r, rfl, hr, hE⟩
  obtain ⟨dA, dc, dK, dd, rfl, hz5⟩ := hr.open HY.out HP.out
  obtain ⟨W5, hW⟩ : ∃ W, u5.alloc (.cells #[.int .u64 y.id, .bool y.leaf, .string y.label, .slice dA y.attrs.length dc, .string y.text, .slice dK y.kids.length dd] 26) = W := ⟨_, rfl⟩
  have hG : Ext u5 W5 := by rw [← hW]; exact (Ext.refl _).alloc _
  have hF : Ext W4 W5 := hE.trans hG
  have hb5 : NBox W5 u5.heap.size 26 #[.int .u64 y.id, .bool y.leaf, .string y.label, .slice dA y.attrs.length dc, .string y.text, .slice dK y.kids.length dd] := by rw [← hW]; exact NBox.new _ _ _
  replace hz5 := Nd.rd_ext hG hz5
  have H6 := Lib.hid hW
  clear hW hE hr hG
  replace hbn := hbn.ext hF
  replace hbx := hbx.ext hF
  replace hb1 := hb1.ext hF
  replace hb3 := hb3.ext hF
  replace hb4 := hb4.ext hF
  replace ht := Nd.rd_ext hF ht
  replace hx := Nd.rd_ext hF hx
  replace hz1 := Nd.rd_ext hF hz1
  replace hz3 := Nd.rd_ext hF hz3
  replace hz4 := Nd.rd_ext hF hz4
  replace hq := RdS.ext hF hq
  replace hp := RdS.ext hF hp
  replace n0 := hF.cell n0
  replace n1 := hF.cell n1
  replace n2 := hF.cell n2
  replace n3 := hF.cell n3
  replace n4 := hF.cell n4
  replace n5 := hF.cell n5
  replace x0 := hF.cell x0
  replace x1 := hF.cell x1
  replace x2 := hF.cell x2
  replace x3 := hF.cell x3
  replace x4 := hF.cell x4
  replace x5 := hF.cell x5
  replace HE := HE.trans hF
  clear hF
  go_wp2_with (rw [H6.out]; clear H6)
  refine (rput_any t x _ _ p _ W5 ht hx hq (by omega)).mono ?_
  rintro e u6 ⟨r, rfl, hr, hE⟩
  obtain ⟨fA, fc, fK, fd, rfl, hz6⟩ := hr.open HY.out HP.out
  obtain ⟨W6, hW⟩ : ∃ W, u6.alloc (.cells #[.int .u64 y.id, .bool y.leaf, .string y.label, .slice fA y.attrs.length fc, .string y.text, .slice fK y.kids.length fd] 26) = W := ⟨_, rfl⟩
  have hG : Ext u6 W6 := by rw [← hW]; exact (Ext.refl _).alloc _
  have hF : Ext W5 W6 := hE.trans hG
  have hb6 : NBox W6 u6.heap.size 26 #[.int .u64 y.id, .bool y.leaf, .string y.label, .slice fA y.attrs.length fc, .string y.text, .slice fK y.kids.length fd] := by rw [← hW]; exact NBox.new _ _ _
  replace hz6 := Nd.rd_ext hG hz6
  have H7 := Lib.hid hW
  clear hW hE hr hG
  replace hbn := hbn.ext hF
  replace hbx := hbx.ext hF
  replace hb1 := hb1.ext hF
  replace hb3 := hb3.ext hF
  replace hb4 := hb4.ext hF
  replace hb5 := hb5.ext hF
  replace ht := Nd.rd_ext hF ht
  replace hx := Nd.rd_ext hF hx
  replace hz1 := Nd.rd_ext hF hz1
  replace hz3 := Nd.rd_ext hF hz3
  replace hz4 := Nd.rd_ext hF hz4
  replace hz5 := Nd.rd_ext hF hz5
  replace hq := RdS.ext hF hq
  replace hp := RdS.ext hF hp
  replace n0 := hF.cell n0
  replace n1 := hF.cell n1
  replace n2 := hF.cell n2
  replace n3 := hF.cell n3
  replace n4 := hF.cell n4
  replace n5 := hF.cell n5
  replace x0 := hF.cell x0
  replace x1 := hF.cell x1
  replace x2 := hF.cell x2
  replace x3 := hF.cell x3
  replace x4 := hF.cell x4
  replace x5 := hF.cell x5
  replace HE := HE.trans hF
  clear hF
  have zz : (bb != bb) = false := by cases bb <;> rfl
  obtain ⟨bx0, bx1, bx2, bx3, bx4, bx5⟩ := NBox.six hb3
  obtain ⟨cx0, cx1, cx2, cx3, cx4, cx5⟩ := NBox.six hb4
  obtain ⟨dx0, dx1, dx2, dx3, dx4, dx5⟩ := NBox.six hb5
  obtain ⟨fx0, fx1, fx2, fx3, fx4, fx5⟩ := NBox.six hb6
  obtain ⟨ax0, ax1, ax2, ax3, ax4, ax5⟩ := NBox.six hb1
  go_wp2_with (rw [H7.out]; clear H7)
  refine ((rsame_aa z _ _ W6 hz3 hz4)).mono ?_
  rintro e W7 ⟨r, rfl, rfl, hF⟩
  replace hbn := hbn.ext hF
  replace hbx := hbx.ext hF
  replace hb1 := hb1.ext hF
  replace hb3 := hb3.ext hF
  replace hb4 := hb4.ext hF
  replace hb5 := hb5.ext hF
  replace hb6 := hb6.ext hF
  replace ht := Nd.rd_ext hF ht
  replace hx := Nd.rd_ext hF hx
  replace hz1 := Nd.rd_ext hF hz1
  replace hz3 := Nd.rd_ext hF hz3
  replace hz4 := Nd.rd_ext hF hz4
  replace hz5 := Nd.rd_ext hF hz5
  replace hz6 := Nd.rd_ext hF hz6
  replace hq := RdS.ext hF hq
  replace hp := RdS.ext hF hp
  replace n0 := hF.cell n0
  replace n1 := hF.cell n1
  replace n2 := hF.cell n2
  replace n3 := hF.cell n3
  replace n4 := hF.cell n4
  replace n5 := hF.cell n5
  replace x0 := hF.cell x0
  replace x1 := hF.cell x1
  replace x2 := hF.cell x2
  replace x3 := hF.cell x3
  replace x4 := hF.cell x4
  replace x5 := hF.cell x5
  replace bx0 := hF.cell bx0
  replace bx1 := hF.cell bx1
  replace bx2 := hF.cell bx2
  replace bx3 := hF.cell bx3
  replace bx4 := hF.cell bx4
  replace bx5 := hF.cell bx5
  replace cx0 := hF.cell cx0
  replace cx1 := hF.cell cx1
  replace cx2 := hF.cell cx2
  replace cx3 := hF.cell cx3
  replace cx4 := hF.cell cx4
  replace cx5 := hF.cell cx5
  replace dx0 := hF.cell dx0
  replace dx1 := hF.cell dx1
  replace dx2 := hF.cell dx2
  replace dx3 := hF.cell dx3
  replace dx4 := hF.cell dx4
  replace dx5 := hF.cell dx5
  replace fx0 := hF.cell fx0
  replace fx1 := hF.cell fx1
  replace fx2 := hF.cell fx2
  replace fx3 := hF.cell fx3
  replace fx4 := hF.cell fx4
  replace fx5 := hF.cell fx5
  replace ax0 := hF.cell ax0
  replace ax1 := hF.cell ax1
  replace ax2 := hF.cell ax2
  replace ax3 := hF.cell ax3
  replace ax4 := hF.cell ax4
  replace ax5 := hF.cell ax5
  replace HE := HE.trans hF
  clear hF
  go_wp2_with fail
  refine ((rsame_aa y _ _ W7 hz5 hz6)).mono ?_
  rintro e W8 ⟨r, rfl, rfl, hF⟩
  replace hbn := hbn.ext hF
  replace hbx := hbx.ext hF
  replace hb1 := hb1.ext hF
  replace hb3 := hb3.ext hF
  replace hb4 := hb4.ext hF
  replace hb5 := hb5.ext hF
  replace hb6 := hb6.ext hF
  replace ht := Nd.rd_ext hF ht
  replace hx := Nd.rd_ext hF hx
  replace hz1 := Nd.rd_ext hF hz1
  replace hz3 := Nd.rd_ext hF hz3
  replace hz4 := Nd.rd_ext hF hz4
  replace hz5 := Nd.rd_ext hF hz5
  replace hz6 := Nd.rd_ext hF hz6
  replace hq := RdS.ext hF hq
  replace hp := RdS.ext hF hp
  replace n0 := hF.cell n0
  replace n1 := hF.cell n1
  replace n2 := hF.cell n2
  replace n3 := hF.cell n3
  replace n4 := hF.cell n4
  replace n5 := hF.cell n5
  replace x0 := hF.cell x0
  replace x1 := hF.cell x1
  replace x2 := hF.cell x2
  replace x3 := hF.cell x3
  replace x4 := hF.cell x4
  replace x5 := hF.cell x5
  replace bx0 := hF.cell bx0
  replace bx1 := hF.cell bx1
  replace bx2 := hF.cell bx2
  replace bx3 := hF.cell bx3
  replace bx4 := hF.cell bx4
  replace bx5 := hF.cell bx5
  replace cx0 := hF.cell cx0
  replace cx1 := hF.cell cx1
  replace cx2 := hF.cell cx2
  replace cx3 := hF.cell cx3
  replace cx4 := hF.cell cx4
  replace cx5 := hF.cell cx5
  replace dx0 := hF.cell dx0
  replace dx1 := hF.cell dx1
  replace dx2 := hF.cell dx2
  replace dx3 := hF.cell dx3
  replace dx4 := hF.cell dx4
  replace dx5 := hF.cell dx5
  replace fx0 := hF.cell fx0
  replace fx1 := hF.cell fx1
  replace fx2 := hF.cell fx2
  replace fx3 := hF.cell fx3
  replace fx4 := hF.cell fx4
  replace fx5 := hF.cell fx5
  replace ax0 := hF.cell ax0
  replace ax1 := hF.cell ax1
  replace ax2 := hF.cell ax2
  replace ax3 := hF.cell ax3
  replace ax4 := hF.cell ax4
  replace ax5 := hF.cell ax5
  replace HE := HE.trans hF
  clear hF
  go_wp2_with fail
  refine ((rsame_aa t _ _ W8 ht hz1)).mono ?_
  rintro e W9 ⟨r, rfl, rfl, hF⟩
  replace hbn := hbn.ext hF
  replace hbx := hbx.ext hF
  replace hb1 := hb1.ext hF
  replace hb3 := hb3.ext hF
  replace hb4 := hb4.ext hF
  replace hb5 := hb5.ext hF
  replace hb6 := hb6.ext hF
  replace ht := Nd.rd_ext hF ht
  replace hx := Nd.rd_ext hF hx
  replace hz1 := Nd.rd_ext hF hz1
  replace hz3 := Nd.rd_ext hF hz3
  replace hz4 := Nd.rd_ext hF hz4
  replace hz5 := Nd.rd_ext hF hz5
  replace hz6 := Nd.rd_ext hF hz6
  replace hq := RdS.ext hF hq
  replace hp := RdS.ext hF hp
  replace n0 := hF.cell n0
  replace n1 := hF.cell n1
  replace n2 := hF.cell n2
  replace n3 := hF.cell n3
  replace n4 := hF.cell n4
  replace n5 := hF.cell n5
  replace x0 := hF.cell x0
  replace x1 := hF.cell x1
  replace x2 := hF.cell x2
  replace x3 := hF.cell x3
  replace x4 := hF.cell x4
  replace x5 := hF.cell x5
  replace bx0 := hF.cell bx0
  replace bx1 := hF.cell bx1
  replace bx2 := hF.cell bx2
  replace bx3 := hF.cell bx3
  replace bx4 := hF.cell bx4
  replace bx5 := hF.cell bx5
  replace cx0 := hF.cell cx0
  replace cx1 := hF.cell cx1
  replace cx2 := hF.cell cx2
  replace cx3 := hF.cell cx3
  replace cx4 := hF.cell cx4
  replace cx5 := hF.cell cx5
  replace dx0 := hF.cell dx0
  replace dx1 := hF.cell dx1
  replace dx2 := hF.cell dx2
  replace dx3 := hF.cell dx3
  replace dx4 := hF.cell dx4
  replace dx5 := hF.cell dx5
  replace fx0 := hF.cell fx0
  replace fx1 := hF.cell fx1
  replace fx2 := hF.cell fx2
  replace fx3 := hF.cell fx3
  replace fx4 := hF.cell fx4
  replace fx5 := hF.cell fx5
  replace ax0 := hF.cell ax0
  replace ax1 := hF.cell ax1
  replace ax2 := hF.cell ax2
  replace ax3 := hF.cell ax3
  replace ax4 := hF.cell ax4
  replace ax5 := hF.cell ax5
  replace HE := HE.trans hF
  clear hF
  clear bx0 bx1 bx2 bx3 bx4 bx5 cx0 cx1 cx2 cx3 cx4 cx5 dx0 dx1 dx2 dx3 dx4 dx5 fx0 fx1 fx2 fx3 fx4 fx5 ax0 ax1 ax2 ax3 ax4 ax5
  go_wp2_with fail
  refine ((rids_any t.cnt t _ W9 (Nat.le_refl _) ht (by omega))).mono ?_
  rintro e W10 ⟨r, rfl, ho, hF⟩
  replace hbn := hbn.ext hF
  replace hbx := hbx.ext hF
  replace hb1 := hb1.ext hF
  replace hb3 := hb3.ext hF
  replace hb4 := hb4.ext hF
  replace hb5 := hb5.ext hF
  replace hb6 := hb6.ext hF
  replace ht := Nd.rd_ext hF ht
  replace hx := Nd.rd_ext hF hx
  replace hz1 := Nd.rd_ext hF hz1
  replace hz3 := Nd.rd_ext hF hz3
  replace hz4 := Nd.rd_ext hF hz4
  replace hz5 := Nd.rd_ext hF hz5
  replace hz6 := Nd.rd_ext hF hz6
  replace hq := RdS.ext hF hq
  replace hp := RdS.ext hF hp
  replace n0 := hF.cell n0
  replace n1 := hF.cell n1
  replace n2 := hF.cell n2
  replace n3 := hF.cell n3
  replace n4 := hF.cell n4
  replace n5 := hF.cell n5
  replace x0 := hF.cell x0
  replace x1 := hF.cell x1
  replace x2 := hF.cell x2
  replace x3 := hF.cell x3
  replace x4 := hF.cell x4
  replace x5 := hF.cell x5
  replace HE := HE.trans hF
  clear hF
  have hr2 := RdS.of_owns ho
  rw [Hn.out] at hr2
  clear ho
  obtain ⟨A2, c2, rfl, r1, r2, r3, r4⟩ := hr2
  obtain ⟨A1', c1', he, p1, p2', p3', p4⟩ := hp
  simp only [Value.slice.injEq, true_and] at he
  obtain ⟨rfl, rfl⟩ := he
  clear p2' p3' p1 r1 n0 n1 n2 n3 n4 n5 x0 x1 x2 x3 x4 x5
  unfold maxLen at p3 r3
  go_wp2_with fail
  go_loopw [19] (fun s19 wr => ∃ (k : Nat), s19 = .int .i64 k ∧ k ≤ n ∧ Ext W10 wr) (fun i _ => n - (intOf i).toNat)
  case atStart => exact ⟨0, rfl, Nat.zero_le _, Ext.refl _⟩
  case round =>
    obtain ⟨k, rfl, hk, hX⟩ := hrel
    rcases Nat.lt_or_ge k n with hlt | hlt
    · obtain ⟨zi, hzi⟩ : ∃ zi, t.ids[k]? = some zi := ⟨_, List.getElem?_eq_getElem (by rw [Hn.out]; exact hlt)⟩
      obtain ⟨b1, o1, rfl, f1⟩ := p4 (by omega)
      obtain ⟨b2, o2, rfl, f2⟩ := r4 (by omega)
      have g1 := hX.cell (f1 k (.int .u64 zi) (by rw [List.getElem?_map, hzi]; rfl))
      have g2 := hX.cell (f2 k (.int .u64 zi) (by rw [List.getElem?_map, hzi]; rfl))
      clear hzi f1 f2 p4 r4
      have zz : (zi != zi) = false := by simp
      go_wp2_with fail
      go_quiet (fail)
      go_wp2_with fail
      go_roundw
      case rel => exact ⟨k + 1, by go_num, by omega, hX.drewN _⟩
      case measure => simp [intOf]; omega
    · clear p4 r4
      go_wp2_with fail
      refine (works_any wr).mono ?_
      rintro e w9 ⟨r, rfl, rfl, hE9⟩
      go_wp2_with fail
      go_ret
      exact ret_bool (by rfl) ((HE.trans hX).trans hE9)
end Go.Proofs.Ytamkgdkoddoehaa.Bw
