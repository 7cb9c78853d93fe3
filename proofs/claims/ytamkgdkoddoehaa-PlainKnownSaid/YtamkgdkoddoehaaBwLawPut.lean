/- Lemmas and walks for the claims of chapter 06: LawPut. No conditions beside those that stand in each lemma. -/
import Derived.Test.YtamkgdkoddoehaaBwLawAt
import Derived.Test.YtamkgdkoddoehaaBwPutPlain
import Derived.Deep.RegionHeld3
namespace Go.Proofs.Ytamkgdkoddoehaa.Bw
open Go.RowKit

theorem same_aa2 (a : Nd) (u v : Value) (w : World) (ha : a.rd w u) (hb : a.rd w v) : Calls Try.prog 31 #[u, v] w (Ret w fun r _ => r = .bool true) := by
  have := Same_any a a u v w ha hb
  rw [Nd.same_refl] at this
  exact this

set_option maxRecDepth 100000 in
set_option maxHeartbeats 4000000 in
theorem lawPut (t x : Nd) (v xv : Value) (p : List Int) (q : Value) (w : World) (ht : t.rd w v) (hx : x.rd w xv) (hq : RdS w 1 p.length (p.map (Value.int .i64)) q) : Calls Try.prog 8 #[v, q, xv] w (Ret w fun r _ => r = .bool true) := by
  have ht0 := ht
  have hx0 := hx
  have hq0 := hq
  obtain ⟨A, qc, rfl, _, q2, q3, q4⟩ := hq0
  obtain ⟨av, kv, rfl, _, _, _, _, ⟨nA, nc, rfl, _⟩, ⟨nK, nd, rfl, _⟩⟩ := Nd.rd_open ht
  obtain ⟨xav, xkv, rfl, _, _, _, _, ⟨xA, xc, rfl, _⟩, ⟨xK, xd, rfl, _⟩⟩ := Nd.rd_open hx
  unfold maxLen at q3
  obtain ⟨w1, hw1⟩ : ∃ w1, (w.alloc (.cells #[.int .u64 t.id, .bool t.leaf, .string t.label, .slice nA t.attrs.length nc, .string t.text, .slice nK t.kids.length nd] 26)).alloc (.cells #[.int .u64 x.id, .bool x.leaf, .string x.label, .slice xA x.attrs.length xc, .string x.text, .slice xK x.kids.length xd] 26) = w1 := ⟨_, rfl⟩
  have hE1 : Ext w w1 := by rw [← hw1]; exact ((Ext.refl w).alloc _).alloc _
  have hbn : NBox w1 w.heap.size 26 #[.int .u64 t.id, .bool t.leaf, .string t.label, .slice nA t.attrs.length nc, .string t.text, .slice nK t.kids.length nd] := by rw [← hw1]; exact NBox.ext ((Ext.refl _).alloc _) (NBox.new _ _ _)
  have hbx : NBox w1 (w.heap.size + 1) 26 #[.int .u64 x.id, .bool x.leaf, .string x.label, .slice xA x.attrs.length xc, .string x.text, .slice xK x.kids.length xd] := by rw [← hw1]; simpa using NBox.new (w.alloc (.cells #[.int .u64 t.id, .bool t.leaf, .string t.label, .slice nA t.attrs.length nc, .string t.text, .slice nK t.kids.length nd] 26)) 26 #[.int .u64 x.id, .bool x.leaf, .string x.label, .slice xA x.attrs.length xc, .string x.text, .slice xK x.kids.length xd]
  have hwa := weigh_any t.cnt t _ 600 w1 (Nat.le_refl _) (Nd.rd_ext hE1 ht) (by omega) (by omega)
  have hla := Nd.weigh_le t 600 (by omega)
  have hlb := Nd.weigh_le x 600 (by omega)
  have hia := Nd.weigh_iff t (top := 600) (by omega)
  have hib := Nd.weigh_iff x (top := 600) (by omega)
  have H1 := Lib.hid hw1
  clear hw1 q4 hx0 ht0
  go_enter Try.func8, Try.ntmps8
  rcases Int.lt_or_le 600 (t.weigh 600) with h1 | h1
  · clear hia hib
    go_wp2_with fail
    rw [H1.out]
    refine hwa.mono ?_
    clear hwa
    rintro e w2 ⟨r, rfl, rfl, hE2⟩
    go_wp2_with fail
    refine (works_any w2).mono ?_
    rintro e w9 ⟨r, rfl, rfl, hE9⟩
    go_wp2_with fail
    go_ret
    exact ret_bool (by rfl) ((hE1.trans hE2).trans hE9)
  have hta : t.wt ≤ 600 := by have := hia.1 h1; omega
  clear hia
  go_wp2_with fail
  rw [H1.out]
  refine hwa.mono ?_
  clear hwa
  rintro e w0 ⟨r, rfl, rfl, hE2⟩
  replace hbn := hbn.ext hE2
  replace hbx := hbx.ext hE2
  have HE := hE1.trans hE2
  replace ht := Nd.rd_ext HE ht
  replace hx := Nd.rd_ext HE hx
  replace hq := hq.ext HE
  clear H1 hE1 hE2
  have hwb := weigh_any x.cnt x _ 600 w0 (Nat.le_refl _) hx (by omega) (by omega)
  obtain ⟨e0, e1, e2, e3, e4, e5⟩ := NBox.six hbx
  rcases Int.lt_or_le 600 (x.weigh 600) with h2 | h2
  · clear hib
    go_wp2_with fail
    refine hwb.mono ?_
    clear hwb e0 e1 e2 e3 e4 e5
    rintro e w2 ⟨r, rfl, rfl, hE2⟩
    go_wp2_with fail
    refine (works_any w2).mono ?_
    rintro e w9 ⟨r, rfl, rfl, hE9⟩
    go_wp2_with fail
    go_ret
    exact ret_bool (by rfl) ((HE.trans hE2).trans hE9)
  have htx : x.wt ≤ 600 := by have := hib.1 h2; omega
  clear hib
  rcases Int.lt_or_le 100 p.length with h3 | h3
  · go_wp2_with fail
    refine hwb.mono ?_
    clear hwb e0 e1 e2 e3 e4 e5
    rintro e w2 ⟨r, rfl, rfl, hE2⟩
    go_wp2_with fail
    refine (works_any w2).mono ?_
    rintro e w9 ⟨r, rfl, rfl, hE9⟩
    go_wp2_with fail
    go_ret
    exact ret_bool (by rfl) ((HE.trans hE2).trans hE9)
  go_wp2_with fail
  refine hwb.mono ?_
  clear hwb e0 e1 e2 e3 e4 e5
  rintro e W0 ⟨r, rfl, rfl, hE2⟩
  replace hbn := hbn.ext hE2
  replace hbx := hbx.ext hE2
  replace HE := HE.trans hE2
  replace ht := Nd.rd_ext hE2 ht
  replace hx := Nd.rd_ext hE2 hx
  replace hq := hq.ext hE2
  clear hE2
  obtain ⟨n0, n1, n2, n3, n4, n5⟩ := NBox.six hbn
  obtain ⟨x0, x1, x2, x3, x4, x5⟩ := NBox.six hbx
  obtain ⟨bb, hbb⟩ : ∃ bb, (t.at? p).isSome = bb := ⟨_, rfl⟩
  obtain ⟨z, hz⟩ : ∃ z, (t.at? p).getD Nd.zero = z := ⟨_, rfl⟩
  obtain ⟨y, hy⟩ : ∃ y, (t.put p x).getD Nd.zero = y := ⟨_, rfl⟩
  have hbp : (t.put p x).isSome = bb := by rw [← at_put, hbb]
  have HZ := Lib.hid hz
  have HY := Lib.hid hy
  have HB := Lib.hid hbb
  have HP := Lib.hid hbp
  have zz : (bb != bb) = false := by cases bb <;> rfl
  clear hz hy hbb hbp
  go_wp2_with fail
  refine (at_any t _ p _ W0 ht hq).mono ?_
  rintro e u1 ⟨r, rfl, hr, hE⟩
  obtain ⟨bA, bc, bK, bd, rfl, hz1⟩ := hr.open HZ.out HB.out
  obtain ⟨W1, hW⟩ : ∃ W, u1.alloc (.cells #[.int .u64 z.id, .bool z.leaf, .string z.label, .slice bA z.attrs.length bc, .string z.text, .slice bK z.kids.length bd] 26) = W := ⟨_, rfl⟩
  have hG : Ext u1 W1 := by rw [← hW]; exact (Ext.refl _).alloc _
  have hF : Ext W0 W1 := hE.trans hG
  have hb1 : NBox W1 u1.heap.size 26 #[.int .u64 z.id, .bool z.leaf, .string z.label, .slice bA z.attrs.length bc, .string z.text, .slice bK z.kids.length bd] := by rw [← hW]; exact NBox.new _ _ _
  replace hz1 := Nd.rd_ext hG hz1
  have H2 := Lib.hid hW
  clear hW hE hr hG
  replace hbn := hbn.ext hF
  replace hbx := hbx.ext hF
  replace ht := Nd.rd_ext hF ht
  replace hx := Nd.rd_ext hF hx
  replace hq := RdS.ext hF hq
  replace n0 := hF.cell n0
  replace n1 := hF.cell n1
  replace n2 := hF.cell n2
  replace n3 := hF.cell n3
  replace n4 := hF.cell n4
  replace n5 := hF.cell n5
  replace x0 := hF.cell x0
  replace x1 := hF.cell x1
  replace x2 := hF.cell x2
  replace x3 := hF.cell x3
  replace x4 := hF.cell x4
  replace x5 := hF.cell x5
  replace HE := HE.trans hF
  clear hF
  go_wp2_with (rw [H2.out]; clear H2)
  refine (put_any t x _ _ p _ W1 ht hx hq (by omega)).mono ?_
  rintro e u2 ⟨r, rfl, hr, hE⟩
  obtain ⟨cA, cc, cK, cd, rfl, hz2⟩ := hr.open HY.out HP.out
  obtain ⟨W2, hW⟩ : ∃ W, u2.alloc (.cells #[.int .u64 y.id, .bool y.leaf, .string y.label, .slice cA y.attrs.length cc, .string y.text, .slice cK y.kids.length cd] 26) = W := ⟨_, rfl⟩
  have hG : Ext u2 W2 := by rw [← hW]; exact (Ext.refl _).alloc _
  have hF : Ext W1 W2 := hE.trans hG
  have hb2 : NBox W2 u2.heap.size 26 #[.int .u64 y.id, .bool y.leaf, .string y.label, .slice cA y.attrs.length cc, .string y.text, .slice cK y.kids.length cd] := by rw [← hW]; exact NBox.new _ _ _
  replace hz2 := Nd.rd_ext hG hz2
  have H3 := Lib.hid hW
  clear hW hE hr hG
  replace hbn := hbn.ext hF
  replace hbx := hbx.ext hF
  replace hb1 := hb1.ext hF
  replace ht := Nd.rd_ext hF ht
  replace hx := Nd.rd_ext hF hx
  replace hz1 := Nd.rd_ext hF hz1
  replace hq := RdS.ext hF hq
  replace n0 := hF.cell n0
  replace n1 := hF.cell n1
  replace n2 := hF.cell n2
  replace n3 := hF.cell n3
  replace n4 := hF.cell n4
  replace n5 := hF.cell n5
  replace x0 := hF.cell x0
  replace x1 := hF.cell x1
  replace x2 := hF.cell x2
  replace x3 := hF.cell x3
  replace x4 := hF.cell x4
  replace x5 := hF.cell x5
  replace HE := HE.trans hF
  clear hF
  obtain ⟨y0, y1, y2, y3, y4, y5⟩ := NBox.six hb2
  obtain ⟨z0, z1, z2, z3, z4, z5⟩ := NBox.six hb1
  rcases bb with _ | _
  · have hy0 : y = Nd.zero := by
      have h1 := HP.out
      have h2 := HY.out
      cases hc : t.put p x with
      | none => rw [hc] at h2; exact h2.symm
      | some k => rw [hc] at h1; cases h1
    subst hy0
    have hzr := zero_rd W2
    unfold zeroV at hzr
    go_wp2_with (rw [H3.out]; clear H3)
    refine (same_aa2 Nd.zero _ _ W2 hz2 hzr).mono ?_
    rintro e w8 ⟨r, rfl, rfl, hE8⟩
    go_wp2_with fail
    refine (works_any w8).mono ?_
    rintro e w9 ⟨r, rfl, rfl, hE9⟩
    go_wp2_with fail
    go_ret
    exact ret_bool (by rfl) ((HE.trans hE8).trans hE9)
  have hsA : t.at? p = some z := by
    have h1 := HB.out
    have h2 := HZ.out
    cases hc : t.at? p with
    | none => rw [hc] at h1; cases h1
    | some k => rw [hc] at h2; exact congrArg some h2
  have hsP : t.put p x = some y := by
    have h1 := HP.out
    have h2 := HY.out
    cases hc : t.put p x with
    | none => rw [hc] at h1; cases h1
    | some k => rw [hc] at h2; exact congrArg some h2
  have hw := put_wt p t x y z hsP hsA
  have hcn := put_cnt p t x y z hsP hsA
  have hcy := Nd.cnt_wt y
  have hct := Nd.cnt_wt t
  have hcx := Nd.cnt_wt x
  have hcz := Nd.cnt_wt z
  have h3a := put_at p t x y hsP
  have h3b := put_back p t x y z hsP hsA
  have HA1 := Lib.hid (show (y.at? p).getD Nd.zero = x by rw [h3a]; rfl)
  have HA2 := Lib.hid (show (y.at? p).isSome = true by rw [h3a]; rfl)
  have HB1 := Lib.hid (show (y.put p z).getD Nd.zero = t by rw [h3b]; rfl)
  have HB2 := Lib.hid (show (y.put p z).isSome = true by rw [h3b]; rfl)
  clear hsA hsP h3a h3b
  go_wp2_with (rw [H3.out]; clear H3)
  refine (at_any y _ p _ W2 hz2 hq).mono ?_
  rintro e u3 ⟨r, rfl, hr, hE⟩
  obtain ⟨dA, dc, dK, dd, rfl, hz3⟩ := hr.open HA1.out HA2.out
  obtain ⟨W3, hW⟩ : ∃ W, u3.alloc (.cells #[.int .u64 x.id, .bool x.leaf, .string x.label, .slice dA x.attrs.length dc, .string x.text, .slice dK x.kids.length dd] 26) = W := ⟨_, rfl⟩
  have hG : Ext u3 W3 := by rw [← hW]; exact (Ext.refl _).alloc _
  have hF : Ext W2 W3 := hE.trans hG
  have hb3 : NBox W3 u3.heap.size 26 #[.int .u64 x.id, .bool x.leaf, .string x.label, .slice dA x.attrs.length dc, .string x.text, .slice dK x.kids.length dd] := by rw [← hW]; exact NBox.new _ _ _
  replace hz3 := Nd.rd_ext hG hz3
  have H4 := Lib.hid hW
  clear hW hE hr hG
  replace hbn := hbn.ext hF
  replace hbx := hbx.ext hF
  replace hb1 := hb1.ext hF
  replace hb2 := hb2.ext hF
  replace ht := Nd.rd_ext hF ht
  replace hx := Nd.rd_ext hF hx
  replace hz1 := Nd.rd_ext hF hz1
  replace hz2 := Nd.rd_ext hF hz2
  replace hq := RdS.ext hF hq
  replace n0 := hF.cell n0
  replace n1 := hF.cell n1
  replace n2 := hF.cell n2
  replace n3 := hF.cell n3
  replace n4 := hF.cell n4
  replace n5 := hF.cell n5
  replace x0 := hF.cell x0
  replace x1 := hF.cell x1
  replace x2 := hF.cell x2
  replace x3 := hF.cell x3
  replace x4 := hF.cell x4
  replace x5 := hF.cell x5
  replace y0 := hF.cell y0
  replace y1 := hF.cell y1
  replace y2 := hF.cell y2
  replace y3 := hF.cell y3
  replace y4 := hF.cell y4
  replace y5 := hF.cell y5
  replace z0 := hF.cell z0
  replace z1 := hF.cell z1
  replace z2 := hF.cell z2
  replace z3 := hF.cell z3
  replace z4 := hF.cell z4
  replace z5 := hF.cell z5
  replace HE := HE.trans hF
  clear hF
  go_wp2_with (rw [H4.out]; clear H4)
  refine (put_any y z _ _ p _ W3 hz2 hz1 hq (by omega)).mono ?_
  rintro e u4 ⟨r, rfl, hr, hE⟩
  obtain ⟨fA, fc, fK, fd, rfl, hz4⟩ := hr.open HB1.out HB2.out
  obtain ⟨W4, hW⟩ : ∃ W, u4.alloc (.cells #[.int .u64 t.id, .bool t.leaf, .string t.label, .slice fA t.attrs.length fc, .string t.text, .slice fK t.kids.length fd] 26) = W := ⟨_, rfl⟩
  have hG : Ext u4 W4 := by rw [← hW]; exact (Ext.refl _).alloc _
  have hF : Ext W3 W4 := hE.trans hG
  have hb4 : NBox W4 u4.heap.size 26 #[.int .u64 t.id, .bool t.leaf, .string t.label, .slice fA t.attrs.length fc, .string t.text, .slice fK t.kids.length fd] := by rw [← hW]; exact NBox.new _ _ _
  replace hz4 := Nd.rd_ext hG hz4
  have H5 := Lib.hid hW
  clear hW hE hr hG
  replace hbn := hbn.ext hF
  replace hbx := hbx.ext hF
  replace hb1 := hb1.ext hF
  replace hb2 := hb2.ext hF
  replace hb3 := hb3.ext hF
  replace ht := Nd.rd_ext hF ht
  replace hx := Nd.rd_ext hF hx
  replace hz1 := Nd.rd_ext hF hz1
  replace hz2 := Nd.rd_ext hF hz2
  replace hz3 := Nd.rd_ext hF hz3
  replace hq := RdS.ext hF hq
  replace n0 := hF.cell n0
  replace n1 := hF.cell n1
  replace n2 := hF.cell n2
  replace n3 := hF.cell n3
  replace n4 := hF.cell n4
  replace n5 := hF.cell n5
  replace x0 := hF.cell x0
  replace x1 := hF.cell x1
  replace x2 := hF.cell x2
  replace x3 := hF.cell x3
  replace x4 := hF.cell x4
  replace x5 := hF.cell x5
  replace y0 := hF.cell y0
  replace y1 := hF.cell y1
  replace y2 := hF.cell y2
  replace y3 := hF.cell y3
  replace y4 := hF.cell y4
  replace y5 := hF.cell y5
  replace z0 := hF.cell z0
  replace z1 := hF.cell z1
  replace z2 := hF.cell z2
  replace z3 := hF.cell z3
  replace z4 := hF.cell z4
  replace z5 := hF.cell z5
  replace HE := HE.trans hF
  clear hF
  go_wp2_with (rw [H5.out]; clear H5)
  obtain ⟨ny, hny⟩ : ∃ m, y.cnt = m := ⟨_, rfl⟩
  obtain ⟨nt, hnt⟩ : ∃ m, t.cnt = m := ⟨_, rfl⟩
  obtain ⟨nz, hnz⟩ : ∃ m, z.cnt = m := ⟨_, rfl⟩
  obtain ⟨nx, hnx⟩ : ∃ m, x.cnt = m := ⟨_, rfl⟩
  rw [hny] at hcy hcn
  rw [hnt] at hct hcn
  rw [hnz] at hcz hcn
  rw [hnx] at hcx hcn
  have kny : ∀ W, Ext W4 W → Calls Try.prog 18 #[.agg #[.int .u64 y.id, .bool y.leaf, .string y.label, .slice cA y.attrs.length cc, .string y.text, .slice cK y.kids.length cd]] W (Ret W fun r _ => r = .int .i64 (ny : Nat)) := fun W h => by
    have := count_any y _ W (Nd.rd_ext h hz2) (by omega)
    rw [hny] at this
    exact this
  have knt : ∀ W, Ext W4 W → Calls Try.prog 18 #[.agg #[.int .u64 t.id, .bool t.leaf, .string t.label, .slice nA t.attrs.length nc, .string t.text, .slice nK t.kids.length nd]] W (Ret W fun r _ => r = .int .i64 (nt : Nat)) := fun W h => by
    have := count_any t _ W (Nd.rd_ext h ht) (by omega)
    rw [hnt] at this
    exact this
  have knz : ∀ W, Ext W4 W → Calls Try.prog 18 #[.agg #[.int .u64 z.id, .bool z.leaf, .string z.label, .slice bA z.attrs.length bc, .string z.text, .slice bK z.kids.length bd]] W (Ret W fun r _ => r = .int .i64 (nz : Nat)) := fun W h => by
    have := count_any z _ W (Nd.rd_ext h hz1) (by omega)
    rw [hnz] at this
    exact this
  have knx : ∀ W, Ext W4 W → Calls Try.prog 18 #[.agg #[.int .u64 x.id, .bool x.leaf, .string x.label, .slice xA x.attrs.length xc, .string x.text, .slice xK x.kids.length xd]] W (Ret W fun r _ => r = .int .i64 (nx : Nat)) := fun W h => by
    have := count_any x _ W (Nd.rd_ext h hx) (by omega)
    rw [hnx] at this
    exact this
  have ks1 : ∀ W, Ext W4 W → Calls Try.prog 31 #[.agg #[.int .u64 x.id, .bool x.leaf, .string x.label, .slice dA x.attrs.length dc, .string x.text, .slice dK x.kids.length dd], .agg #[.int .u64 x.id, .bool x.leaf, .string x.label, .slice xA x.attrs.length xc, .string x.text, .slice xK x.kids.length xd]] W (Ret W fun r _ => r = .bool true) := fun W h => same_aa2 x _ _ W (Nd.rd_ext h hz3) (Nd.rd_ext h hx)
  have ks2 : ∀ W, Ext W4 W → Calls Try.prog 31 #[.agg #[.int .u64 t.id, .bool t.leaf, .string t.label, .slice fA t.attrs.length fc, .string t.text, .slice fK t.kids.length fd], .agg #[.int .u64 t.id, .bool t.leaf, .string t.label, .slice nA t.attrs.length nc, .string t.text, .slice nK t.kids.length nd]] W (Ret W fun r _ => r = .bool true) := fun W h => same_aa2 t _ _ W (Nd.rd_ext h hz4) (Nd.rd_ext h ht)
  have kw : ∀ W, Ext W4 W → Calls Try.prog 11 #[] W (Ret W fun r _ => r = .bool true) := fun W _ => works_any W
  have heq : ((ny : Int) == (nt : Int) - nz + nx) = true := by rw [beq_iff_eq]; omega
  have hwr1 : IntKind.i64.wrap ((nt : Int) - nz) = (nt : Int) - nz := by rw [IntKind.wrap_i64]; omega
  have hwr2 : IntKind.i64.wrap ((nt : Int) - nz + nx) = (ny : Int) := by rw [IntKind.wrap_i64]; omega
  have by1 : nt ≤ 10000 := by omega
  have by2 : nz ≤ 10000 := by omega
  have by3 : nx ≤ 10000 := by omega
  clear hny hnt hnz hnx hcn hcy hct hcx hcz hw n0 n1 n2 n3 n4 n5 x0 x1 x2 x3 x4 x5 y0 y1 y2 y3 y4 y5 z0 z1 z2 z3 z4 z5 HZ HY HB HP HA1 HA2 HB1 HB2
  refine wp_region_held_drew (S := (fun W => Ext W4 W ∧ W.cell? ⟨w.heap.size, 0, none⟩ = some (.int .u64 t.id) ∧ W.cell? ⟨w.heap.size, 1, none⟩ = some (.bool t.leaf) ∧ W.cell? ⟨w.heap.size, 2, none⟩ = some (.string t.label) ∧ W.cell? ⟨w.heap.size, 3, none⟩ = some (.slice nA t.attrs.length nc) ∧ W.cell? ⟨w.heap.size, 4, none⟩ = some (.string t.text) ∧ W.cell? ⟨w.heap.size, 5, none⟩ = some (.slice nK t.kids.length nd) ∧ W.cell? ⟨w.heap.size + 1, 0, none⟩ = some (.int .u64 x.id) ∧ W.cell? ⟨w.heap.size + 1, 1, none⟩ = some (.bool x.leaf) ∧ W.cell? ⟨w.heap.size + 1, 2, none⟩ = some (.string x.label) ∧ W.cell? ⟨w.heap.size + 1, 3, none⟩ = some (.slice xA x.attrs.length xc) ∧ W.cell? ⟨w.heap.size + 1, 4, none⟩ = some (.string x.text) ∧ W.cell? ⟨w.heap.size + 1, 5, none⟩ = some (.slice xK x.kids.length xd) ∧ W.cell? ⟨u1.heap.size, 0, none⟩ = some (.int .u64 z.id) ∧ W.cell? ⟨u1.heap.size, 1, none⟩ = some (.bool z.leaf) ∧ W.cell? ⟨u1.heap.size, 2, none⟩ = some (.string z.label) ∧ W.cell? ⟨u1.heap.size, 3, none⟩ = some (.slice bA z.attrs.length bc) ∧ W.cell? ⟨u1.heap.size, 4, none⟩ = some (.string z.text) ∧ W.cell? ⟨u1.heap.size, 5, none⟩ = some (.slice bK z.kids.length bd) ∧ W.cell? ⟨u2.heap.size, 0, none⟩ = some (.int .u64 y.id) ∧ W.cell? ⟨u2.heap.size, 1, none⟩ = some (.bool y.leaf) ∧ W.cell? ⟨u2.heap.size, 2, none⟩ = some (.string y.label) ∧ W.cell? ⟨u2.heap.size, 3, none⟩ = some (.slice cA y.attrs.length cc) ∧ W.cell? ⟨u2.heap.size, 4, none⟩ = some (.string y.text) ∧ W.cell? ⟨u2.heap.size, 5, none⟩ = some (.slice cK y.kids.length cd) ∧ W.cell? ⟨u3.heap.size, 0, none⟩ = some (.int .u64 x.id) ∧ W.cell? ⟨u3.heap.size, 1, none⟩ = some (.bool x.leaf) ∧ W.cell? ⟨u3.heap.size, 2, none⟩ = some (.string x.label) ∧ W.cell? ⟨u3.heap.size, 3, none⟩ = some (.slice dA x.attrs.length dc) ∧ W.cell? ⟨u3.heap.size, 4, none⟩ = some (.string x.text) ∧ W.cell? ⟨u3.heap.size, 5, none⟩ = some (.slice dK x.kids.length dd) ∧ W.cell? ⟨u4.heap.size, 0, none⟩ = some (.int .u64 t.id) ∧ W.cell? ⟨u4.heap.size, 1, none⟩ = some (.bool t.leaf) ∧ W.cell? ⟨u4.heap.size, 2, none⟩ = some (.string t.label) ∧ W.cell? ⟨u4.heap.size, 3, none⟩ = some (.slice fA t.attrs.length fc) ∧ W.cell? ⟨u4.heap.size, 4, none⟩ = some (.string t.text) ∧ W.cell? ⟨u4.heap.size, 5, none⟩ = some (.slice fK t.kids.length fd))) (by kernel_rfl) ⟨(Ext.refl W4).drew, hbn.cell 0, hbn.cell 1, hbn.cell 2, hbn.cell 3, hbn.cell 4, hbn.cell 5, hbx.cell 0, hbx.cell 1, hbx.cell 2, hbx.cell 3, hbx.cell 4, hbx.cell 5, hb1.cell 0, hb1.cell 1, hb1.cell 2, hb1.cell 3, hb1.cell 4, hb1.cell 5, hb2.cell 0, hb2.cell 1, hb2.cell 2, hb2.cell 3, hb2.cell 4, hb2.cell 5, hb3.cell 0, hb3.cell 1, hb3.cell 2, hb3.cell 3, hb3.cell 4, hb3.cell 5, hb4.cell 0, hb4.cell 1, hb4.cell 2, hb4.cell 3, hb4.cell 4, hb4.cell 5⟩ (fun hHeld => ?_)
  refine wpAnyH_take (i := 0) (oi := ⟨_, _, _, _, _, _⟩) (v := ?_) rfl (by kernel_rfl) (by kernel_rfl) (by kernel_rfl) (fun _ _ _ h => h) (Or.inl ⟨by rfl, ?_⟩) hHeld ?_
  rotate_left
  · intro w hSw
    try dsimp only at hSw
    go_simp
    all_goals (first | with_reducible rfl | rw [if_pos (by omega)])
  try simp only [Act.put, List.setIfInBounds_toArray, List.set_cons_zero, List.set_cons_succ]
  refine wpAnyH_take (i := 1) (oi := ⟨_, _, _, _, _, _⟩) (v := ?_) rfl (by kernel_rfl) (by kernel_rfl) (by kernel_rfl) (fun _ _ _ h => h) (Or.inl ⟨by rfl, ?_⟩) hHeld ?_
  rotate_left
  · intro w hSw
    try dsimp only at hSw
    go_simp
    all_goals (first | with_reducible rfl | rw [if_pos (by omega)])
  try simp only [Act.put, List.setIfInBounds_toArray, List.set_cons_zero, List.set_cons_succ]
  refine wpAnyH_take (i := 2) (oi := ⟨_, _, _, _, _, _⟩) (v := ?_) rfl (by kernel_rfl) (by kernel_rfl) (by kernel_rfl) (fun _ _ _ h => h) (Or.inl ⟨by rfl, ?_⟩) hHeld ?_
  rotate_left
  · intro w hSw
    try dsimp only at hSw
    go_simp
    all_goals (first | with_reducible rfl | rw [if_pos (by omega)])
  try simp only [Act.put, List.setIfInBounds_toArray, List.set_cons_zero, List.set_cons_succ]
  refine wpAnyH_take (i := 3) (oi := ⟨_, _, _, _, _, _⟩) (v := ?_) rfl (by kernel_rfl) (by kernel_rfl) (by kernel_rfl) (fun _ _ _ h => h) (Or.inl ⟨by rfl, ?_⟩) hHeld ?_
  rotate_left
  · intro w hSw
    try dsimp only at hSw
    go_simp
    all_goals (first | with_reducible rfl | rw [if_pos (by omega)])
  try simp only [Act.put, List.setIfInBounds_toArray, List.set_cons_zero, List.set_cons_succ]
  refine wpAnyH_take (i := 4) (oi := ⟨_, _, _, _, _, _⟩) (v := ?_) rfl (by kernel_rfl) (by kernel_rfl) (by kernel_rfl) (fun _ _ _ h => h) (Or.inl ⟨by rfl, ?_⟩) hHeld ?_
  rotate_left
  · intro w hSw
    try dsimp only at hSw
    go_simp
    all_goals (first | with_reducible rfl | rw [if_pos (by omega)])
  try simp only [Act.put, List.setIfInBounds_toArray, List.set_cons_zero, List.set_cons_succ]
  refine wpAnyH_take (i := 5) (oi := ⟨_, _, _, _, _, _⟩) (v := ?_) rfl (by kernel_rfl) (by kernel_rfl) (by kernel_rfl) (fun _ _ _ h => h) (Or.inl ⟨by rfl, ?_⟩) hHeld ?_
  rotate_left
  · intro w hSw
    try dsimp only at hSw
    go_simp
    all_goals (first | with_reducible rfl | rw [if_pos (by omega)])
  try simp only [Act.put, List.setIfInBounds_toArray, List.set_cons_zero, List.set_cons_succ]
  refine wpAnyH_take (i := 6) (oi := ⟨_, _, _, _, _, _⟩) (v := ?_) rfl (by kernel_rfl) (by kernel_rfl) (by kernel_rfl) (fun _ _ _ h => h) (Or.inl ⟨by rfl, ?_⟩) hHeld ?_
  rotate_left
  · intro w hSw
    try dsimp only at hSw
    go_simp
    all_goals (first | with_reducible rfl | rw [if_pos (by omega)])
  try simp only [Act.put, List.setIfInBounds_toArray, List.set_cons_zero, List.set_cons_succ]
  refine wpAnyH_ready (rs := [7]) (by kernel_rfl) (by simp) ?_
  refine AllReadyH.cons (o := ⟨_, _, _, _, _, _⟩) rfl (fun K' hK => ?_) (AllReadyH.nil)
  go_simp
  go_at_call 31
  refine (ks1 _ hHeld.1).mono ?_
  rintro e u ⟨r, rfl, rfl, hE⟩
  have E2 := Ext.trans hHeld.1 hE
  clear hE hHeld
  refine hK.out _ _ ?_ (fun hHeld => ?_)
  · exact ⟨E2, E2.cell (hbn.cell 0), E2.cell (hbn.cell 1), E2.cell (hbn.cell 2), E2.cell (hbn.cell 3), E2.cell (hbn.cell 4), E2.cell (hbn.cell 5), E2.cell (hbx.cell 0), E2.cell (hbx.cell 1), E2.cell (hbx.cell 2), E2.cell (hbx.cell 3), E2.cell (hbx.cell 4), E2.cell (hbx.cell 5), E2.cell (hb1.cell 0), E2.cell (hb1.cell 1), E2.cell (hb1.cell 2), E2.cell (hb1.cell 3), E2.cell (hb1.cell 4), E2.cell (hb1.cell 5), E2.cell (hb2.cell 0), E2.cell (hb2.cell 1), E2.cell (hb2.cell 2), E2.cell (hb2.cell 3), E2.cell (hb2.cell 4), E2.cell (hb2.cell 5), E2.cell (hb3.cell 0), E2.cell (hb3.cell 1), E2.cell (hb3.cell 2), E2.cell (hb3.cell 3), E2.cell (hb3.cell 4), E2.cell (hb3.cell 5), E2.cell (hb4.cell 0), E2.cell (hb4.cell 1), E2.cell (hb4.cell 2), E2.cell (hb4.cell 3), E2.cell (hb4.cell 4), E2.cell (hb4.cell 5)⟩
  clear hK K'
  try simp only [Act.put, List.setIfInBounds_toArray, List.set_cons_zero, List.set_cons_succ]
  refine wpAnyH_take (i := 8) (oi := ⟨_, _, _, _, _, _⟩) (v := ?_) rfl (by kernel_rfl) (by kernel_rfl) (by kernel_rfl) (fun _ _ _ h => h) (Or.inl ⟨by rfl, ?_⟩) hHeld ?_
  rotate_left
  · intro w hSw
    try dsimp only at hSw
    go_simp
    all_goals (first | with_reducible rfl | rw [if_pos (by omega)])
  try simp only [Act.put, List.setIfInBounds_toArray, List.set_cons_zero, List.set_cons_succ]
  refine wpAnyH_take (i := 9) (oi := ⟨_, _, _, _, _, _⟩) (v := ?_) rfl (by kernel_rfl) (by kernel_rfl) (by kernel_rfl) (fun _ _ _ h => h) (Or.inl ⟨by rfl, ?_⟩) hHeld ?_
  rotate_left
  · intro w hSw
    try dsimp only at hSw
    go_simp
    all_goals (first | with_reducible rfl | rw [if_pos (by omega)])
  try simp only [Act.put, List.setIfInBounds_toArray, List.set_cons_zero, List.set_cons_succ]
  refine wpAnyH_take (i := 10) (oi := ⟨_, _, _, _, _, _⟩) (v := ?_) rfl (by kernel_rfl) (by kernel_rfl) (by kernel_rfl) (fun _ _ _ h => h) (Or.inl ⟨by rfl, ?_⟩) hHeld ?_
  rotate_left
  · intro w hSw
    try dsimp only at hSw
    go_simp
    all_goals (first | with_reducible rfl | rw [if_pos (by omega)])
  try simp only [Act.put, List.setIfInBounds_toArray, List.set_cons_zero, List.set_cons_succ]
  refine wpAnyH_take (i := 11) (oi := ⟨_, _, _, _, _, _⟩) (v := ?_) rfl (by kernel_rfl) (by kernel_rfl) (by kernel_rfl) (fun _ _ _ h => h) (Or.inl ⟨by rfl, ?_⟩) hHeld ?_
  rotate_left
  · intro w hSw
    try dsimp only at hSw
    go_simp
    all_goals (first | with_reducible rfl | rw [if_pos (by omega)])
  try simp only [Act.put, List.setIfInBounds_toArray, List.set_cons_zero, List.set_cons_succ]
  refine wpAnyH_ready (rs := [12]) (by kernel_rfl) (by simp) ?_
  refine AllReadyH.cons (o := ⟨_, _, _, _, _, _⟩) rfl (fun K' hK => ?_) (AllReadyH.nil)
  go_simp
  go_at_call 31
  refine (ks2 _ hHeld.1).mono ?_
  rintro e u ⟨r, rfl, rfl, hE⟩
  have E2 := Ext.trans hHeld.1 hE
  clear hE hHeld
  refine hK.out _ _ ?_ (fun hHeld => ?_)
  · exact ⟨E2, E2.cell (hbn.cell 0), E2.cell (hbn.cell 1), E2.cell (hbn.cell 2), E2.cell (hbn.cell 3), E2.cell (hbn.cell 4), E2.cell (hbn.cell 5), E2.cell (hbx.cell 0), E2.cell (hbx.cell 1), E2.cell (hbx.cell 2), E2.cell (hbx.cell 3), E2.cell (hbx.cell 4), E2.cell (hbx.cell 5), E2.cell (hb1.cell 0), E2.cell (hb1.cell 1), E2.cell (hb1.cell 2), E2.cell (hb1.cell 3), E2.cell (hb1.cell 4), E2.cell (hb1.cell 5), E2.cell (hb2.cell 0), E2.cell (hb2.cell 1), E2.cell (hb2.cell 2), E2.cell (hb2.cell 3), E2.cell (hb2.cell 4), E2.cell (hb2.cell 5), E2.cell (hb3.cell 0), E2.cell (hb3.cell 1), E2.cell (hb3.cell 2), E2.cell (hb3.cell 3), E2.cell (hb3.cell 4), E2.cell (hb3.cell 5), E2.cell (hb4.cell 0), E2.cell (hb4.cell 1), E2.cell (hb4.cell 2), E2.cell (hb4.cell 3), E2.cell (hb4.cell 4), E2.cell (hb4.cell 5)⟩
  clear hK K'
  try simp only [Act.put, List.setIfInBounds_toArray, List.set_cons_zero, List.set_cons_succ]
  refine wpAnyH_take (i := 13) (oi := ⟨_, _, _, _, _, _⟩) (v := ?_) rfl (by kernel_rfl) (by kernel_rfl) (by kernel_rfl) (fun _ _ _ h => h) (Or.inl ⟨by rfl, ?_⟩) hHeld ?_
  rotate_left
  · intro w hSw
    try dsimp only at hSw
    go_simp
    all_goals (first | with_reducible rfl | rw [if_pos (by omega)])
  try simp only [Act.put, List.setIfInBounds_toArray, List.set_cons_zero, List.set_cons_succ]
  refine wpAnyH_take (i := 14) (oi := ⟨_, _, _, _, _, _⟩) (v := ?_) rfl (by kernel_rfl) (by kernel_rfl) (by kernel_rfl) (fun _ _ _ h => h) (Or.inl ⟨by rfl, ?_⟩) hHeld ?_
  rotate_left
  · intro w hSw
    try dsimp only at hSw
    go_simp
    all_goals (first | with_reducible rfl | rw [if_pos (by omega)])
  try simp only [Act.put, List.setIfInBounds_toArray, List.set_cons_zero, List.set_cons_succ]
  refine wpAnyH_take (i := 15) (oi := ⟨_, _, _, _, _, _⟩) (v := ?_) rfl (by kernel_rfl) (by kernel_rfl) (by kernel_rfl) (fun _ _ _ h => h) (Or.inl ⟨by rfl, ?_⟩) hHeld ?_
  rotate_left
  · intro w hSw
    try dsimp only at hSw
    go_simp
    all_goals (first | with_reducible rfl | rw [if_pos (by omega)])
  try simp only [Act.put, List.setIfInBounds_toArray, List.set_cons_zero, List.set_cons_succ]
  refine wpAnyH_take (i := 17) (oi := ⟨_, _, _, _, _, _⟩) (v := ?_) rfl (by kernel_rfl) (by kernel_rfl) (by kernel_rfl) (fun _ _ _ h => h) (Or.inl ⟨by rfl, ?_⟩) hHeld ?_
  rotate_left
  · intro w hSw
    try dsimp only at hSw
    go_simp
    all_goals (first | with_reducible rfl | rw [if_pos (by omega)])
  try simp only [Act.put, List.setIfInBounds_toArray, List.set_cons_zero, List.set_cons_succ]
  refine wpAnyH_take (i := 19) (oi := ⟨_, _, _, _, _, _⟩) (v := ?_) rfl (by kernel_rfl) (by kernel_rfl) (by kernel_rfl) (fun _ _ _ h => h) (Or.inl ⟨by rfl, ?_⟩) hHeld ?_
  rotate_left
  · intro w hSw
    try dsimp only at hSw
    go_simp
    all_goals (first | with_reducible rfl | rw [if_pos (by omega)])
  try simp only [Act.put, List.setIfInBounds_toArray, List.set_cons_zero, List.set_cons_succ]
  refine wpAnyH_take (i := 22) (oi := ⟨_, _, _, _, _, _⟩) (v := ?_) rfl (by kernel_rfl) (by kernel_rfl) (by kernel_rfl) (fun _ _ _ h => h) (Or.inl ⟨by rfl, ?_⟩) hHeld ?_
  rotate_left
  · intro w hSw
    try dsimp only at hSw
    go_simp
    all_goals (first | with_reducible rfl | rw [if_pos (by omega)])
  try simp only [Act.put, List.setIfInBounds_toArray, List.set_cons_zero, List.set_cons_succ]
  refine wpAnyH_ready (rs := [16]) (by kernel_rfl) (by simp) ?_
  refine AllReadyH.cons (o := ⟨_, _, _, _, _, _⟩) rfl (fun K' hK => ?_) (AllReadyH.nil)
  go_simp
  go_at_call 18
  refine (kny _ hHeld.1).mono ?_
  rintro e u ⟨r, rfl, rfl, hE⟩
  have E2 := Ext.trans hHeld.1 hE
  clear hE hHeld
  refine hK.out _ _ ?_ (fun hHeld => ?_)
  · exact ⟨E2, E2.cell (hbn.cell 0), E2.cell (hbn.cell 1), E2.cell (hbn.cell 2), E2.cell (hbn.cell 3), E2.cell (hbn.cell 4), E2.cell (hbn.cell 5), E2.cell (hbx.cell 0), E2.cell (hbx.cell 1), E2.cell (hbx.cell 2), E2.cell (hbx.cell 3), E2.cell (hbx.cell 4), E2.cell (hbx.cell 5), E2.cell (hb1.cell 0), E2.cell (hb1.cell 1), E2.cell (hb1.cell 2), E2.cell (hb1.cell 3), E2.cell (hb1.cell 4), E2.cell (hb1.cell 5), E2.cell (hb2.cell 0), E2.cell (hb2.cell 1), E2.cell (hb2.cell 2), E2.cell (hb2.cell 3), E2.cell (hb2.cell 4), E2.cell (hb2.cell 5), E2.cell (hb3.cell 0), E2.cell (hb3.cell 1), E2.cell (hb3.cell 2), E2.cell (hb3.cell 3), E2.cell (hb3.cell 4), E2.cell (hb3.cell 5), E2.cell (hb4.cell 0), E2.cell (hb4.cell 1), E2.cell (hb4.cell 2), E2.cell (hb4.cell 3), E2.cell (hb4.cell 4), E2.cell (hb4.cell 5)⟩
  clear hK K'
  try simp only [Act.put, List.setIfInBounds_toArray, List.set_cons_zero, List.set_cons_succ]
  refine wpAnyH_ready (rs := [18]) (by kernel_rfl) (by simp) ?_
  refine AllReadyH.cons (o := ⟨_, _, _, _, _, _⟩) rfl (fun K' hK => ?_) (AllReadyH.nil)
  go_simp
  go_at_call 18
  refine (knt _ hHeld.1).mono ?_
  rintro e u ⟨r, rfl, rfl, hE⟩
  have E2 := Ext.trans hHeld.1 hE
  clear hE hHeld
  refine hK.out _ _ ?_ (fun hHeld => ?_)
  · exact ⟨E2, E2.cell (hbn.cell 0), E2.cell (hbn.cell 1), E2.cell (hbn.cell 2), E2.cell (hbn.cell 3), E2.cell (hbn.cell 4), E2.cell (hbn.cell 5), E2.cell (hbx.cell 0), E2.cell (hbx.cell 1), E2.cell (hbx.cell 2), E2.cell (hbx.cell 3), E2.cell (hbx.cell 4), E2.cell (hbx.cell 5), E2.cell (hb1.cell 0), E2.cell (hb1.cell 1), E2.cell (hb1.cell 2), E2.cell (hb1.cell 3), E2.cell (hb1.cell 4), E2.cell (hb1.cell 5), E2.cell (hb2.cell 0), E2.cell (hb2.cell 1), E2.cell (hb2.cell 2), E2.cell (hb2.cell 3), E2.cell (hb2.cell 4), E2.cell (hb2.cell 5), E2.cell (hb3.cell 0), E2.cell (hb3.cell 1), E2.cell (hb3.cell 2), E2.cell (hb3.cell 3), E2.cell (hb3.cell 4), E2.cell (hb3.cell 5), E2.cell (hb4.cell 0), E2.cell (hb4.cell 1), E2.cell (hb4.cell 2), E2.cell (hb4.cell 3), E2.cell (hb4.cell 4), E2.cell (hb4.cell 5)⟩
  clear hK K'
  try simp only [Act.put, List.setIfInBounds_toArray, List.set_cons_zero, List.set_cons_succ]
  refine wpAnyH_ready (rs := [20]) (by kernel_rfl) (by simp) ?_
  refine AllReadyH.cons (o := ⟨_, _, _, _, _, _⟩) rfl (fun K' hK => ?_) (AllReadyH.nil)
  go_simp
  go_at_call 18
  refine (knz _ hHeld.1).mono ?_
  rintro e u ⟨r, rfl, rfl, hE⟩
  have E2 := Ext.trans hHeld.1 hE
  clear hE hHeld
  refine hK.out _ _ ?_ (fun hHeld => ?_)
  · exact ⟨E2, E2.cell (hbn.cell 0), E2.cell (hbn.cell 1), E2.cell (hbn.cell 2), E2.cell (hbn.cell 3), E2.cell (hbn.cell 4), E2.cell (hbn.cell 5), E2.cell (hbx.cell 0), E2.cell (hbx.cell 1), E2.cell (hbx.cell 2), E2.cell (hbx.cell 3), E2.cell (hbx.cell 4), E2.cell (hbx.cell 5), E2.cell (hb1.cell 0), E2.cell (hb1.cell 1), E2.cell (hb1.cell 2), E2.cell (hb1.cell 3), E2.cell (hb1.cell 4), E2.cell (hb1.cell 5), E2.cell (hb2.cell 0), E2.cell (hb2.cell 1), E2.cell (hb2.cell 2), E2.cell (hb2.cell 3), E2.cell (hb2.cell 4), E2.cell (hb2.cell 5), E2.cell (hb3.cell 0), E2.cell (hb3.cell 1), E2.cell (hb3.cell 2), E2.cell (hb3.cell 3), E2.cell (hb3.cell 4), E2.cell (hb3.cell 5), E2.cell (hb4.cell 0), E2.cell (hb4.cell 1), E2.cell (hb4.cell 2), E2.cell (hb4.cell 3), E2.cell (hb4.cell 4), E2.cell (hb4.cell 5)⟩
  clear hK K'
  try simp only [Act.put, List.setIfInBounds_toArray, List.set_cons_zero, List.set_cons_succ]
  refine wpAnyH_take (i := 21) (oi := ⟨_, _, _, _, _, _⟩) (v := ?_) rfl (by kernel_rfl) (by kernel_rfl) (by kernel_rfl) (fun _ _ _ h => h) (Or.inl ⟨by rfl, ?_⟩) hHeld ?_
  rotate_left
  · intro w hSw
    try dsimp only at hSw
    go_simp
    all_goals (first | with_reducible rfl | rw [if_pos (by omega)])
  try simp only [Act.put, List.setIfInBounds_toArray, List.set_cons_zero, List.set_cons_succ]
  refine wpAnyH_ready (rs := [23]) (by kernel_rfl) (by simp) ?_
  refine AllReadyH.cons (o := ⟨_, _, _, _, _, _⟩) rfl (fun K' hK => ?_) (AllReadyH.nil)
  go_simp
  go_at_call 18
  refine (knx _ hHeld.1).mono ?_
  rintro e u ⟨r, rfl, rfl, hE⟩
  have E2 := Ext.trans hHeld.1 hE
  clear hE hHeld
  refine hK.out _ _ ?_ (fun hHeld => ?_)
  · exact ⟨E2, E2.cell (hbn.cell 0), E2.cell (hbn.cell 1), E2.cell (hbn.cell 2), E2.cell (hbn.cell 3), E2.cell (hbn.cell 4), E2.cell (hbn.cell 5), E2.cell (hbx.cell 0), E2.cell (hbx.cell 1), E2.cell (hbx.cell 2), E2.cell (hbx.cell 3), E2.cell (hbx.cell 4), E2.cell (hbx.cell 5), E2.cell (hb1.cell 0), E2.cell (hb1.cell 1), E2.cell (hb1.cell 2), E2.cell (hb1.cell 3), E2.cell (hb1.cell 4), E2.cell (hb1.cell 5), E2.cell (hb2.cell 0), E2.cell (hb2.cell 1), E2.cell (hb2.cell 2), E2.cell (hb2.cell 3), E2.cell (hb2.cell 4), E2.cell (hb2.cell 5), E2.cell (hb3.cell 0), E2.cell (hb3.cell 1), E2.cell (hb3.cell 2), E2.cell (hb3.cell 3), E2.cell (hb3.cell 4), E2.cell (hb3.cell 5), E2.cell (hb4.cell 0), E2.cell (hb4.cell 1), E2.cell (hb4.cell 2), E2.cell (hb4.cell 3), E2.cell (hb4.cell 4), E2.cell (hb4.cell 5)⟩
  clear hK K'
  try simp only [Act.put, List.setIfInBounds_toArray, List.set_cons_zero, List.set_cons_succ]
  refine wpAnyH_take (i := 24) (oi := ⟨_, _, _, _, _, _⟩) (v := ?_) rfl (by kernel_rfl) (by kernel_rfl) (by kernel_rfl) (fun _ _ _ h => h) (Or.inl ⟨by rfl, ?_⟩) hHeld ?_
  rotate_left
  · intro w hSw
    try dsimp only at hSw
    go_simp
    all_goals (first | with_reducible rfl | rw [if_pos (by omega)])
  try simp only [Act.put, List.setIfInBounds_toArray, List.set_cons_zero, List.set_cons_succ]
  refine wpAnyH_take (i := 25) (oi := ⟨_, _, _, _, _, _⟩) (v := ?_) rfl (by kernel_rfl) (by kernel_rfl) (by kernel_rfl) (fun _ _ _ h => h) (Or.inl ⟨by rfl, ?_⟩) hHeld ?_
  rotate_left
  · intro w hSw
    try dsimp only at hSw
    go_simp
    all_goals (first | with_reducible rfl | rw [if_pos (by omega)])
  try simp only [Act.put, List.setIfInBounds_toArray, List.set_cons_zero, List.set_cons_succ]
  refine wpAnyH_take (i := 26) (oi := ⟨_, _, _, _, _, _⟩) (v := ?_) rfl (by kernel_rfl) (by kernel_rfl) (by kernel_rfl) (fun _ _ _ h => h) (Or.inl ⟨by rfl, ?_⟩) hHeld ?_
  rotate_left
  · intro w hSw
    try dsimp only at hSw
    go_simp
    all_goals (first | with_reducible rfl | rw [if_pos (by omega)])
  try simp only [Act.put, List.setIfInBounds_toArray, List.set_cons_zero, List.set_cons_succ]
  refine wpAnyH_take (i := 27) (oi := ⟨_, _, _, _, _, _⟩) (v := ?_) rfl (by kernel_rfl) (by kernel_rfl) (by kernel_rfl) (fun _ _ _ h => h) (Or.inl ⟨by rfl, ?_⟩) hHeld ?_
  rotate_left
  · intro w hSw
    try dsimp only at hSw
    go_simp
    all_goals (first | with_reducible rfl | rw [if_pos (by omega)])
  try simp only [Act.put, List.setIfInBounds_toArray, List.set_cons_zero, List.set_cons_succ]
  refine wpAnyH_ready (rs := [28]) (by kernel_rfl) (by simp) ?_
  refine AllReadyH.cons (o := ⟨_, _, _, _, _, _⟩) rfl (fun K' hK => ?_) (AllReadyH.nil)
  go_simp
  go_at_call 11
  refine (kw _ hHeld.1).mono ?_
  rintro e u ⟨r, rfl, rfl, hE⟩
  have E2 := Ext.trans hHeld.1 hE
  clear hE hHeld
  refine hK.out _ _ ?_ (fun hHeld => ?_)
  · exact ⟨E2, E2.cell (hbn.cell 0), E2.cell (hbn.cell 1), E2.cell (hbn.cell 2), E2.cell (hbn.cell 3), E2.cell (hbn.cell 4), E2.cell (hbn.cell 5), E2.cell (hbx.cell 0), E2.cell (hbx.cell 1), E2.cell (hbx.cell 2), E2.cell (hbx.cell 3), E2.cell (hbx.cell 4), E2.cell (hbx.cell 5), E2.cell (hb1.cell 0), E2.cell (hb1.cell 1), E2.cell (hb1.cell 2), E2.cell (hb1.cell 3), E2.cell (hb1.cell 4), E2.cell (hb1.cell 5), E2.cell (hb2.cell 0), E2.cell (hb2.cell 1), E2.cell (hb2.cell 2), E2.cell (hb2.cell 3), E2.cell (hb2.cell 4), E2.cell (hb2.cell 5), E2.cell (hb3.cell 0), E2.cell (hb3.cell 1), E2.cell (hb3.cell 2), E2.cell (hb3.cell 3), E2.cell (hb3.cell 4), E2.cell (hb3.cell 5), E2.cell (hb4.cell 0), E2.cell (hb4.cell 1), E2.cell (hb4.cell 2), E2.cell (hb4.cell 3), E2.cell (hb4.cell 4), E2.cell (hb4.cell 5)⟩
  clear hK K'
  try simp only [Act.put, List.setIfInBounds_toArray, List.set_cons_zero, List.set_cons_succ]
  refine wpAnyH_take (i := 29) (oi := ⟨_, _, _, _, _, _⟩) (v := ?_) rfl (by kernel_rfl) (by kernel_rfl) (by kernel_rfl) (fun _ _ _ h => h) (Or.inl ⟨by rfl, ?_⟩) hHeld ?_
  rotate_left
  · intro w hSw
    try dsimp only at hSw
    go_simp
    all_goals (first | with_reducible rfl | rw [if_pos (by omega)])
  try simp only [Act.put, List.setIfInBounds_toArray, List.set_cons_zero, List.set_cons_succ]
  refine wpAnyH_take (i := 30) (oi := ⟨_, _, _, _, _, _⟩) (v := ?_) rfl (by kernel_rfl) (by kernel_rfl) (by kernel_rfl) (fun _ _ _ h => h) (Or.inl ⟨by rfl, ?_⟩) hHeld ?_
  rotate_left
  · intro w hSw
    try dsimp only at hSw
    go_simp
    all_goals (first | with_reducible rfl | rw [if_pos (by omega)])
  try simp only [Act.put, List.setIfInBounds_toArray, List.set_cons_zero, List.set_cons_succ]
  refine wpAnyH_done (by kernel_rfl) ?_ _
  go_wp2_with fail
  go_ret
  exact ret_bool (by rfl) (HE.trans hHeld.1)
end Go.Proofs.Ytamkgdkoddoehaa.Bw
