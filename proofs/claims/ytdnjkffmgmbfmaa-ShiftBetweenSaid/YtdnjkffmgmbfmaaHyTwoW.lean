/- Chapter 11: has (23), place (49), moved (25), lies (24), tie (26). (Printed by gsh.py.) -/
import Derived.Test.YtdnjkffmgmbfmaaHyIdsW
import Derived.Test.YtdnjkffmgmbfmaaHyShiftB
import Derived.Test.YtdnjkffmgmbfmaaBsInts
import Derived.Deep.CutRange
import Derived.Test.YtdnjkffmgmbfmaaHyNdPut
import Derived.Deep.RegionHeld3
namespace Go.Proofs.Ytdnjkffmgmbfmaa.Sy
open Go.RowKit Go.Proofs.Ytdnjkffmgmbfmaa.Bw Go.Proofs.Ytdnjkffmgmbfmaa.Bs

/-- The identity of a child, in memory. -/
theorem kid_id {W : World} {t : Nd} {A : Option Addr} {c i : Nat} {x : Nd} (h : RdK W t.kids (.slice A t.kids.length c)) (hx : t.kids[i]? = some x) : ∃ b off, A = some ⟨b, off, none⟩ ∧ W.cell? ⟨b, off + i * 6, none⟩ = some (.int .u64 x.id) := by
 obtain ⟨A', c', he, -, -, k3⟩ := h
 cases he
 obtain ⟨b, off, rfl, hrd⟩ := k3 (by intro h; rw [h] at hx; simp at hx)
 obtain ⟨_, _, _, _, e0, -⟩ := rdKids_get hrd hx
 exact ⟨b, off, rfl, e0⟩
theorem rd_kids {W : World} {t : Nd} {v : Value} (h : t.rd W v) : ∃ uA uc uK ud, v = .agg #[.int .u64 t.id, .bool t.leaf, .string t.label, .slice uA t.attrs.length uc, .string t.text, .slice uK t.kids.length ud] ∧ RdK W t.kids (.slice uK t.kids.length ud) ∧ t.kids.length ≤ ud ∧ ud ≤ 9223372036854775807 := by
 obtain ⟨uA, uc, uK, ud, rfl⟩ := rd_open6 h
 obtain ⟨av, kv, he, -, -, -, -, -, hK⟩ := Nd.rd_open h
 simp only [Value.agg.injEq, Array.mk.injEq, List.cons.injEq, and_true, true_and] at he
 obtain ⟨-, rfl⟩ := he
 have hK0 := hK
 obtain ⟨_, _, e, h1, h2, _⟩ := hK
 cases e
 unfold maxLen at h2
 exact ⟨uA, uc, uK, ud, rfl, hK0, h1, h2⟩
theorem kidIds_get {t x : Nd} {i : Nat} (h : t.kids[i]? = some x) : (kidIds t)[i]? = some x.id := by unfold kidIds; rw [List.getElem?_map, h]; rfl
theorem placeL_cons (x v : Int) (r : List Int) : placeL (x :: r) v = if x = v then 0 else (if placeL r v < 0 then -1 else placeL r v + 1) := rfl
set_option maxRecDepth 100000 in
set_option maxHeartbeats 8000000 in
theorem place_any (t : Nd) (v : Value) (id : Int) (w : World) (ht : t.rd w v) : Calls Try.prog 49 #[v, .int .u64 id] w (Ret w fun r _ => r = .int .i64 (placeL (kidIds t) id)) := by
 obtain ⟨uA, uc, uK, ud, rfl, hK, k1, k2⟩ := rd_kids ht
 obtain ⟨w1, hw1⟩ : ∃ W, w.alloc (.cells #[.int .u64 t.id, .bool t.leaf, .string t.label, .slice uA t.attrs.length uc, .string t.text, .slice uK t.kids.length ud] 42) = W := ⟨_, rfl⟩
 obtain ⟨B, hB⟩ : ∃ B, w.heap.size = B := ⟨_, rfl⟩
 have E1 : Ext w w1 := by rw [← hw1]; exact (Ext.refl w).alloc _
 have HB0 := Lib.hid (show NBox w1 B 42 #[.int .u64 t.id, .bool t.leaf, .string t.label, .slice uA t.attrs.length uc, .string t.text, .slice uK t.kids.length ud] from by rw [← hw1, ← hB]; exact NBox.new w 42 _)
 have HE := Lib.hid E1
 have HW1 := Lib.hid hw1
 have HBB := Lib.hid hB
 have HT := Lib.hid (Nd.rd_ext E1 ht)
 clear hw1 hB E1 ht
 have HKK := Lib.hid (RdK.ext HE.out hK)
 clear hK
 have k5 := HB0.out.cell 5
 go_enter Try.func49, Try.ntmps49
 go_upto_region 1 with fail
 rw [HW1.out, HBB.out]
 clear HW1
 clear k5
 go_wp2_with fail
 go_loopw [5] (fun s5 wr => ∃ i : Nat, s5 = .int .i64 (i : Int) ∧ i ≤ t.kids.length ∧ Hid (placeL (kidIds t) id = if placeL ((kidIds t).drop i) id < 0 then -1 else placeL ((kidIds t).drop i) id + i) ∧ Hid (Ext w1 wr)) (fun s5 _ => t.kids.length - (intOf s5).toNat)
 case atStart => exact ⟨0, rfl, Nat.zero_le _, Lib.hid (by rw [List.drop_zero]; rcases placeL_get (kidIds t) id with ⟨h, -⟩ | ⟨h, -⟩ <;> split <;> omega), Lib.hid (Ext.refl _)⟩
 case round =>
  obtain ⟨i, rfl, hi, HPL, HEr⟩ := hrel
  have k5 := HEr.out.cell (HB0.out.cell 5)
  rcases Nat.lt_or_ge i t.kids.length with hlt | hlt
  ·obtain ⟨x, hx⟩ : ∃ x, t.kids[i]? = some x := ⟨_, List.getElem?_eq_getElem hlt⟩
   obtain ⟨b, off, rfl, c0⟩ := kid_id HKK.out hx
   replace c0 := HEr.out.cell c0
   have hd : (kidIds t).drop i = x.id :: (kidIds t).drop (i + 1) := drop_at (kidIds_get hx)
   have HPL2 := Lib.hid (show placeL (kidIds t) id = if (if x.id = id then (0 : Int) else (if placeL ((kidIds t).drop (i + 1)) id < 0 then -1 else placeL ((kidIds t).drop (i + 1)) id + 1)) < 0 then -1 else (if x.id = id then (0 : Int) else (if placeL ((kidIds t).drop (i + 1)) id < 0 then -1 else placeL ((kidIds t).drop (i + 1)) id + 1)) + i from by have := HPL.out; rw [hd, placeL_cons] at this; exact this)
   clear HPL hd hx
   have q1 : (0 : Int) ≤ (i : Int) := by omega
   have q2 : (i : Int) < (t.kids.length : Int) := by omega
   by_cases he : x.id = id
   ·have d1 : (x.id == id) = true := by rw [beq_iff_eq]; exact he
    have HR := Lib.hid (show placeL (kidIds t) id = i from by rw [HPL2.out, if_pos he, if_neg (by omega)]; omega)
    clear HPL2 he
    go_wp2_with fail
    go_ret
    exact ⟨_, rfl, (by rw [HR.out]; rfl), HE.out.trans HEr.out⟩
   ·have d1 : (x.id == id) = false := by rw [beq_eq_false_iff_ne]; exact he
    have HR := Lib.hid (show placeL (kidIds t) id = if placeL ((kidIds t).drop (i + 1)) id < 0 then -1 else placeL ((kidIds t).drop (i + 1)) id + ((i + 1 : Nat) : Int) from by rw [HPL2.out, if_neg he]; split <;> split <;> omega)
    clear HPL2 he
    go_wp2_with fail
    go_roundw
    case rel => exact ⟨i + 1, by go_num, by omega, HR, HEr⟩
    case measure => simp [intOf]; omega
  ·obtain rfl : i = t.kids.length := by omega
   have HR := Lib.hid (show placeL (kidIds t) id = -1 from by have := HPL.out; rw [List.drop_eq_nil_of_le (by unfold kidIds; rw [List.length_map]; exact Nat.le_refl _)] at this; rw [this]; rfl)
   clear HPL
   go_wp2_with fail
   go_ret
   exact ⟨_, rfl, (by rw [HR.out]; rfl), HE.out.trans HEr.out⟩
set_option maxRecDepth 100000 in
set_option maxHeartbeats 8000000 in
theorem has_any (t : Nd) (v : Value) (id : Int) (w : World) (ht : t.rd w v) (hcn : t.cnt ≤ 1000000) : Calls Try.prog 23 #[v, .int .u64 id] w (Ret w fun r _ => r = .bool (decide (id ∈ t.ids))) := by
 obtain ⟨uA, uc, uK, ud, rfl, hK, k1, k2⟩ := rd_kids ht
 obtain ⟨w1, hw1⟩ : ∃ W, w.alloc (.cells #[.int .u64 t.id, .bool t.leaf, .string t.label, .slice uA t.attrs.length uc, .string t.text, .slice uK t.kids.length ud] 42) = W := ⟨_, rfl⟩
 obtain ⟨B, hB⟩ : ∃ B, w.heap.size = B := ⟨_, rfl⟩
 have E1 : Ext w w1 := by rw [← hw1]; exact (Ext.refl w).alloc _
 have HB0 := Lib.hid (show NBox w1 B 42 #[.int .u64 t.id, .bool t.leaf, .string t.label, .slice uA t.attrs.length uc, .string t.text, .slice uK t.kids.length ud] from by rw [← hw1, ← hB]; exact NBox.new w 42 _)
 have HE := Lib.hid E1
 have HW1 := Lib.hid hw1
 have HBB := Lib.hid hB
 have HT := Lib.hid (Nd.rd_ext E1 ht)
 clear hw1 hB E1 ht
 clear hK k1 k2
 have hc := rids_any t.cnt t _ w1 (Nat.le_refl _) HT.out hcn
 obtain ⟨l, hl⟩ : ∃ l, t.ids = l := ⟨_, rfl⟩
 have HLL := Lib.hid (show l.length ≤ 1000000 from by rw [← hl, Nd.ids_len]; exact hcn)
 rw [hl] at hc ⊢
 clear hl
 obtain ⟨k0, k1, k2, k3, k4, k5⟩ := HB0.out.c6
 go_enter Try.func23, Try.ntmps23
 go_upto_region 1 with fail
 rw [HW1.out, HBB.out]
 clear HW1
 go_wp2_with fail
 refine hc.mono ?_
 clear hc k0 k1 k2 k3 k4 k5
 rintro e w2 ⟨r, rfl, hO, hE⟩
 have hR := RdS.of_owns hO
 obtain ⟨lA, lc, rfl, -, l1, l2, l3⟩ := hR
 have HL3 := Lib.hid l3
 have HE2 := Lib.hid (HE.out.trans hE)
 unfold maxLen at l2
 clear hO l3 hE HT
 go_wp2_with fail
 go_loopw [6] (fun s6 wr => ∃ i : Nat, s6 = .int .i64 (i : Int) ∧ i ≤ l.length ∧ Hid (id ∈ l ↔ id ∈ l.drop i) ∧ Hid (Ext w2 wr)) (fun s6 _ => l.length - (intOf s6).toNat)
 case atStart => exact ⟨0, rfl, Nat.zero_le _, Lib.hid (by rw [List.drop_zero]), Lib.hid (Ext.refl _)⟩
 case round =>
  obtain ⟨i, rfl, hi, HM, HEr⟩ := hrel
  rcases Nat.lt_or_ge i l.length with hlt | hlt
  ·obtain ⟨x, hx⟩ : ∃ x, l[i]? = some x := ⟨_, List.getElem?_eq_getElem hlt⟩
   obtain ⟨b, off, rfl, h5⟩ := HL3.out (by omega)
   have c0 := HEr.out.cell (h5 i (.int .u64 x) (by rw [List.getElem?_map, hx]; rfl))
   have hd := drop_at hx
   have HM2 := Lib.hid (show id ∈ l ↔ id = x ∨ id ∈ l.drop (i + 1) from by have := HM.out; rw [hd, List.mem_cons] at this; exact this)
   clear HM hd hx h5
   have q1 : (0 : Int) ≤ (i : Int) := by omega
   have q2 : (i : Int) < (l.length : Int) := by omega
   by_cases he : x = id
   ·have d1 : (x == id) = true := by rw [beq_iff_eq]; exact he
    have HR := Lib.hid (show decide (id ∈ l) = true from by rw [decide_eq_true_eq]; exact HM2.out.2 (.inl he.symm))
    clear HM2 he
    go_wp2_with fail
    go_ret
    exact ⟨_, rfl, (by rw [HR.out]; rfl), HE2.out.trans HEr.out⟩
   ·have d1 : (x == id) = false := by rw [beq_eq_false_iff_ne]; exact he
    have HR := Lib.hid (show id ∈ l ↔ id ∈ l.drop (i + 1) from by rw [HM2.out]; exact ⟨fun h => h.elim (fun h => absurd h.symm he) (fun h => h), .inr⟩)
    clear HM2 he
    go_wp2_with fail
    go_roundw
    case rel => exact ⟨i + 1, by go_num, by omega, HR, HEr⟩
    case measure => simp [intOf]; omega
  ·obtain rfl : i = l.length := by omega
   have HR := Lib.hid (show decide (id ∈ l) = false from by rw [decide_eq_false_iff_not, HM.out, List.drop_eq_nil_of_le (Nat.le_refl _)]; exact List.not_mem_nil)
   clear HM
   go_wp2_with fail
   go_ret
   exact ⟨_, rfl, (by rw [HR.out]; rfl), HE2.out.trans HEr.out⟩
end Go.Proofs.Ytdnjkffmgmbfmaa.Sy
namespace Go.Proofs.Ytdnjkffmgmbfmaa.Sy
open Go.RowKit Go.Proofs.Ytdnjkffmgmbfmaa.Bw Go.Proofs.Ytdnjkffmgmbfmaa.Bs

set_option maxRecDepth 100000 in
set_option maxHeartbeats 8000000 in
theorem moved_any (t : Nd) (o : OpD) (v ov : Value) (w : World) (ht : t.rd w v) (ho : o.rd w ov) : Calls Try.prog 25 #[v, ov] w (Ret w fun r _ => r = .int .u64 (movedI t o)) := by
 obtain ⟨uA, uc, uK, ud, rfl⟩ := rd_open6 ht
 obtain ⟨pA, pc, tA, tc, cA, cc, rfl, hP, hTo, -⟩ := rdO_cells ho
 obtain ⟨w1, hw1⟩ : ∃ W, (w.alloc (.cells #[.int .u64 t.id, .bool t.leaf, .string t.label, .slice uA t.attrs.length uc, .string t.text, .slice uK t.kids.length ud] 42)).alloc (.cells #[.int .u8 o.kind, .slice pA o.path.length pc, .int .i64 o.at_, .slice tA o.to.length tc, .int .u64 o.id, .bool o.leaf, .string o.label, .string o.key, .string o.value, .bool o.gone, .slice cA o.pcs.length cc] 26) = W := ⟨_, rfl⟩
 obtain ⟨B, hB⟩ : ∃ B, w.heap.size = B := ⟨_, rfl⟩
 have s1 : (w.alloc (.cells #[.int .u64 t.id, .bool t.leaf, .string t.label, .slice uA t.attrs.length uc, .string t.text, .slice uK t.kids.length ud] 42)).heap.size = B + 1 := by rw [World.size_alloc, hB]
 have E1 : Ext w w1 := by rw [← hw1]; exact ((Ext.refl w).alloc _).alloc _
 have HB0 := Lib.hid (show NBox w1 B 42 #[.int .u64 t.id, .bool t.leaf, .string t.label, .slice uA t.attrs.length uc, .string t.text, .slice uK t.kids.length ud] from by rw [← hw1, ← hB]; exact (NBox.new w 42 _).ext ((Ext.refl _).alloc _))
 have HB1 := Lib.hid (show NBox w1 (B + 1) 26 #[.int .u8 o.kind, .slice pA o.path.length pc, .int .i64 o.at_, .slice tA o.to.length tc, .int .u64 o.id, .bool o.leaf, .string o.label, .string o.key, .string o.value, .bool o.gone, .slice cA o.pcs.length cc] from by rw [← hw1, ← s1]; exact NBox.new _ 26 _)
 have HE := Lib.hid E1
 have HW1 := Lib.hid hw1
 have HBB := Lib.hid hB
 have HT := Lib.hid (Nd.rd_ext E1 ht)
 have HPP := Lib.hid (RdS.ext E1 hP)
 clear hw1 hB s1 E1 ht hP hTo ho
 have o0 := HB1.out.cell 0
 go_enter Try.func25, Try.ntmps25
 go_upto_region 1 with fail
 rw [HW1.out, HBB.out]
 clear HW1
 by_cases hk : o.kind = 3
 ·have d1 : (o.kind != 3) = false := by rw [bne_eq_false_iff_eq]; exact hk
  have HK := Lib.hid hk
  have hc := rat_old t _ o.path _ w1 w1 (Sub.refl w1) HT.out HPP.out
  obtain ⟨k0, k1, k2, k3, k4, k5⟩ := HB0.out.c6
  have o1 := HB1.out.cell 1
  clear hk
  go_wp2_with fail
  refine hc.mono ?_
  clear hc o0 o1 k0 k1 k2 k3 k4 k5
  rintro e w2 ⟨r, rfl, ⟨v, rfl, hv⟩, hE⟩
  obtain ⟨x, hx⟩ : ∃ x, (t.at? o.path).getD Nd.zero = x := ⟨_, rfl⟩
  have HX := Lib.hid (show movedI t o = x.id from by unfold movedI; rw [if_pos HK.out, hx])
  rw [hx] at hv
  obtain ⟨xA, xc, xK, xd, rfl⟩ := rd_open6 hv
  have HE2 := Lib.hid (HE.out.trans hE)
  obtain ⟨wa, hwa⟩ : ∃ q, w2.alloc (.cells #[.int .u64 0, .bool false, .string ⟨#[]⟩, .slice none 0 0, .string ⟨#[]⟩, .slice none 0 0] 42) = q := ⟨_, rfl⟩
  obtain ⟨P, hP⟩ : ∃ q, w2.heap.size = q := ⟨_, rfl⟩
  have XA : Ext w2 wa := by rw [← hwa]; exact (Ext.refl _).alloc _
  have bM : NBox wa P 42 #[.int .u64 0, .bool false, .string ⟨#[]⟩, .slice none 0 0, .string ⟨#[]⟩, .slice none 0 0] := by rw [← hwa, ← hP]; exact NBox.new _ _ _
  obtain ⟨y0, y1, y2, y3, y4, y5⟩ := bM.c6
  obtain ⟨z0, z1, z2, z3, z4, z5⟩ := bM.f6
  have F8 := Fr.six wa P (.int .u64 x.id) (.bool x.leaf) (.string x.label) (.slice xA x.attrs.length xc) (.string x.text) (.slice xK x.kids.length xd)
  have b6 := NBox.six bM (.int .u64 x.id) (.bool x.leaf) (.string x.label) (.slice xA x.attrs.length xc) (.string x.text) (.slice xK x.kids.length xd)
  have HX8 := Lib.hid (Fr.ext XA F8 (fun q hq => by rw [show q = P from hq, hP]; exact Nat.le_refl _))
  have HWA := Lib.hid hwa
  have HPQ := Lib.hid hP
  have x0 := b6.cell 0
  clear hwa hP XA bM F8 hE hv hx b6
  go_upto_region 4 with (rw [HWA.out, HPQ.out]; clear HWA)
  clear y0 y1 y2 y3 y4 y5 z0 z1 z2 z3 z4 z5
  go_wp2_with fail
  go_ret
  exact ⟨_, rfl, (by rw [HX.out]; rfl), HE2.out.trans HX8.out⟩
 ·have d1 : (o.kind != 3) = true := by rw [bne_iff_ne]; exact hk
  have HX := Lib.hid (show movedI t o = 0 from by unfold movedI; rw [if_neg hk])
  clear hk
  go_wp2_with fail
  go_ret
  exact ⟨_, rfl, (by rw [HX.out]; rfl), HE.out⟩
set_option maxRecDepth 100000 in
set_option maxHeartbeats 8000000 in
theorem lies_any (x y : Nd) (xv yv : Value) (a g but : Int) (w : World) (hx : x.rd w xv) (hy : y.rd w yv) (hl : ∀ (k : Nat) (v : Int), (kidIds x)[k]? = some v → v ≠ but → 0 ≤ placeL (kidIds y) v → (placeL (kidIds y) v < g ↔ (k : Int) < a)) : Calls Try.prog 24 #[xv, yv, .int .i64 a, .int .i64 g, .int .u64 but] w (Ret w fun r _ => r = .bool true) := by
 obtain ⟨uA, uc, uK, ud, rfl, hK, k1, k2⟩ := rd_kids hx
 obtain ⟨vA, vc, vK, vd, rfl⟩ := rd_open6 hy
 obtain ⟨w1, hw1⟩ : ∃ W, (w.alloc (.cells #[.int .u64 x.id, .bool x.leaf, .string x.label, .slice uA x.attrs.length uc, .string x.text, .slice uK x.kids.length ud] 42)).alloc (.cells #[.int .u64 y.id, .bool y.leaf, .string y.label, .slice vA y.attrs.length vc, .string y.text, .slice vK y.kids.length vd] 42) = W := ⟨_, rfl⟩
 obtain ⟨B, hB⟩ : ∃ B, w.heap.size = B := ⟨_, rfl⟩
 have s1 : (w.alloc (.cells #[.int .u64 x.id, .bool x.leaf, .string x.label, .slice uA x.attrs.length uc, .string x.text, .slice uK x.kids.length ud] 42)).heap.size = B + 1 := by rw [World.size_alloc, hB]
 have E1 : Ext w w1 := by rw [← hw1]; exact ((Ext.refl w).alloc _).alloc _
 have HB0 := Lib.hid (show NBox w1 B 42 #[.int .u64 x.id, .bool x.leaf, .string x.label, .slice uA x.attrs.length uc, .string x.text, .slice uK x.kids.length ud] from by rw [← hw1, ← hB]; exact (NBox.new w 42 _).ext ((Ext.refl _).alloc _))
 have HB1 := Lib.hid (show NBox w1 (B + 1) 42 #[.int .u64 y.id, .bool y.leaf, .string y.label, .slice vA y.attrs.length vc, .string y.text, .slice vK y.kids.length vd] from by rw [← hw1, ← s1]; exact NBox.new _ 42 _)
 have HE := Lib.hid E1
 have HW1 := Lib.hid hw1
 have HBB := Lib.hid hB
 have HKK := Lib.hid (RdK.ext E1 hK)
 have HYY := Lib.hid (Nd.rd_ext E1 hy)
 have HL := Lib.hid hl
 clear hw1 hB s1 E1 hx hy hK hl
 go_enter Try.func24, Try.ntmps24
 go_upto_region 1 with fail
 rw [HW1.out, HBB.out]
 clear HW1
 go_wp2_with fail
 go_loopw [11] (fun s11 wr => ∃ i : Nat, s11 = .int .i64 (i : Int) ∧ i ≤ x.kids.length ∧ Hid (Ext w1 wr)) (fun s11 _ => x.kids.length - (intOf s11).toNat)
 case atStart => exact ⟨0, rfl, Nat.zero_le _, Lib.hid (Ext.refl _)⟩
 case round =>
  obtain ⟨i, rfl, hi, HEr⟩ := hrel
  have k5 := HEr.out.cell (HB0.out.cell 5)
  rcases Nat.lt_or_ge i x.kids.length with hlt | hlt
  ·obtain ⟨c, hc⟩ : ∃ c, x.kids[i]? = some c := ⟨_, List.getElem?_eq_getElem hlt⟩
   obtain ⟨b, off, rfl, c0⟩ := kid_id HKK.out hc
   replace c0 := HEr.out.cell c0
   have q1 : (0 : Int) ≤ (i : Int) := by omega
   have q2 : (i : Int) < (x.kids.length : Int) := by omega
   have HLI := Lib.hid (HL.out i c.id (kidIds_get hc))
   clear hc
   by_cases he : c.id = but
   ·have d1 : (c.id == but) = true := by rw [beq_iff_eq]; exact he
    clear he
    go_wp2_with fail
    go_roundw
    case rel => exact ⟨i + 1, by go_num, by omega, HEr⟩
    case measure => simp [intOf]; omega
   ·have d1 : (c.id == but) = false := by rw [beq_eq_false_iff_ne]; exact he
    have HLJ := Lib.hid (HLI.out he)
    clear he
    obtain ⟨now, hnow⟩ : ∃ q, placeL (kidIds y) c.id = q := ⟨_, rfl⟩
    rw [hnow] at HLJ
    have hcl := place_any y _ c.id wr.drew (Nd.rd_ext (HEr.out.trans (Ext.refl wr).drew) HYY.out)
    rw [hnow] at hcl
    have g0 := HEr.out.cell (HB1.out.cell 0)
    have g1 := HEr.out.cell (HB1.out.cell 1)
    have g2 := HEr.out.cell (HB1.out.cell 2)
    have g3 := HEr.out.cell (HB1.out.cell 3)
    have g4 := HEr.out.cell (HB1.out.cell 4)
    have g5 := HEr.out.cell (HB1.out.cell 5)
    clear hnow
    go_upto_region 5 with fail
    go_still_tail 7, (by kernel_rfl)
    change wpList _ _ _ _ _ wr.drew
    go_wp2_with fail
    refine hcl.mono ?_
    clear hcl g0 g1 g2 g3 g4 g5 c0 k5
    rintro e w4 ⟨r, rfl, rfl, hE4⟩
    have HEs := Lib.hid (HEr.out.trans ((Ext.refl wr).drew.trans hE4))
    clear hE4
    rcases Int.lt_or_le now 0 with h0 | h0
    ·have d2 : decide ((0 : Int) ≤ now) = false := decide_eq_false (by omega)
     go_wp2_with fail
     go_roundw
     case rel => exact ⟨i + 1, by go_num, by omega, HEs⟩
     case measure => simp [intOf]; omega
    ·have d2 : decide ((0 : Int) ≤ now) = true := decide_eq_true h0
     have hiff := HLJ.out h0
     rcases Int.lt_or_le now g with h1 | h1
     ·have d3 : decide (now < g) = true := decide_eq_true h1
      have d4 : decide ((i : Int) < a) = true := decide_eq_true (hiff.1 h1)
      clear hiff
      go_wp2_with fail
      go_roundw
      case rel => exact ⟨i + 1, by go_num, by omega, HEs⟩
      case measure => simp [intOf]; omega
     ·have d3 : decide (now < g) = false := decide_eq_false (by omega)
      have d4 : decide ((i : Int) < a) = false := decide_eq_false (fun h => by have := hiff.2 h; omega)
      clear hiff
      go_wp2_with fail
      go_roundw
      case rel => exact ⟨i + 1, by go_num, by omega, HEs⟩
      case measure => simp [intOf]; omega
  ·obtain rfl : i = x.kids.length := by omega
   go_wp2_with fail
   go_ret
   exact ⟨_, rfl, rfl, HE.out.trans HEr.out⟩
end Go.Proofs.Ytdnjkffmgmbfmaa.Sy
