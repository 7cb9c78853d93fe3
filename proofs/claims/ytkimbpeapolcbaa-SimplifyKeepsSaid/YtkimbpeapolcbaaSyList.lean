/- Chapter 10: List (18). (Printed by gsylist.py.) -/
import Derived.Test.YtkimbpeapolcbaaSyPair
import Derived.Test.YtkimbpeapolcbaaSyListD
import Derived.Test.YtkimbpeapolcbaaSyOuAt
namespace Go.Proofs.Ytkimbpeapolcbaa.Sy
open Go.RowKit Go.Proofs.Ytkimbpeapolcbaa.Bw Go.Proofs.Ytkimbpeapolcbaa.Bs

set_option maxRecDepth 100000 in
set_option maxHeartbeats 8000000 in
theorem list18_any (l : List OpD) (v : Value) (w : World) (h : RdL w l v) (hl : l.length ≤ 10000) (hk : ∀ o ∈ l, OkLen o) : Calls Try.prog 18 #[v] w (fun e W' => Ext w W' ∧ ∃ u, e = .returned u ∧ lsV w.heap.size (listD l) u W') := by
 have HL := Lib.hid h
 have HK := Lib.hid hk
 obtain ⟨LA, Lc, rfl, l1, l2, -⟩ := id h
 have HD := Lib.hid (show listD l = (stepsD [] l).reverse from rfl)
 rw [HD.out]
 obtain ⟨fin, hfin⟩ : ∃ s, stepsD [] l = s := ⟨_, rfl⟩
 rw [hfin]
 have HF0 := Lib.hid hfin
 clear h hk HD hfin
 go_enter Try.func18, Try.ntmps18
 go_wp2_with fail
 go_loopw [3, 11] (fun s3 s11 wr => ∃ (i : Nat) (L : List OpD) (A : Option Addr) (c : Nat), s11 = .int .i64 (i : Int) ∧ i ≤ l.length ∧ s3 = .slice A L.length c ∧ L.length ≤ i ∧ Hid (Ext w wr) ∧ Hid (∀ o ∈ L, OkLen o) ∧ Hid (rowV2 RdO 26 11 w.heap.size L (.slice A L.length c) wr) ∧ Hid (stepsD L.reverse (l.drop i) = fin)) (fun _ s11 _ => l.length - (intOf s11).toNat)
 case atStart => exact ⟨0, [], none, 0, rfl, Nat.zero_le _, rfl, Nat.le_refl _, Lib.hid (Ext.refl w), Lib.hid (fun o ho => absurd ho List.not_mem_nil), Lib.hid (lsV.none_ _ _), HF0⟩
 case round =>
  obtain ⟨i, L, A, c, rfl, hi, rfl, hLi, HE, HOK, HR, HN⟩ := hrel
  rcases Nat.lt_or_ge i l.length with hlt | hlt
  case inr =>
   obtain rfl : i = l.length := by omega
   have HFI : Hid (L.reverse = fin) := Lib.hid (by rw [← HN.out, List.drop_eq_nil_of_le (Nat.le_refl _)]; rfl)
   have q1 : ¬ ((l.length : Int) < (l.length : Int)) := Int.lt_irrefl _
   clear HN
   go_wp2_with fail
   go_ret
   refine ⟨HE.out, _, rfl, ?_⟩
   rw [← HFI.out, List.reverse_reverse]
   exact HR.out
  have q1 : (0 : Int) ≤ (i : Int) := by omega
  have q2 : (i : Int) < (l.length : Int) := by omega
  obtain ⟨o, ho⟩ : ∃ o, l[i]? = some o := ⟨_, List.getElem?_eq_getElem hlt⟩
  have HOL := Lib.hid (HK.out o (List.mem_of_getElem? ho))
  have HN2 : Hid (stepsD (stepD L.reverse o) (l.drop (i + 1)) = fin) := Lib.hid (by rw [← HN.out, drop_at ho, stepsD_cons])
  obtain ⟨ba, oa, pv, tv, cv, rfl, hrd, c0, c1, c2, c3, c4, c5, c6, c7, c8, c9, c10⟩ := lsame_at (HL.out.ext HE.out) ho
  have HRO := Lib.hid hrd
  obtain ⟨pA, pc, tA, tc, cA, cc, he, -, -, -⟩ := rdO_cells hrd
  simp only [Value.agg.injEq, Array.mk.injEq, List.cons.injEq, true_and, and_true] at he
  obtain ⟨rfl, rfl, rfl⟩ := he
  clear hrd ho HN
  obtain ⟨wa, hwa⟩ : ∃ W, wr.alloc (.cells #[.int .u8 0, .slice none 0 0, .int .i64 0, .slice none 0 0, .int .u64 0, .bool false, .string ⟨#[]⟩, .string ⟨#[]⟩, .string ⟨#[]⟩, .bool false, .slice none 0 0] 26) = W := ⟨_, rfl⟩
  obtain ⟨Z, hZ⟩ : ∃ g, wr.heap.size = g := ⟨_, rfl⟩
  have XA : Ext wr wa := by rw [← hwa]; exact (Ext.refl _).alloc _
  have bZ : NBox wa Z 26 #[.int .u8 0, .slice none 0 0, .int .i64 0, .slice none 0 0, .int .u64 0, .bool false, .string ⟨#[]⟩, .string ⟨#[]⟩, .string ⟨#[]⟩, .bool false, .slice none 0 0] := by rw [← hwa, ← hZ]; exact NBox.new _ _ _
  obtain ⟨wb, hwb⟩ : ∃ W, (World.setCell (World.setCell (World.setCell (World.setCell (World.setCell (World.setCell (World.setCell (World.setCell (World.setCell (World.setCell (World.setCell wa ⟨Z, 0, none⟩ (.int .u8 o.kind)) ⟨Z, 1, none⟩ (.slice pA o.path.length pc)) ⟨Z, 2, none⟩ (.int .i64 o.at_)) ⟨Z, 3, none⟩ (.slice tA o.to.length tc)) ⟨Z, 4, none⟩ (.int .u64 o.id)) ⟨Z, 5, none⟩ (.bool o.leaf)) ⟨Z, 6, none⟩ (.string o.label)) ⟨Z, 7, none⟩ (.string o.key)) ⟨Z, 8, none⟩ (.string o.value)) ⟨Z, 9, none⟩ (.bool o.gone)) ⟨Z, 10, none⟩ (.slice cA o.pcs.length cc)) = W := ⟨_, rfl⟩
  have F5 : Fr wa wb (fun k => k = Z) := by rw [← hwb]; exact Fr.s11 _ _ _ _ _ _ _ _ _ _ _ _ _
  have XB : Ext wr wb := Fr.ext XA F5 (fun q hq => by rw [show q = Z from hq, ← hZ]; exact Nat.le_refl _)
  have HZB := Lib.hid (show NBox wb Z 26 #[.int .u8 o.kind, .slice pA o.path.length pc, .int .i64 o.at_, .slice tA o.to.length tc, .int .u64 o.id, .bool o.leaf, .string o.label, .string o.key, .string o.value, .bool o.gone, .slice cA o.pcs.length cc] from by rw [← hwb]; exact bZ.s11 _ _ _ _ _ _ _ _ _ _ _)
  have HE2 := Lib.hid (HE.out.trans XB)
  have HR2 := Lib.hid (HR.out.ext XB)
  have HRO2 := Lib.hid (OpD.rd_ext XB HRO.out)
  have HWA := Lib.hid hwa
  have HZZ := Lib.hid hZ
  have HWB := Lib.hid hwb
  have y0 := bZ.cell 0
  have z0 := bZ.frozen 0
  have y1 := bZ.cell 1
  have z1 := bZ.frozen 1
  have y2 := bZ.cell 2
  have z2 := bZ.frozen 2
  have y3 := bZ.cell 3
  have z3 := bZ.frozen 3
  have y4 := bZ.cell 4
  have z4 := bZ.frozen 4
  have y5 := bZ.cell 5
  have z5 := bZ.frozen 5
  have y6 := bZ.cell 6
  have z6 := bZ.frozen 6
  have y7 := bZ.cell 7
  have z7 := bZ.frozen 7
  have y8 := bZ.cell 8
  have z8 := bZ.frozen 8
  have y9 := bZ.cell 9
  have z9 := bZ.frozen 9
  have y10 := bZ.cell 10
  have z10 := bZ.frozen 10
  clear hwa hZ XA bZ hwb F5 XB HE HR HRO
  go_upto_region 5 with (rw [HWA.out, HZZ.out]; clear HWA HZZ)
  rw [HWB.out]
  clear HWB y0 z0 y1 z1 y2 z2 y3 z3 y4 z4 y5 z5 y6 z6 y7 z7 y8 z8 y9 z9 y10 z10 c0 c1 c2 c3 c4 c5 c6 c7 c8 c9 c10
  have k0 := HZB.out.cell 0
  have k1 := HZB.out.cell 1
  have k2 := HZB.out.cell 2
  have k3 := HZB.out.cell 3
  have k4 := HZB.out.cell 4
  have k5 := HZB.out.cell 5
  have k6 := HZB.out.cell 6
  have k7 := HZB.out.cell 7
  have k8 := HZB.out.cell 8
  have k9 := HZB.out.cell 9
  have k10 := HZB.out.cell 10
  have hc := idle_any o _ wb HRO2.out
  obtain ⟨id_, hid_⟩ : ∃ b, idleD o = b := ⟨_, rfl⟩
  have HST := Lib.hid (show stepD L.reverse o = if idleD o then L.reverse else redF (L.reverse.length + 1) (bareD o :: L.reverse) from rfl)
  rw [hid_] at hc HST
  clear hid_
  go_wp2_with fail
  refine hc.mono ?_
  clear hc k0 k1 k2 k3 k4 k5 k6 k7 k8 k9 k10
  rintro e w3 ⟨r, rfl, rfl, hE⟩
  have HE3 := Lib.hid (HE2.out.trans hE)
  have HR3 := Lib.hid (HR2.out.ext hE)
  have HRO3 := Lib.hid (OpD.rd_ext hE HRO2.out)
  have HZ3 := Lib.hid (HZB.out.ext hE)
  clear hE HE2 HR2 HRO2 HZB
  cases id_ with
  | true =>
   have HN3 : Hid (stepsD L.reverse (l.drop (i + 1)) = fin) := Lib.hid (by rw [← HN2.out, HST.out]; rfl)
   clear HST HN2 HRO3 HZ3
   go_wp2_with fail
   go_roundw
   case rel => exact ⟨i + 1, L, A, c, by go_num, by omega, rfl, by omega, HE3, HOK, HR3, HN3⟩
   case measure => simp [intOf]; omega
  | false =>
  have HST2 : Hid (stepD L.reverse o = redF (L.length + 1) (bareD o :: L.reverse)) := Lib.hid (by rw [HST.out, List.length_reverse]; rfl)
  clear HST
  have k0 := HZ3.out.cell 0
  have k1 := HZ3.out.cell 1
  have k2 := HZ3.out.cell 2
  have k3 := HZ3.out.cell 3
  have k4 := HZ3.out.cell 4
  have k5 := HZ3.out.cell 5
  have k6 := HZ3.out.cell 6
  have k7 := HZ3.out.cell 7
  have k8 := HZ3.out.cell 8
  have k9 := HZ3.out.cell 9
  have k10 := HZ3.out.cell 10
  have hok := bareD_ok (OpD.rd_ok HRO3.out)
  have hbl := bareD_len2 HOL.out
  have hc := bare35_any o _ w3 HRO3.out HOL.out.1 HOL.out.2.1 HOL.out.2.2
  obtain ⟨B, hB⟩ : ∃ B, bareD o = B := ⟨_, rfl⟩
  rw [hB] at hc hok hbl HST2
  clear hB
  go_wp2_with fail
  refine hc.mono ?_
  clear hc k0 k1 k2 k3 k4 k5 k6 k7 k8 k9 k10
  rintro e w4 ⟨hE, u9, rfl, hO⟩
  have HE4 := Lib.hid (HE3.out.trans hE)
  have HR4 := Lib.hid (HR3.out.ext hE)
  have hO := hO.low HE3.out.size
  clear hE HE3 HR3 HRO3 HZ3
  obtain ⟨eA, ec, fA, fc, sA, sc, rfl, k1, k2, k3⟩ := hO
  obtain ⟨w5, hw5⟩ : ∃ W, w4.alloc (.cells #[.int .u8 B.kind, .slice eA B.path.length ec, .int .i64 B.at_, .slice fA B.to.length fc, .int .u64 B.id, .bool B.leaf, .string B.label, .string B.key, .string B.value, .bool B.gone, .slice sA B.pcs.length sc] 26) = W := ⟨_, rfl⟩
  obtain ⟨N, hN⟩ : ∃ g, w4.heap.size = g := ⟨_, rfl⟩
  have X5 : Ext w4 w5 := by rw [← hw5]; exact (Ext.refl _).alloc _
  have bN : NBox w5 N 26 #[.int .u8 B.kind, .slice eA B.path.length ec, .int .i64 B.at_, .slice fA B.to.length fc, .int .u64 B.id, .bool B.leaf, .string B.label, .string B.key, .string B.value, .bool B.gone, .slice sA B.pcs.length sc] := by rw [← hw5, ← hN]; exact NBox.new _ _ _
  have HE5 := Lib.hid (HE4.out.trans X5)
  have HR5 := HR4.out.ext X5
  obtain ⟨us1, ho1, hla1⟩ := HR5
  have hx : Late (rowS w.heap.size (.slice A L.length c)) (fun W => B.rd W (.agg #[.int .u8 B.kind, .slice eA B.path.length ec, .int .i64 B.at_, .slice fA B.to.length fc, .int .u64 B.id, .bool B.leaf, .string B.label, .string B.key, .string B.value, .bool B.gone, .slice sA B.pcs.length sc])) w5 := OpO.lateRow (OpO.ext ⟨_, _, _, _, _, _, rfl, k1, k2, k3⟩ X5) hok ho1 (Nat.le_refl _)
  have hrow := bN.row
  have hones := ones11 (c0 := .int .u8 B.kind) (c1 := .slice eA B.path.length ec) (c2 := .int .i64 B.at_) (c3 := .slice fA B.to.length fc) (c4 := .int .u64 B.id) (c5 := .bool B.leaf) (c6 := .string B.label) (c7 := .string B.key) (c8 := .string B.value) (c9 := .bool B.gone) (c10 := .slice sA B.pcs.length sc) ⟨rfl, rfl, rfl, rfl, rfl, rfl, rfl, rfl, rfl, rfl, rfl⟩
  have HW5 := Lib.hid hw5
  have HNN := Lib.hid hN
  have hsz := HE5.out.size
  clear hw5 hN X5 bN HE4 HR4 k1 k2 k3 hok
  go_wp2_with (first | (at_builtin; rw [HW5.out, HNN.out]; refine wpList_append_rd rfl rfl T30 (v := _) (by rfl) ho1 (by rfl) hrow hones (by omega) (by simp only [maxLen]; omega) hsz ?_))
  intro v6 w6 h6 hg hat6
  have HE6 := Lib.hid (Fr.ext HE5.out (Fr.grown hg) (fun k hk => owns_base ho1 k hk))
  have HR6 := Lib.hid (rowV2.push hla1 rfl hx hg hat6 h6)
  clear hx hrow hones HW5 HNN hsz hg hat6 h6 hla1 ho1 HE5
  obtain ⟨L1, hL1⟩ : ∃ M, L ++ [B] = M := ⟨_, rfl⟩
  have hlen1 : L1.length = L.length + 1 := by rw [← hL1]; simp
  have HOK1 : Hid (∀ o ∈ L1, OkLen o) := Lib.hid (by
   rw [← hL1]
   intro q hq
   rcases List.mem_append.1 hq with hq | hq
   ·exact HOK.out q hq
   ·rw [List.mem_singleton] at hq; subst hq; exact hbl)
  obtain ⟨fi, hfi⟩ : ∃ s, stepD L.reverse o = s := ⟨_, rfl⟩
  have HRED : Hid (redF (L.length + 1) L1.reverse = fi) := Lib.hid (by rw [← hfi, HST2.out, ← hL1]; simp)
  rw [hfi] at HN2
  rw [hL1] at HR6
  have hl1b : L1.length ≤ L.length + 1 := by omega
  clear hfi hL1 hlen1 HST2 HOK hbl
  obtain ⟨A1, c1, rfl⟩ := lsV.slice HR6.out
  go_wp2_with fail
  go_loopw [3] (fun s3 wr => ∃ (k : Nat) (L : List OpD) (A : Option Addr) (c : Nat), s3 = .slice A L.length c ∧ L.length ≤ k ∧ k ≤ i + 1 ∧ Hid (Ext w wr) ∧ Hid (∀ o ∈ L, OkLen o) ∧ Hid (rowV2 RdO 26 11 w.heap.size L (.slice A L.length c) wr) ∧ Hid (redF k L.reverse = fi)) (fun s3 _ => lenOf s3)
  case atStart => exact ⟨L.length + 1, L1, A1, c1, rfl, hl1b, by omega, HE6, HOK1, HR6, HRED⟩
  case round =>
   clear HE6 HOK1 HR6 HRED hl1b
   obtain ⟨k, L2, A2, c2, rfl, hLk, hki, HE, HOK, HR, HRE⟩ := hrel
   rcases Nat.lt_or_ge 1 L2.length with hbig | hsm
   case inr =>
    have t1 : decide ((1 : Int) < (L2.length : Int)) = false := decide_eq_false (by omega)
    have HFI : Hid (L2.reverse = fi) := Lib.hid (by rw [← HRE.out, redF_small k (by rw [List.length_reverse]; exact hsm)])
    have HN3 : Hid (stepsD L2.reverse (l.drop (i + 1)) = fin) := Lib.hid (by rw [HFI.out]; exact HN2.out)
    clear HRE HFI
    go_wp2_with fail
    go_roundw
    case rel => exact ⟨i + 1, L2, A2, c2, by go_num, by omega, rfl, by omega, HE, HOK, HR, HN3⟩
    case measure => simp [intOf]; omega
   have t1 : decide ((1 : Int) < (L2.length : Int)) = true := decide_eq_true (by omega)
   obtain ⟨y, x, r, hrev⟩ : ∃ y x r, L2.reverse = y :: x :: r := by
    rcases hq : L2.reverse with _ | ⟨y, _ | ⟨x, r⟩⟩
    ·have := congrArg List.length hq; rw [List.length_reverse] at this; simp only [List.length_nil] at this; omega
    ·have := congrArg List.length hq; rw [List.length_reverse] at this; simp only [List.length_cons, List.length_nil] at this; omega
    ·exact ⟨y, x, r, rfl⟩
   have hL2 := last_two hrev
   obtain ⟨R, hRr⟩ : ∃ R, r.reverse = R := ⟨_, rfl⟩
   rw [hRr] at hL2
   have HRR := Lib.hid (show r = R.reverse from by rw [← hRr, List.reverse_reverse])
   have hM : L2.length = R.length + 2 := by rw [hL2]; simp
   have HREV := Lib.hid hrev
   have HL2 := Lib.hid hL2
   have gx : L2[R.length]? = some x := by rw [hL2]; simp
   have gy : L2[R.length + 1]? = some y := by rw [hL2]; simp
   have HOx := Lib.hid (HOK.out x (List.mem_of_getElem? gx))
   have HOy := Lib.hid (HOK.out y (List.mem_of_getElem? gy))
   have HOR := Lib.hid (fun o (ho : o ∈ R) => HOK.out o (by rw [hL2]; exact List.mem_append_left _ ho))
   have HFR := Lib.hid (rowV2.front (hL2 ▸ HR.out))
   obtain ⟨bx, ox, xp, xt, xc, hAx, rdx, c0, c1_, c2_, c3, c4, c5, c6, c7, c8, c9, c10⟩ := lsame_at (lsV.rd HR.out) gx
   obtain ⟨by_, oy, yp, yt, yc, hAy, rdy, d0, d1, d2, d3, d4, d5, d6, d7, d8, d9, d10⟩ := lsame_at (lsV.rd HR.out) gy
   subst hAx
   cases hAy
   have hc := pair13_any x y _ _ wr.drew (OpD.rd_ext (Ext.refl _).drew rdx) (OpD.rd_ext (Ext.refl _).drew rdy) HOx.out HOy.out
   obtain ⟨pA, pc, tA, tc, cA, cc, he, -, -, -⟩ := rdO_cells rdx
   simp only [Value.agg.injEq, Array.mk.injEq, List.cons.injEq, true_and, and_true] at he
   obtain ⟨rfl, rfl, rfl⟩ := he
   obtain ⟨qA, qc, rA, rc, dA, dc, he, -, -, -⟩ := rdO_cells rdy
   simp only [Value.agg.injEq, Array.mk.injEq, List.cons.injEq, true_and, and_true] at he
   obtain ⟨rfl, rfl, rfl⟩ := he
   obtain ⟨k', hk'⟩ : ∃ k', k = k' + 1 := ⟨k - 1, by omega⟩
   have HRE2 := Lib.hid (show redO k' x y r (pairD x y) = fi from by rw [← HRE.out, HREV.out, hk', redF_two])
   have HPO := Lib.hid (fun l (h : pairD x y = some l) => pairD_ok h HOx.out HOy.out)
   obtain ⟨o2, ho2⟩ : ∃ o2, pairD x y = o2 := ⟨_, rfl⟩
   rw [ho2] at hc HRE2 HPO
   obtain ⟨M, hMM⟩ : ∃ M, L2.length = M := ⟨_, rfl⟩
   have q1' : (0 : Int) ≤ (R.length : Int) := by omega
   have q2' : (R.length : Int) < (M : Int) := by omega
   have q3' : (0 : Int) ≤ (R.length : Int) + 1 := by omega
   have q4' : (R.length : Int) + 1 < (M : Int) := by omega
   have q5' : IntKind.i64.wrap ((M : Int) - 2) = (R.length : Int) := by rw [← hMM, hM]; rw [show ((R.length + 2 : Nat) : Int) - 2 = (R.length : Int) by omega]; exact IntWalk.i64_in _ (by omega)
   have q6' : IntKind.i64.wrap ((R.length : Int) + 1) = (R.length : Int) + 1 := IntWalk.i64_in _ (by omega)
   have q7' : ((R.length : Int) + 1).toNat = R.length + 1 := by omega
   have q8' : (R.length : Int) ≤ (c2 : Int) := by
    obtain ⟨us, h1, -⟩ := HR.out
    obtain ⟨_, _, e, e1, -⟩ := owns_cells h1
    cases e
    omega
   have q9' : R.length ≤ c2 := by omega
   have HMM := Lib.hid (show M = R.length + 2 from by omega)
   have HML := Lib.hid hMM
   have hMi : M ≤ i + 1 := by omega
   have hRk : R.length + 1 ≤ k' := by omega
   have hki' : k' ≤ i + 1 := by omega
   have HOKL := HOK
   rw [hMM] at HR t1 ⊢
   have hRl : R.length ≤ 10000 := by omega
   clear gx gy rdx rdy ho2 hrev hRr HRE hL2 hM hMM HOK HOx HOy hbig
   go_upto_region 9 with fail
   obtain ⟨wd, hwd⟩ : ∃ d, wr.drew = d := ⟨_, rfl⟩
   rw [hwd] at hc
   have XD := Lib.hid (show Ext wr wd from by rw [← hwd]; exact (Ext.refl wr).drew)
   refine wp_region_held_drew (S := fun W => Ext wr W) (by kernel_rfl) (by rw [hwd]; exact XD.out) (fun hHeld => ?_)
   rw [hwd] at hHeld ⊢
   clear hwd
   refine wpAnyH_take (i := 0) (oi := ⟨_, _, _, _, _, _⟩) (v := ?_) rfl (by kernel_rfl) (by kernel_rfl) (by kernel_rfl) (fun _ _ _ h => h) (Or.inl ⟨by rfl, ?_⟩) hHeld ?_
   rotate_left
   ·intro w hSw
    try dsimp only at hSw
    go_simp
    all_goals (first | with_reducible rfl | rw [if_pos (by omega)])
   try simp only [Act.put, aS]
   refine wpAnyH_take (i := 1) (oi := ⟨_, _, _, _, _, _⟩) (v := ?_) rfl (by kernel_rfl) (by kernel_rfl) (by kernel_rfl) (fun _ _ _ h => h) (Or.inl ⟨by rfl, ?_⟩) hHeld ?_
   rotate_left
   ·intro w hSw
    try dsimp only at hSw
    go_simp
    all_goals (first | with_reducible rfl | rw [if_pos (by omega)])
   try simp only [Act.put, aS]
   refine wpAnyH_take (i := 2) (oi := ⟨_, _, _, _, _, _⟩) (v := ?_) rfl (by kernel_rfl) (by kernel_rfl) (by kernel_rfl) (fun _ _ _ h => h) (Or.inl ⟨by rfl, ?_⟩) hHeld ?_
   rotate_left
   ·intro w hSw
    try dsimp only at hSw
    go_simp
    all_goals (first | with_reducible rfl | rw [if_pos (by omega)])
   try simp only [Act.put, aS]
   refine wpAnyH_take (i := 3) (oi := ⟨_, _, _, _, _, _⟩) (v := ?_) rfl (by kernel_rfl) (by kernel_rfl) (by kernel_rfl) (fun _ _ _ h => h) (Or.inl ⟨by rfl, ?_⟩) hHeld ?_
   rotate_left
   ·intro w hSw
    have e0 := Ext.cell hSw c0
    have e1 := Ext.cell hSw c1_
    have e2 := Ext.cell hSw c2_
    have e3 := Ext.cell hSw c3
    have e4 := Ext.cell hSw c4
    have e5 := Ext.cell hSw c5
    have e6 := Ext.cell hSw c6
    have e7 := Ext.cell hSw c7
    have e8 := Ext.cell hSw c8
    have e9 := Ext.cell hSw c9
    have e10 := Ext.cell hSw c10
    have f0 := Ext.cell hSw d0
    have f1 := Ext.cell hSw d1
    have f2 := Ext.cell hSw d2
    have f3 := Ext.cell hSw d3
    have f4 := Ext.cell hSw d4
    have f5 := Ext.cell hSw d5
    have f6 := Ext.cell hSw d6
    have f7 := Ext.cell hSw d7
    have f8 := Ext.cell hSw d8
    have f9 := Ext.cell hSw d9
    have f10 := Ext.cell hSw d10
    go_simp
    all_goals (first | with_reducible rfl | rw [if_pos (by omega)])
   try simp only [Act.put, aS]
   refine wpAnyH_take (i := 4) (oi := ⟨_, _, _, _, _, _⟩) (v := ?_) rfl (by kernel_rfl) (by kernel_rfl) (by kernel_rfl) (fun _ _ _ h => h) (Or.inl ⟨by rfl, ?_⟩) hHeld ?_
   rotate_left
   ·intro w hSw
    try dsimp only at hSw
    go_simp
    all_goals (first | with_reducible rfl | rw [if_pos (by omega)])
   try simp only [Act.put, aS]
   refine wpAnyH_take (i := 5) (oi := ⟨_, _, _, _, _, _⟩) (v := ?_) rfl (by kernel_rfl) (by kernel_rfl) (by kernel_rfl) (fun _ _ _ h => h) (Or.inl ⟨by rfl, ?_⟩) hHeld ?_
   rotate_left
   ·intro w hSw
    try dsimp only at hSw
    go_simp
    all_goals (first | with_reducible rfl | rw [if_pos (by omega)])
   try simp only [Act.put, aS]
   refine wpAnyH_take (i := 6) (oi := ⟨_, _, _, _, _, _⟩) (v := ?_) rfl (by kernel_rfl) (by kernel_rfl) (by kernel_rfl) (fun _ _ _ h => h) (Or.inl ⟨by rfl, ?_⟩) hHeld ?_
   rotate_left
   ·intro w hSw
    try dsimp only at hSw
    go_simp
    all_goals (first | with_reducible rfl | rw [if_pos (by omega)])
   try simp only [Act.put, aS]
   refine wpAnyH_take (i := 7) (oi := ⟨_, _, _, _, _, _⟩) (v := ?_) rfl (by kernel_rfl) (by kernel_rfl) (by kernel_rfl) (fun _ _ _ h => h) (Or.inl ⟨by rfl, ?_⟩) hHeld ?_
   rotate_left
   ·intro w hSw
    try dsimp only at hSw
    go_simp
    all_goals (first | with_reducible rfl | rw [if_pos (by omega)])
   try simp only [Act.put, aS]
   refine wpAnyH_take (i := 8) (oi := ⟨_, _, _, _, _, _⟩) (v := ?_) rfl (by kernel_rfl) (by kernel_rfl) (by kernel_rfl) (fun _ _ _ h => h) (Or.inl ⟨by rfl, ?_⟩) hHeld ?_
   rotate_left
   ·intro w hSw
    have e0 := Ext.cell hSw c0
    have e1 := Ext.cell hSw c1_
    have e2 := Ext.cell hSw c2_
    have e3 := Ext.cell hSw c3
    have e4 := Ext.cell hSw c4
    have e5 := Ext.cell hSw c5
    have e6 := Ext.cell hSw c6
    have e7 := Ext.cell hSw c7
    have e8 := Ext.cell hSw c8
    have e9 := Ext.cell hSw c9
    have e10 := Ext.cell hSw c10
    have f0 := Ext.cell hSw d0
    have f1 := Ext.cell hSw d1
    have f2 := Ext.cell hSw d2
    have f3 := Ext.cell hSw d3
    have f4 := Ext.cell hSw d4
    have f5 := Ext.cell hSw d5
    have f6 := Ext.cell hSw d6
    have f7 := Ext.cell hSw d7
    have f8 := Ext.cell hSw d8
    have f9 := Ext.cell hSw d9
    have f10 := Ext.cell hSw d10
    go_simp
    all_goals (first | with_reducible rfl | rw [if_pos (by omega)])
   try simp only [Act.put, aS]
   refine wpAnyH_ready (rs := [9]) (by kernel_rfl) (by simp) ?_
   refine AllReadyH.cons (o := ⟨_, _, _, _, _, _⟩) rfl (fun K' hK => ?_) (AllReadyH.nil)
   go_simp
   go_at_call 13
   refine hc.mono ?_
   clear hc c0 c1_ c2_ c3 c4 c5 c6 c7 c8 c9 c10 d0 d1 d2 d3 d4 d5 d6 d7 d8 d9 d10
   rintro e w7 ⟨hE, hP⟩
   have HX7 := Lib.hid (XD.out.trans hE)
   have HE7 := Lib.hid (HE.out.trans HX7.out)
   cases o2 with
   | none =>
    subst hP
    refine hK.out _ _ (show Ext _ _ from hHeld.trans hE) (fun hHeld => ?_)
    clear hK K'
    try simp only [Act.put, aS]
    refine wpAnyH_take (i := 10) (oi := ⟨_, _, _, _, _, _⟩) (v := ?_) rfl (by kernel_rfl) (by kernel_rfl) (by kernel_rfl) (fun _ _ _ h => h) (Or.inl ⟨by rfl, ?_⟩) hHeld ?_
    rotate_left
    ·intro w hSw
     try dsimp only at hSw
     go_simp
     all_goals (first | with_reducible rfl | rw [if_pos (by omega)])
    try simp only [Act.put, aS]
    refine wpAnyH_take (i := 11) (oi := ⟨_, _, _, _, _, _⟩) (v := ?_) rfl (by kernel_rfl) (by kernel_rfl) (by kernel_rfl) (fun _ _ _ h => h) (Or.inl ⟨by rfl, ?_⟩) hHeld ?_
    rotate_left
    ·intro w hSw
     try dsimp only at hSw
     go_simp
     all_goals (first | with_reducible rfl | rw [if_pos (by omega)])
    try simp only [Act.put, aS]
    refine wpAnyH_take (i := 12) (oi := ⟨_, _, _, _, _, _⟩) (v := ?_) rfl (by kernel_rfl) (by kernel_rfl) (by kernel_rfl) (fun _ _ _ h => h) (Or.inl ⟨by rfl, ?_⟩) hHeld ?_
    rotate_left
    ·intro w hSw
     try dsimp only at hSw
     go_simp
     all_goals (first | with_reducible rfl | rw [if_pos (by omega)])
    try simp only [Act.put, aS]
    refine wpAnyH_take (i := 13) (oi := ⟨_, _, _, _, _, _⟩) (v := ?_) rfl (by kernel_rfl) (by kernel_rfl) (by kernel_rfl) (fun _ _ _ h => h) (Or.inl ⟨by rfl, ?_⟩) hHeld ?_
    rotate_left
    ·intro w hSw
     try dsimp only at hSw
     go_simp
     all_goals (first | with_reducible rfl | rw [if_pos (by omega)])
    try simp only [Act.put, aS]
    refine wpAnyH_take (i := 14) (oi := ⟨_, _, _, _, _, _⟩) (v := ?_) rfl (by kernel_rfl) (by kernel_rfl) (by kernel_rfl) (fun _ _ _ h => h) (Or.inl ⟨by rfl, ?_⟩) hHeld ?_
    rotate_left
    ·intro w hSw
     try dsimp only at hSw
     go_simp
     all_goals (first | with_reducible rfl | rw [if_pos (by omega)])
    try simp only [Act.put, aS]
    refine wpAnyH_done (by kernel_rfl) ?_ _
    clear hHeld
    have HFI : Hid (L2.reverse = fi) := Lib.hid (HREV.out.trans HRE2.out)
    have HN3 : Hid (stepsD L2.reverse (l.drop (i + 1)) = fin) := Lib.hid (by rw [HFI.out]; exact HN2.out)
    have HR7 := Lib.hid (HR.out.ext HX7.out)
    clear hE HX7 XD HR HE HRE2 HFI HREV HFR HPO HRR
    go_wp2_with fail
    go_roundw
    case rel => exact ⟨i + 1, L2, _, c2, by go_num, by omega, by rw [HML.out], by rw [HML.out]; exact hMi, HE7, HOKL, by rw [HML.out]; exact HR7, HN3⟩
    case measure => simp [intOf]; omega
   | some x2 =>
    obtain ⟨vx, rfl, hv⟩ := hP
    obtain ⟨hx1, hxo⟩ := HPO.out x2 rfl
    obtain ⟨us2, ho2, hla2⟩ := hv
    obtain ⟨xA, xcc, rfl, -⟩ := owns_cells ho2
    refine hK.out _ _ (show Ext _ _ from hHeld.trans hE) (fun hHeld => ?_)
    clear hK K'
    try simp only [Act.put, aS]
    refine wpAnyH_take (i := 10) (oi := ⟨_, _, _, _, _, _⟩) (v := ?_) rfl (by kernel_rfl) (by kernel_rfl) (by kernel_rfl) (fun _ _ _ h => h) (Or.inl ⟨by rfl, ?_⟩) hHeld ?_
    rotate_left
    ·intro w hSw
     try dsimp only at hSw
     go_simp
     all_goals (first | with_reducible rfl | rw [if_pos (by omega)])
    try simp only [Act.put, aS]
    refine wpAnyH_take (i := 11) (oi := ⟨_, _, _, _, _, _⟩) (v := ?_) rfl (by kernel_rfl) (by kernel_rfl) (by kernel_rfl) (fun _ _ _ h => h) (Or.inl ⟨by rfl, ?_⟩) hHeld ?_
    rotate_left
    ·intro w hSw
     try dsimp only at hSw
     go_simp
     all_goals (first | with_reducible rfl | rw [if_pos (by omega)])
    try simp only [Act.put, aS]
    refine wpAnyH_take (i := 12) (oi := ⟨_, _, _, _, _, _⟩) (v := ?_) rfl (by kernel_rfl) (by kernel_rfl) (by kernel_rfl) (fun _ _ _ h => h) (Or.inl ⟨by rfl, ?_⟩) hHeld ?_
    rotate_left
    ·intro w hSw
     try dsimp only at hSw
     go_simp
     all_goals (first | with_reducible rfl | rw [if_pos (by omega)])
    try simp only [Act.put, aS]
    refine wpAnyH_take (i := 13) (oi := ⟨_, _, _, _, _, _⟩) (v := ?_) rfl (by kernel_rfl) (by kernel_rfl) (by kernel_rfl) (fun _ _ _ h => h) (Or.inl ⟨by rfl, ?_⟩) hHeld ?_
    rotate_left
    ·intro w hSw
     try dsimp only at hSw
     go_simp
     all_goals (first | with_reducible rfl | rw [if_pos (by omega)])
    try simp only [Act.put, aS]
    refine wpAnyH_take (i := 14) (oi := ⟨_, _, _, _, _, _⟩) (v := ?_) rfl (by kernel_rfl) (by kernel_rfl) (by kernel_rfl) (fun _ _ _ h => h) (Or.inl ⟨by rfl, ?_⟩) hHeld ?_
    rotate_left
    ·intro w hSw
     try dsimp only at hSw
     go_simp
     all_goals (first | with_reducible rfl | rw [if_pos (by omega)])
    try simp only [Act.put, aS]
    refine wpAnyH_done (by kernel_rfl) ?_ _
    clear hHeld
    obtain ⟨us1, ho1, hla1⟩ := HFR.out
    have HOB := Lib.hid (fun b (hb : (Value.slice (some ⟨bx, ox, none⟩) R.length c2).ownBlock = some b) => (ho1.lt b hb).2)
    have hs0 : w.heap.size ≤ wd.heap.size := Nat.le_trans HE.out.size XD.out.size
    have hx : Late (rowS w.heap.size (.slice (some ⟨bx, ox, none⟩) R.length c2)) (fun W => rowCells RdO 11 W x2 us2) w7 := hla2.sub (fun b hb => .inl (hb.elim (fun h => Nat.lt_of_lt_of_le h hs0) (fun h => Nat.lt_of_lt_of_le (HOB.out b h) XD.out.size)))
    have ho1' := owns_ext HX7.out ho1
    have hla1' := hla1.ext HX7.out
    have hones := rowCells_ones x2 us2 hla2.now
    have hsz := HE7.out.size
    have hrow := RdS.of_owns ho2
    have HRE3 : Hid (redF k' (x2.reverse ++ R.reverse) = fi) := Lib.hid (by rw [← HRE2.out, ← HRR.out]; rfl)
    have HO3 : Hid (∀ o ∈ R ++ x2, OkLen o) := Lib.hid (fun q hq => (List.mem_append.1 hq).elim (HOR.out q) (hxo q))
    clear hE HR HE HRE2 HREV HFR HPO HRR ho2 hla2 ho1 hla1 hxo HOB hs0 HOR HX7 XD
    go_wp2_with (first | (at_builtin; refine wpList_append_rd rfl rfl T30 (v := _) (by rfl) ho1' (by rfl) hrow hones (by omega) (by simp only [maxLen]; omega) hsz ?_))
    intro v8 w8 h8 hg hat8
    have HE8 := Lib.hid (Fr.ext HE7.out (Fr.grown hg) (fun b hb => owns_base ho1' b hb))
    have HR8 := Lib.hid (rowV2.app hla1' hx hg hat8 h8)
    obtain ⟨L3, hL3⟩ : ∃ L3, R ++ x2 = L3 := ⟨_, rfl⟩
    have hL3l : L3.length ≤ R.length + 1 := by rw [← hL3, List.length_append]; omega
    have HRE4 : Hid (redF k' L3.reverse = fi) := Lib.hid (by rw [← hL3, List.reverse_append]; exact HRE3.out)
    rw [hL3] at HR8 HO3
    obtain ⟨A3, c3', rfl⟩ := lsV.slice HR8.out
    clear hx hones hsz hrow hg hat8 h8 ho1' hla1' HE7 HRE3 hL3
    go_wp2_with fail
    go_roundw
    case rel => exact ⟨k', L3, A3, c3', rfl, by omega, hki', HE8, HO3, HR8, HRE4⟩
    case measure => have := HMM.out; simp only [lenOf]; omega
end Go.Proofs.Ytkimbpeapolcbaa.Sy
