/- Chapter 10: the document's List (19). (Printed by gsylistr.py.) -/
import Derived.Test.YtkimbpeapolcbaaSyPairR
import Derived.Test.YtkimbpeapolcbaaSyListP
import Derived.Test.YtkimbpeapolcbaaSyOuSameG
namespace Go.Proofs.Ytkimbpeapolcbaa.Sy
open Go.RowKit Go.Proofs.Ytkimbpeapolcbaa.Bw Go.Proofs.Ytkimbpeapolcbaa.Bs

def OkR (o : OpD) : Prop := OkLen o ∧ o.pcs.length ≤ 10000
theorem bare_okr {o : OpD} (h : OkR o) : OkR (bareD o) := ⟨bareD_len2 h.1, Nat.le_trans (bareD_len o).2.2 h.2⟩
theorem drop_rowCells {α : Type} {R : World → α → Value → Prop} {sz : Nat} {W : World} : ∀ (l m : List α) (us : List Value), rowCells R sz W (l ++ m) us → rowCells R sz W m (us.drop (l.length * sz))
  | [], m, us, h => by simpa using h
  | x :: l, m, us, h => by
    obtain ⟨cs, us', h1, h2, rfl, h4⟩ := h
    have ih := drop_rowCells l m us' h4
    rw [List.length_cons, Nat.succ_mul, List.drop_append, h1, Nat.add_sub_cancel, List.drop_eq_nil_of_le (by omega), List.nil_append]
    exact ih
theorem totD_drop {l : List OpD} {i : Nat} {o : OpD} (h : l[i]? = some o) : totD (l.drop i) = sumP o.pcs + totD (l.drop (i + 1)) := by rw [drop_at h]; rfl
/-- The last ones of an owned list. -/
theorem rowV2.back {lo : Nat} {l m : List OpD} {b o c n : Nat} {W : World} (h : rowV2 RdO 26 11 lo (l ++ m) (.slice (some ⟨b, o, none⟩) n c) W) : ∃ us, RdS W 11 m.length us (.slice (some ⟨b, o + l.length * 11, none⟩) m.length (c - l.length)) ∧ Late (rowS lo (.slice (some ⟨b, o, none⟩) n c)) (fun W => rowCells RdO 11 W m us) W := by
  obtain ⟨us, h1, h2⟩ := h
  refine ⟨us.drop (l.length * 11), ?_, h2.imp fun W2 h => drop_rowCells l m us h⟩
  obtain ⟨A, c', he, k1, k2, k3, k4⟩ := RdS.of_owns h1
  cases he
  rw [List.length_append] at k1 k2
  refine ⟨_, _, rfl, ?_, by omega, by omega, fun hm => ⟨b, o + l.length * 11, rfl, fun j u hu => ?_⟩⟩
  · rw [List.length_drop, k1, Nat.add_mul]; omega
  · obtain ⟨b', off, hA, hc⟩ := k4 (by rw [List.length_append]; omega)
    cases hA
    rw [List.getElem?_drop] at hu
    have := hc _ _ hu
    rw [show o + l.length * 11 + j = o + (l.length * 11 + j) by omega]
    exact this
set_option maxRecDepth 100000 in
set_option maxHeartbeats 8000000 in
theorem list19_any (l : List OpD) (v : Value) (w : World) (h : RdL w l v) (hl : l.length ≤ 10000) (hk : ∀ o ∈ l, OkR o) (ht : totD l ≤ 10000) : Calls Try.prog 19 #[v] w (fun e W' => Ext w W' ∧ ∃ u, e = .returned u ∧ lsV w.heap.size (listD l) u W') := by
  have HL := Lib.hid h
  have HK := Lib.hid hk
  have HT := Lib.hid ht
  obtain ⟨LA, Lc, rfl, l1, l2, -⟩ := id h
  have HDD := Lib.hid (list_doc l).2
  obtain ⟨fin, hfin⟩ : ∃ s, listD l = s := ⟨_, rfl⟩
  rw [hfin] at HDD ⊢
  clear h hk ht hfin
  go_enter Try.func19, Try.ntmps19
  go_wp2_with fail
  go_loopw [3, 4] (fun s3 s4 wr => ∃ (i : Nat) (L : List OpD) (A : Option Addr) (c : Nat), s4 = .int .i64 (i : Int) ∧ i ≤ l.length ∧ s3 = .slice A L.length c ∧ L.length ≤ i ∧ Hid (Ext w wr) ∧ Hid (∀ o ∈ L, OkR o) ∧ Hid (totD L + totD (l.drop i) ≤ 10000) ∧ Hid (rowV2 RdO 26 11 w.heap.size L (.slice A L.length c) wr) ∧ Hid (L ++ rowD (l.drop i) = rowD l)) (fun _ s4 _ => l.length - (intOf s4).toNat)
  case atStart => exact ⟨0, [], none, 0, rfl, Nat.zero_le _, rfl, Nat.le_refl _, Lib.hid (Ext.refl w), Lib.hid (fun o ho => absurd ho List.not_mem_nil), Lib.hid (by simpa [totD] using HT.out), Lib.hid (lsV.none_ _ _), Lib.hid rfl⟩
  case round =>
    obtain ⟨i, L, A, c, rfl, hi, rfl, hLi, HE, HOK, HTT, HR, HN⟩ := hrel
    rcases Nat.lt_or_ge i l.length with hlt | hlt
    · have q1 : (0 : Int) ≤ (i : Int) := by omega
      have q2 : (i : Int) < (l.length : Int) := by omega
      obtain ⟨o, ho⟩ : ∃ o, l[i]? = some o := ⟨_, List.getElem?_eq_getElem hlt⟩
      have HOL := Lib.hid (HK.out o (List.mem_of_getElem? ho))
      have HTD := Lib.hid (totD_drop ho)
      have HN2 : Hid (L ++ (if idleD o then rowD (l.drop (i + 1)) else bareD o :: rowD (l.drop (i + 1))) = rowD l) := Lib.hid (by rw [← HN.out, drop_at ho, rowD_cons])
      obtain ⟨ba, oa, pv, tv, cv, rfl, hrd, c0, c1, c2, c3, c4, c5, c6, c7, c8, c9, c10⟩ := lsame_at (HL.out.ext HE.out) ho
      have HRO := Lib.hid hrd
      obtain ⟨pA, pc, tA, tc, cA, cc, he, -, -, -⟩ := rdO_cells hrd
      simp only [Value.agg.injEq, Array.mk.injEq, List.cons.injEq, true_and, and_true] at he
      obtain ⟨rfl, rfl, rfl⟩ := he
      have HC := Lib.hid (show _ ∧ _ ∧ _ ∧ _ ∧ _ ∧ _ ∧ _ ∧ _ ∧ _ ∧ _ ∧ _ from ⟨c0, c1, c2, c3, c4, c5, c6, c7, c8, c9, c10⟩)
      have hc := idleR_any o _ wr hrd
      obtain ⟨id_, hid_⟩ : ∃ b, idleD o = b := ⟨_, rfl⟩
      rw [hid_] at hc HN2
      clear hrd ho HN hid_
      go_wp2_with fail
      refine hc.mono ?_
      clear hc c0 c1 c2 c3 c4 c5 c6 c7 c8 c9 c10
      rintro e w3 ⟨r, rfl, rfl, hE⟩
      have HE3 := Lib.hid (HE.out.trans hE)
      have HR3 := Lib.hid (HR.out.ext hE)
      have HRO3 := Lib.hid (OpD.rd_ext hE HRO.out)
      obtain ⟨b0, b1, b2, b3, b4, b5, b6, b7, b8, b9, b10⟩ := HC.out
      have c0 := hE.cell b0
      have c1 := hE.cell b1
      have c2 := hE.cell b2
      have c3 := hE.cell b3
      have c4 := hE.cell b4
      have c5 := hE.cell b5
      have c6 := hE.cell b6
      have c7 := hE.cell b7
      have c8 := hE.cell b8
      have c9 := hE.cell b9
      have c10 := hE.cell b10
      clear hE HE HR HRO HC b0 b1 b2 b3 b4 b5 b6 b7 b8 b9 b10
      cases id_ with
      | true =>
        have HN3 : Hid (L ++ rowD (l.drop (i + 1)) = rowD l) := HN2
        have HT3 : Hid (totD L + totD (l.drop (i + 1)) ≤ 10000) := Lib.hid (by have h1 := HTT.out; have h2 := HTD.out; have := sumP_nn o.pcs; omega)
        clear HN2 HRO3 HTT HTD
        go_wp2_with fail
        go_roundw
        case rel => exact ⟨i + 1, L, A, c, by go_num, by omega, rfl, by omega, HE3, HOK, HT3, HR3, HN3⟩
        case measure => simp [intOf]; omega
      | false =>
      have hok := bareD_ok (OpD.rd_ok HRO3.out)
      have hbl := bare_okr HOL.out
      have hc := bare50_any o _ w3 HRO3.out HOL.out.1.1 HOL.out.1.2.1 HOL.out.1.2.2
      have hbs := bare_sum o
      obtain ⟨B, hB⟩ : ∃ B, bareD o = B := ⟨_, rfl⟩
      rw [hB] at hc hok hbl hbs HN2
      clear hB
      go_wp2_with fail
      refine hc.mono ?_
      clear hc c0 c1 c2 c3 c4 c5 c6 c7 c8 c9 c10
      rintro e w4 ⟨hE, u9, rfl, hO⟩
      have HE4 := Lib.hid (HE3.out.trans hE)
      have HR4 := Lib.hid (HR3.out.ext hE)
      have hO := hO.low HE3.out.size
      clear hE HE3 HR3 HRO3
      obtain ⟨eA, ec, fA, fc, sA, sc, rfl, k1, k2, k3⟩ := hO
      obtain ⟨w5, hw5⟩ : ∃ W, w4.alloc (.cells #[.int .u8 B.kind, .slice eA B.path.length ec, .int .i64 B.at_, .slice fA B.to.length fc, .int .u64 B.id, .bool B.leaf, .string B.label, .string B.key, .string B.value, .bool B.gone, .slice sA B.pcs.length sc] 26) = W := ⟨_, rfl⟩
      obtain ⟨N, hN⟩ : ∃ g, w4.heap.size = g := ⟨_, rfl⟩
      have X5 : Ext w4 w5 := by rw [← hw5]; exact (Ext.refl _).alloc _
      have bN : NBox w5 N 26 #[.int .u8 B.kind, .slice eA B.path.length ec, .int .i64 B.at_, .slice fA B.to.length fc, .int .u64 B.id, .bool B.leaf, .string B.label, .string B.key, .string B.value, .bool B.gone, .slice sA B.pcs.length sc] := by rw [← hw5, ← hN]; exact NBox.new _ _ _
      have HE5 := Lib.hid (HE4.out.trans X5)
      have HR5 := HR4.out.ext X5
      obtain ⟨us1, ho1, hla1⟩ := HR5
      have hx : Late (rowS w.heap.size (.slice A L.length c)) (fun W => B.rd W (.agg #[.int .u8 B.kind, .slice eA B.path.length ec, .int .i64 B.at_, .slice fA B.to.length fc, .int .u64 B.id, .bool B.leaf, .string B.label, .string B.key, .string B.value, .bool B.gone, .slice sA B.pcs.length sc])) w5 := OpO.lateRow (OpO.ext ⟨_, _, _, _, _, _, rfl, k1, k2, k3⟩ X5) hok ho1 (Nat.le_refl _)
      have hrow := bN.row
      have hones := ones11 (c0 := .int .u8 B.kind) (c1 := .slice eA B.path.length ec) (c2 := .int .i64 B.at_) (c3 := .slice fA B.to.length fc) (c4 := .int .u64 B.id) (c5 := .bool B.leaf) (c6 := .string B.label) (c7 := .string B.key) (c8 := .string B.value) (c9 := .bool B.gone) (c10 := .slice sA B.pcs.length sc) ⟨rfl, rfl, rfl, rfl, rfl, rfl, rfl, rfl, rfl, rfl, rfl⟩
      have HW5 := Lib.hid hw5
      have HNN := Lib.hid hN
      have hsz := HE5.out.size
      have HBS := Lib.hid hbs
      clear hw5 hN X5 bN HE4 HR4 k1 k2 k3 hok hbs
      go_wp2_with (first | (at_builtin; rw [HW5.out, HNN.out]; refine wpList_append_rd rfl rfl T30 (v := _) (by rfl) ho1 (by rfl) hrow hones (by omega) (by simp only [maxLen]; omega) hsz ?_))
      intro v6 w6 h6 hg hat6
      have HE6 := Lib.hid (Fr.ext HE5.out (Fr.grown hg) (fun k hk => owns_base ho1 k hk))
      have HR6 := Lib.hid (rowV2.push hla1 rfl hx hg hat6 h6)
      clear hx hrow hones HW5 HNN hsz hg hat6 h6 hla1 ho1 HE5
      obtain ⟨L1, hL1⟩ : ∃ M, L ++ [B] = M := ⟨_, rfl⟩
      have hlen1 : L1.length ≤ i + 1 := by rw [← hL1, List.length_append]; simp only [List.length_cons, List.length_nil]; omega
      have HOK1 : Hid (∀ o ∈ L1, OkR o) := Lib.hid (by
        rw [← hL1]
        intro q hq
        rcases List.mem_append.1 hq with hq | hq
        · exact HOK.out q hq
        · rw [List.mem_singleton] at hq; subst hq; exact hbl)
      have HT3 : Hid (totD L1 + totD (l.drop (i + 1)) ≤ 10000) := Lib.hid (by
        have h1 := HTT.out; have h2 := HTD.out; have h3 := HBS.out
        rw [← hL1, totD_app, show totD [B] = sumP B.pcs + 0 from rfl]; omega)
      have HN3 : Hid (L1 ++ rowD (l.drop (i + 1)) = rowD l) := Lib.hid (by rw [← HN2.out, ← hL1, List.append_assoc]; rfl)
      rw [hL1] at HR6
      clear hL1 HOK hbl HTT HTD HBS HN2
      obtain ⟨A1, c1, rfl⟩ := lsV.slice HR6.out
      go_wp2_with fail
      go_roundw
      case rel => exact ⟨i + 1, L1, A1, c1, by go_num, by omega, rfl, hlen1, HE6, HOK1, HT3, HR6, HN3⟩
      case measure => simp [intOf]; omega
    obtain rfl : i = l.length := by omega
    have HDC : Hid (∀ f, Doc L 0 f → Doc (rowD l) 0 f) := Lib.hid (fun f h => by
      have : L = rowD l := by rw [← HN.out, List.drop_eq_nil_of_le (Nat.le_refl _)]; simp [rowD]
      rw [← this]; exact h)
    have HTL : Hid (totD L ≤ 10000) := Lib.hid (by have h1 := HTT.out; rw [List.drop_eq_nil_of_le (Nat.le_refl _)] at h1; simpa [totD] using h1)
    have hLi' : L.length ≤ 10000 := by omega
    have q1 : ¬ ((l.length : Int) < (l.length : Int)) := Int.lt_irrefl _
    clear HN HTT
    go_wp2_with fail
    clear q1
    go_loopw [3, 5] (fun s3 s5 wr => ∃ (i : Nat) (L : List OpD) (A : Option Addr) (c : Nat), s5 = .int .i64 (i : Int) ∧ i ≤ L.length ∧ s3 = .slice A L.length c ∧ L.length ≤ 10000 ∧ Hid (Ext w wr) ∧ Hid (∀ o ∈ L, OkR o) ∧ Hid (totD L ≤ 10000) ∧ Hid (rowV2 RdO 26 11 w.heap.size L (.slice A L.length c) wr) ∧ Hid (∀ f, Doc L i f → Doc (rowD l) 0 f)) (fun s3 s5 _ => lenOf s3 * 20001 - (intOf s5).toNat)
    case atStart => exact ⟨0, L, A, c, rfl, Nat.zero_le _, rfl, hLi', HE, HOK, HTL, HR, HDC⟩
    case round =>
      clear HE HOK HTL HR HDC hLi'
      obtain ⟨i, L, A, c, rfl, hiL, rfl, hL4, HE, HOK, HTL, HR, HDC⟩ := hrel
      have q0' : IntKind.i64.wrap ((i : Int) + 1) = (i : Int) + 1 := IntWalk.i64_in _ (by omega)
      rcases Nat.lt_or_ge (i + 1) L.length with hbig | hsm
      case inr =>
        have t1 : decide ((i : Int) + 1 < (L.length : Int)) = false := decide_eq_false (by omega)
        have HFI : Hid (L = fin) := Lib.hid (Doc.det (HDC.out L (Doc.fin hsm)) HDD.out)
        go_wp2_with fail
        go_ret
        refine ⟨HE.out, _, rfl, ?_⟩
        rw [← HFI.out]
        exact HR.out
      have t1 : decide ((i : Int) + 1 < (L.length : Int)) = true := decide_eq_true (by omega)
      obtain ⟨x, gx⟩ : ∃ x, L[i]? = some x := ⟨_, List.getElem?_eq_getElem (by omega)⟩
      obtain ⟨y, gy⟩ : ∃ y, L[i + 1]? = some y := ⟨_, List.getElem?_eq_getElem hbig⟩
      have hLs : L = L.take i ++ x :: y :: L.drop (i + 2) := by
        conv => lhs; rw [← List.take_append_drop i L, drop_at gx, drop_at gy]
      obtain ⟨R, hR0⟩ : ∃ R, L.take i = R := ⟨_, rfl⟩
      obtain ⟨D, hD0⟩ : ∃ D, L.drop (i + 2) = D := ⟨_, rfl⟩
      have hRl : R.length = i := by rw [← hR0, List.length_take]; omega
      have hDl : D.length = L.length - (i + 2) := by rw [← hD0, List.length_drop]
      rw [hR0, hD0] at hLs
      have HOx := Lib.hid (HOK.out x (List.mem_of_getElem? gx))
      have HOy := Lib.hid (HOK.out y (List.mem_of_getElem? gy))
      have HORD := Lib.hid (show (∀ o ∈ R, OkR o) ∧ (∀ o ∈ D, OkR o) from ⟨fun o ho => HOK.out o (by rw [hLs]; exact List.mem_append_left _ ho), fun o ho => HOK.out o (by rw [hLs]; exact List.mem_append_right _ (List.mem_cons_of_mem _ (List.mem_cons_of_mem _ ho)))⟩)
      have HTS := Lib.hid (show totD R + (sumP x.pcs + (sumP y.pcs + totD D)) ≤ 10000 from by have := HTL.out; rw [hLs, totD_app] at this; exact this)
      have HSX := Lib.hid (show sumP x.pcs ≤ 10000 ∧ sumP y.pcs ≤ 10000 from ⟨by have := HTL.out; have := totD_mem (List.mem_of_getElem? gx); omega, by have := HTL.out; have := totD_mem (List.mem_of_getElem? gy); omega⟩)
      obtain ⟨bx, ox, xp, xt, xc, hAx, rdx, c0, c1_, c2_, c3, c4, c5, c6, c7, c8, c9, c10⟩ := lsame_at (lsV.rd HR.out) gx
      obtain ⟨by_, oy, yp, yt, yc, hAy, rdy, d0, d1, d2, d3, d4, d5, d6, d7, d8, d9, d10⟩ := lsame_at (lsV.rd HR.out) gy
      subst hAx
      cases hAy
      have HFR := Lib.hid (rowV2.front (l := R) (m := x :: y :: D) (hLs ▸ HR.out))
      have HBK := Lib.hid (rowV2.back (l := R ++ [x, y]) (m := D) (by rw [List.append_assoc]; exact hLs ▸ HR.out))
      obtain ⟨wd, hwd⟩ : ∃ d, wr.drew = d := ⟨_, rfl⟩
      have XD := Lib.hid (show Ext wr wd from by rw [← hwd]; exact (Ext.refl wr).drew)
      have hc := pair14_any x y _ _ wd (OpD.rd_ext XD.out rdx) (OpD.rd_ext XD.out rdy) HOx.out.1 HOy.out.1 HSX.out.1 HSX.out.2 HOx.out.2 HOy.out.2
      obtain ⟨pA, pc, tA, tc, cA, cc, he, -, -, -⟩ := rdO_cells rdx
      simp only [Value.agg.injEq, Array.mk.injEq, List.cons.injEq, true_and, and_true] at he
      obtain ⟨rfl, rfl, rfl⟩ := he
      obtain ⟨qA, qc, rA, rc, dA, dc, he, -, -, -⟩ := rdO_cells rdy
      simp only [Value.agg.injEq, Array.mk.injEq, List.cons.injEq, true_and, and_true] at he
      obtain ⟨rfl, rfl, rfl⟩ := he
      have HPN := Lib.hid (fun (h : pairD x y = none) f => HDC.out f ∘ Doc.next gx gy h)
      have HPS := Lib.hid (fun l2 (h : pairD x y = some l2) => (show (∀ f, Doc (R ++ l2 ++ D) 0 f → Doc (rowD l) 0 f) ∧ l2.length ≤ 1 ∧ (∀ o ∈ l2, OkR o) ∧ totD l2 ≤ sumP x.pcs + sumP y.pcs from
        ⟨fun f hd => HDC.out f (Doc.less gx gy h (by rw [hR0, hD0]; exact hd)), (pairD_ok h HOx.out.1 HOy.out.1).1, fun o ho => ⟨(pairD_ok h HOx.out.1 HOy.out.1).2 o ho, pairD_plen h HOx.out.2 HOy.out.2 o ho⟩, pairD_tot h⟩))
      obtain ⟨o2, ho2⟩ : ∃ o2, pairD x y = o2 := ⟨_, rfl⟩
      rw [ho2] at hc HPN HPS
      have q1' : (0 : Int) ≤ (i : Int) := by omega
      have q2' : (i : Int) < (L.length : Int) := by omega
      have q3' : (0 : Int) ≤ (i : Int) + 1 := by omega
      have q4' : (i : Int) + 1 < (L.length : Int) := by omega
      have q7' : ((i : Int) + 1).toNat = i + 1 := by omega
      have q9' : L.length ≤ c := by
        obtain ⟨us, h1, -⟩ := HR.out
        obtain ⟨_, _, e, e1, -⟩ := owns_cells h1
        cases e
        exact e1
      have q8' : (i : Int) ≤ (c : Int) := by omega
      have qa : i ≤ c := by omega
      have qb : IntKind.i64.wrap ((i : Int) + 2) = (i : Int) + 2 := IntWalk.i64_in _ (by omega)
      have qc_ : (0 : Int) ≤ (i : Int) + 2 := by omega
      have qd_ : (i : Int) + 2 ≤ (L.length : Int) := by omega
      have qe_ : ((i : Int) + 2).toNat = i + 2 := by omega
      have qf_ : i + 2 ≤ L.length := by omega
      have HRl := Lib.hid hRl
      have HDl := Lib.hid hDl
      clear gx gy rdx rdy ho2 hLs hR0 hD0 hRl hDl HOx HOy HSX
      go_upto_region 9 with fail
      refine wp_region_held_drew (S := fun W => Ext wr W) (by kernel_rfl) (by rw [hwd]; exact XD.out) (fun hHeld => ?_)
      rw [hwd] at hHeld ⊢
      clear hwd
      refine wpAnyH_take (i := 0) (oi := ⟨_, _, _, _, _, _⟩) (v := ?_) rfl (by kernel_rfl) (by kernel_rfl) (by kernel_rfl) (fun _ _ _ h => h) (Or.inl ⟨by rfl, ?_⟩) hHeld ?_
      rotate_left
      · intro w hSw
        try dsimp only at hSw
        go_simp
        all_goals (first | with_reducible rfl | rw [if_pos (by omega)])
      try simp only [Act.put, List.setIfInBounds_toArray, List.set_cons_zero, List.set_cons_succ]
      refine wpAnyH_take (i := 1) (oi := ⟨_, _, _, _, _, _⟩) (v := ?_) rfl (by kernel_rfl) (by kernel_rfl) (by kernel_rfl) (fun _ _ _ h => h) (Or.inl ⟨by rfl, ?_⟩) hHeld ?_
      rotate_left
      · intro w hSw
        try dsimp only at hSw
        go_simp
        all_goals (first | with_reducible rfl | rw [if_pos (by omega)])
      try simp only [Act.put, List.setIfInBounds_toArray, List.set_cons_zero, List.set_cons_succ]
      refine wpAnyH_take (i := 2) (oi := ⟨_, _, _, _, _, _⟩) (v := ?_) rfl (by kernel_rfl) (by kernel_rfl) (by kernel_rfl) (fun _ _ _ h => h) (Or.inl ⟨by rfl, ?_⟩) hHeld ?_
      rotate_left
      · intro w hSw
        try dsimp only at hSw
        go_simp
        all_goals (first | with_reducible rfl | rw [if_pos (by omega)])
      try simp only [Act.put, List.setIfInBounds_toArray, List.set_cons_zero, List.set_cons_succ]
      refine wpAnyH_take (i := 3) (oi := ⟨_, _, _, _, _, _⟩) (v := ?_) rfl (by kernel_rfl) (by kernel_rfl) (by kernel_rfl) (fun _ _ _ h => h) (Or.inl ⟨by rfl, ?_⟩) hHeld ?_
      rotate_left
      · intro w hSw
        have e0 := Ext.cell hSw c0
        have e1 := Ext.cell hSw c1_
        have e2 := Ext.cell hSw c2_
        have e3 := Ext.cell hSw c3
        have e4 := Ext.cell hSw c4
        have e5 := Ext.cell hSw c5
        have e6 := Ext.cell hSw c6
        have e7 := Ext.cell hSw c7
        have e8 := Ext.cell hSw c8
        have e9 := Ext.cell hSw c9
        have e10 := Ext.cell hSw c10
        have f0 := Ext.cell hSw d0
        have f1 := Ext.cell hSw d1
        have f2 := Ext.cell hSw d2
        have f3 := Ext.cell hSw d3
        have f4 := Ext.cell hSw d4
        have f5 := Ext.cell hSw d5
        have f6 := Ext.cell hSw d6
        have f7 := Ext.cell hSw d7
        have f8 := Ext.cell hSw d8
        have f9 := Ext.cell hSw d9
        have f10 := Ext.cell hSw d10
        go_simp
        all_goals (first | with_reducible rfl | rw [if_pos (by omega)])
      try simp only [Act.put, List.setIfInBounds_toArray, List.set_cons_zero, List.set_cons_succ]
      refine wpAnyH_take (i := 4) (oi := ⟨_, _, _, _, _, _⟩) (v := ?_) rfl (by kernel_rfl) (by kernel_rfl) (by kernel_rfl) (fun _ _ _ h => h) (Or.inl ⟨by rfl, ?_⟩) hHeld ?_
      rotate_left
      · intro w hSw
        try dsimp only at hSw
        go_simp
        all_goals (first | with_reducible rfl | rw [if_pos (by omega)])
      try simp only [Act.put, List.setIfInBounds_toArray, List.set_cons_zero, List.set_cons_succ]
      refine wpAnyH_take (i := 5) (oi := ⟨_, _, _, _, _, _⟩) (v := ?_) rfl (by kernel_rfl) (by kernel_rfl) (by kernel_rfl) (fun _ _ _ h => h) (Or.inl ⟨by rfl, ?_⟩) hHeld ?_
      rotate_left
      · intro w hSw
        try dsimp only at hSw
        go_simp
        all_goals (first | with_reducible rfl | rw [if_pos (by omega)])
      try simp only [Act.put, List.setIfInBounds_toArray, List.set_cons_zero, List.set_cons_succ]
      refine wpAnyH_take (i := 6) (oi := ⟨_, _, _, _, _, _⟩) (v := ?_) rfl (by kernel_rfl) (by kernel_rfl) (by kernel_rfl) (fun _ _ _ h => h) (Or.inl ⟨by rfl, ?_⟩) hHeld ?_
      rotate_left
      · intro w hSw
        try dsimp only at hSw
        go_simp
        all_goals (first | with_reducible rfl | rw [if_pos (by omega)])
      try simp only [Act.put, List.setIfInBounds_toArray, List.set_cons_zero, List.set_cons_succ]
      refine wpAnyH_take (i := 7) (oi := ⟨_, _, _, _, _, _⟩) (v := ?_) rfl (by kernel_rfl) (by kernel_rfl) (by kernel_rfl) (fun _ _ _ h => h) (Or.inl ⟨by rfl, ?_⟩) hHeld ?_
      rotate_left
      · intro w hSw
        try dsimp only at hSw
        go_simp
        all_goals (first | with_reducible rfl | rw [if_pos (by omega)])
      try simp only [Act.put, List.setIfInBounds_toArray, List.set_cons_zero, List.set_cons_succ]
      refine wpAnyH_take (i := 8) (oi := ⟨_, _, _, _, _, _⟩) (v := ?_) rfl (by kernel_rfl) (by kernel_rfl) (by kernel_rfl) (fun _ _ _ h => h) (Or.inl ⟨by rfl, ?_⟩) hHeld ?_
      rotate_left
      · intro w hSw
        have e0 := Ext.cell hSw c0
        have e1 := Ext.cell hSw c1_
        have e2 := Ext.cell hSw c2_
        have e3 := Ext.cell hSw c3
        have e4 := Ext.cell hSw c4
        have e5 := Ext.cell hSw c5
        have e6 := Ext.cell hSw c6
        have e7 := Ext.cell hSw c7
        have e8 := Ext.cell hSw c8
        have e9 := Ext.cell hSw c9
        have e10 := Ext.cell hSw c10
        have f0 := Ext.cell hSw d0
        have f1 := Ext.cell hSw d1
        have f2 := Ext.cell hSw d2
        have f3 := Ext.cell hSw d3
        have f4 := Ext.cell hSw d4
        have f5 := Ext.cell hSw d5
        have f6 := Ext.cell hSw d6
        have f7 := Ext.cell hSw d7
        have f8 := Ext.cell hSw d8
        have f9 := Ext.cell hSw d9
        have f10 := Ext.cell hSw d10
        go_simp
        all_goals (first | with_reducible rfl | rw [if_pos (by omega)])
      try simp only [Act.put, List.setIfInBounds_toArray, List.set_cons_zero, List.set_cons_succ]
      refine wpAnyH_ready (rs := [9]) (by kernel_rfl) (by simp) ?_
      refine AllReadyH.cons (o := ⟨_, _, _, _, _, _⟩) rfl (fun K' hK => ?_) (AllReadyH.nil)
      go_simp
      go_at_call 14
      refine hc.mono ?_
      clear hc c0 c1_ c2_ c3 c4 c5 c6 c7 c8 c9 c10 d0 d1 d2 d3 d4 d5 d6 d7 d8 d9 d10
      rintro e w7 ⟨hE, hP⟩
      have HX7 := Lib.hid (XD.out.trans hE)
      have HE7 := Lib.hid (HE.out.trans HX7.out)
      cases o2 with
      | none =>
        subst hP
        refine hK.out _ _ (show Ext _ _ from hHeld.trans hE) (fun hHeld => ?_)
        clear hK K'
        try simp only [Act.put, List.setIfInBounds_toArray, List.set_cons_zero, List.set_cons_succ]
        refine wpAnyH_take (i := 10) (oi := ⟨_, _, _, _, _, _⟩) (v := ?_) rfl (by kernel_rfl) (by kernel_rfl) (by kernel_rfl) (fun _ _ _ h => h) (Or.inl ⟨by rfl, ?_⟩) hHeld ?_
        rotate_left
        · intro w hSw
          try dsimp only at hSw
          go_simp
          all_goals (first | with_reducible rfl | rw [if_pos (by omega)])
        try simp only [Act.put, List.setIfInBounds_toArray, List.set_cons_zero, List.set_cons_succ]
        refine wpAnyH_take (i := 11) (oi := ⟨_, _, _, _, _, _⟩) (v := ?_) rfl (by kernel_rfl) (by kernel_rfl) (by kernel_rfl) (fun _ _ _ h => h) (Or.inl ⟨by rfl, ?_⟩) hHeld ?_
        rotate_left
        · intro w hSw
          try dsimp only at hSw
          go_simp
          all_goals (first | with_reducible rfl | rw [if_pos (by omega)])
        try simp only [Act.put, List.setIfInBounds_toArray, List.set_cons_zero, List.set_cons_succ]
        refine wpAnyH_take (i := 12) (oi := ⟨_, _, _, _, _, _⟩) (v := ?_) rfl (by kernel_rfl) (by kernel_rfl) (by kernel_rfl) (fun _ _ _ h => h) (Or.inl ⟨by rfl, ?_⟩) hHeld ?_
        rotate_left
        · intro w hSw
          try dsimp only at hSw
          go_simp
          all_goals (first | with_reducible rfl | rw [if_pos (by omega)])
        try simp only [Act.put, List.setIfInBounds_toArray, List.set_cons_zero, List.set_cons_succ]
        refine wpAnyH_take (i := 13) (oi := ⟨_, _, _, _, _, _⟩) (v := ?_) rfl (by kernel_rfl) (by kernel_rfl) (by kernel_rfl) (fun _ _ _ h => h) (Or.inl ⟨by rfl, ?_⟩) hHeld ?_
        rotate_left
        · intro w hSw
          try dsimp only at hSw
          go_simp
          all_goals (first | with_reducible rfl | rw [if_pos (by omega)])
        try simp only [Act.put, List.setIfInBounds_toArray, List.set_cons_zero, List.set_cons_succ]
        refine wpAnyH_take (i := 14) (oi := ⟨_, _, _, _, _, _⟩) (v := ?_) rfl (by kernel_rfl) (by kernel_rfl) (by kernel_rfl) (fun _ _ _ h => h) (Or.inl ⟨by rfl, ?_⟩) hHeld ?_
        rotate_left
        · intro w hSw
          try dsimp only at hSw
          go_simp
          all_goals (first | with_reducible rfl | rw [if_pos (by omega)])
        try simp only [Act.put, List.setIfInBounds_toArray, List.set_cons_zero, List.set_cons_succ]
        refine wpAnyH_done (by kernel_rfl) ?_ _
        clear hHeld
        have HDC2 : Hid (∀ f, Doc L (i + 1) f → Doc (rowD l) 0 f) := Lib.hid (fun f h => HPN.out rfl f h)
        have HR7 := Lib.hid (HR.out.ext HX7.out)
        clear hE HX7 XD HR HE HDC HFR HBK HPN HPS HORD HTS HRl HDl
        go_wp2_with fail
        go_roundw
        case rel => exact ⟨i + 1, L, _, c, by go_num, by omega, rfl, hL4, HE7, HOK, HTL, HR7, HDC2⟩
        case measure => simp only [lenOf, intOf]; omega
      | some x2 =>
        obtain ⟨vx, rfl, hv⟩ := hP
        obtain ⟨hdx, hx1, hxo, hxt⟩ := HPS.out x2 rfl
        obtain ⟨us2, ho2, hla2⟩ := hv
        obtain ⟨xA, xcc, rfl, -⟩ := owns_cells ho2
        refine hK.out _ _ (show Ext _ _ from hHeld.trans hE) (fun hHeld => ?_)
        clear hK K'
        try simp only [Act.put, List.setIfInBounds_toArray, List.set_cons_zero, List.set_cons_succ]
        refine wpAnyH_take (i := 10) (oi := ⟨_, _, _, _, _, _⟩) (v := ?_) rfl (by kernel_rfl) (by kernel_rfl) (by kernel_rfl) (fun _ _ _ h => h) (Or.inl ⟨by rfl, ?_⟩) hHeld ?_
        rotate_left
        · intro w hSw
          try dsimp only at hSw
          go_simp
          all_goals (first | with_reducible rfl | rw [if_pos (by omega)])
        try simp only [Act.put, List.setIfInBounds_toArray, List.set_cons_zero, List.set_cons_succ]
        refine wpAnyH_take (i := 11) (oi := ⟨_, _, _, _, _, _⟩) (v := ?_) rfl (by kernel_rfl) (by kernel_rfl) (by kernel_rfl) (fun _ _ _ h => h) (Or.inl ⟨by rfl, ?_⟩) hHeld ?_
        rotate_left
        · intro w hSw
          try dsimp only at hSw
          go_simp
          all_goals (first | with_reducible rfl | rw [if_pos (by omega)])
        try simp only [Act.put, List.setIfInBounds_toArray, List.set_cons_zero, List.set_cons_succ]
        refine wpAnyH_take (i := 12) (oi := ⟨_, _, _, _, _, _⟩) (v := ?_) rfl (by kernel_rfl) (by kernel_rfl) (by kernel_rfl) (fun _ _ _ h => h) (Or.inl ⟨by rfl, ?_⟩) hHeld ?_
        rotate_left
        · intro w hSw
          try dsimp only at hSw
          go_simp
          all_goals (first | with_reducible rfl | rw [if_pos (by omega)])
        try simp only [Act.put, List.setIfInBounds_toArray, List.set_cons_zero, List.set_cons_succ]
        refine wpAnyH_take (i := 13) (oi := ⟨_, _, _, _, _, _⟩) (v := ?_) rfl (by kernel_rfl) (by kernel_rfl) (by kernel_rfl) (fun _ _ _ h => h) (Or.inl ⟨by rfl, ?_⟩) hHeld ?_
        rotate_left
        · intro w hSw
          try dsimp only at hSw
          go_simp
          all_goals (first | with_reducible rfl | rw [if_pos (by omega)])
        try simp only [Act.put, List.setIfInBounds_toArray, List.set_cons_zero, List.set_cons_succ]
        refine wpAnyH_take (i := 14) (oi := ⟨_, _, _, _, _, _⟩) (v := ?_) rfl (by kernel_rfl) (by kernel_rfl) (by kernel_rfl) (fun _ _ _ h => h) (Or.inl ⟨by rfl, ?_⟩) hHeld ?_
        rotate_left
        · intro w hSw
          try dsimp only at hSw
          go_simp
          all_goals (first | with_reducible rfl | rw [if_pos (by omega)])
        try simp only [Act.put, List.setIfInBounds_toArray, List.set_cons_zero, List.set_cons_succ]
        refine wpAnyH_done (by kernel_rfl) ?_ _
        clear hHeld
        obtain ⟨us1, ho1, hla1⟩ := HFR.out
        obtain ⟨usD, hrD, hlaD⟩ := HBK.out
        have hRi := HRl.out
        have hDi := HDl.out
        have h2l : (R ++ [x, y]).length = i + 2 := by rw [List.length_append, hRi]; rfl
        rw [h2l, hDi] at hrD
        have hs0 : w.heap.size ≤ wd.heap.size := Nat.le_trans HE.out.size XD.out.size
        have hnil : w7.ownsRow w.heap.size 26 11 (.slice none 0 0) 0 [] := noRow _ _ _ _
        have hlanil : Late (rowS w.heap.size (.slice none 0 0)) (fun W => rowCells RdO 11 W [] []) w7 := Late.all fun _ => rfl
        have hx1 : Late (rowS w.heap.size (.slice none 0 0)) (fun W => rowCells RdO 11 W R us1) w7 := (hla1.ext HX7.out).sub (fun k hk => hk.elim .inl (fun h => by cases h))
        have hrow1 := RdS.of_owns (owns_ext HX7.out ho1)
        have hones1 := rowCells_ones R us1 hla1.now
        have hones2 := rowCells_ones x2 us2 hla2.now
        have honesD := rowCells_ones D usD hlaD.now
        have hsz7 := HE7.out.size
        have HLAD := Lib.hid hlaD
        have HRD := Lib.hid hrD
        have HSR := Lib.hid HX7.out.size
        have HO2 := Lib.hid ho2
        have HLA2 := Lib.hid hla2
        have HON := Lib.hid (show (∀ u ∈ us2, u.oneCell' = true) ∧ (∀ u ∈ usD, u.oneCell' = true) from ⟨hones2, honesD⟩)
        have HX1 := Lib.hid hx1
        have HS0 := Lib.hid hs0
        have HDX := Lib.hid hdx
        have HXO := Lib.hid hxo
        have HXT := Lib.hid hxt
        rw [hRi] at hrow1
        have hLR : R.length = i := hRi
        have hDD : D.length = L.length - (i + 2) := hDi
        have HLR := Lib.hid hLR
        have HDD2 := Lib.hid hDD
        clear hE hla1 hlaD hrD ho1 hRi hDi h2l hla2 ho2 hones2 honesD hx1 hs0 hdx hxo hxt HFR HBK HPN HPS HRl HDl XD HR HDC HOK HTL hLR hDD
        go_upto_region 13 with fail
        go_wp2_with (first | (at_builtin; refine wpList_append_rd rfl rfl T30 (v := _) (by rfl) hnil (by rfl) hrow1 hones1 (by omega) (by simp only [maxLen]; omega) hsz7 ?_))
        intro v8 w8 h8 hg8 hat8
        have HR8 : Hid (rowV2 RdO 26 11 w.heap.size R v8 w8) := Lib.hid (rowV2.app (l := []) (m := R) hlanil HX1.out hg8 hat8 (by rw [HLR.out]; simpa using h8))
        have HBV8 : Hid (∀ k, v8.ownBlock = some k → w7.heap.size ≤ k) := Lib.hid (fun k hk => hat8.elim (fun h => by rw [h] at hk; cases hk) (fun h => by rw [h] at hk; cases hk; exact Nat.le_refl _))
        have X8 := Lib.hid (show Ext w7 w8 from Ext.grown (Ext.refl _) hg8 (fun k hk => by cases hk))
        obtain ⟨us8, ho8, hla8⟩ := HR8.out
        have hx2 : Late (rowS w.heap.size v8) (fun W => rowCells RdO 11 W x2 us2) w8 := HLA2.out.to (Fr.of_ext X8.out (fun _ => False)) (fun k hk hh => by
          rcases hh with hh | hh | hh
          · exact hh.elim
          · exact .inl (Nat.lt_of_lt_of_le hh HS0.out)
          · exact absurd (HBV8.out k hh) (Nat.not_le.2 hk))
        have hrow2 := RdS.of_owns (owns_ext X8.out HO2.out)
        have hones2 := HON.out.1
        have hsz8 := Nat.le_trans hsz7 X8.out.size
        rw [HLR.out] at ho8
        have HX2 := Lib.hid hx2
        have HLA8 := Lib.hid hla8
        obtain ⟨A8, c8, hv8⟩ := lsV.slice HR8.out
        rw [HLR.out] at hv8
        subst hv8
        clear h8 hg8 hat8 hnil hlanil hrow1 hones1 hsz7 hx2 hla8 HX1
        go_wp2_with (first | (at_builtin; refine wpList_append_rd rfl rfl T30 (v := _) (by rfl) ho8 (by rfl) hrow2 hones2 (by omega) (by simp only [maxLen]; omega) hsz8 ?_))
        intro v9 w9 h9 hg9 hat9
        have HR9 : Hid (rowV2 RdO 26 11 w.heap.size (R ++ x2) v9 w9) := Lib.hid (rowV2.app HLA8.out HX2.out hg9 hat9 (by rw [HLR.out]; exact h9))
        have HBV9 : Hid (∀ k, v9.ownBlock = some k → w7.heap.size ≤ k) := Lib.hid (fun k hk => hat9.elim (fun h => by rw [h] at hk; exact HBV8.out k hk) (fun h => by rw [h] at hk; cases hk; exact X8.out.size))
        have X9 := Lib.hid (show Ext w7 w9 from Ext.grown X8.out hg9 HBV8.out)
        obtain ⟨us9, ho9, hla9⟩ := HR9.out
        have hx3 : Late (rowS w.heap.size v9) (fun W => rowCells RdO 11 W D usD) w9 := HLAD.out.to (Fr.of_ext (HX7.out.trans X9.out) (fun _ => False)) (fun k hk hh => by
          rcases hh with hh | hh | hh
          · exact hh.elim
          · exact .inl hh
          · exact absurd (HBV9.out k hh) (Nat.not_le.2 (Nat.lt_of_lt_of_le hk HSR.out)))
        have hrow3 := RdS.ext (HX7.out.trans X9.out) HRD.out
        have hones3 := HON.out.2
        have hsz9 : w.heap.size ≤ w9.heap.size := Nat.le_trans HE7.out.size X9.out.size
        have hl9 : (R ++ x2).length = i + x2.length := by rw [List.length_append, HLR.out]
        rw [hl9] at ho9
        have HX3 := Lib.hid hx3
        have HLA9 := Lib.hid hla9
        obtain ⟨A9, c9, hv9⟩ := lsV.slice HR9.out
        rw [hl9] at hv9
        subst hv9
        have HL9 := Lib.hid hl9
        clear h9 hg9 hat9 hrow2 hones2 hsz8 hx3 hla9 ho8 HX2 HLA8 hl9 HR8 HBV8 X8
        rcases Nat.lt_or_ge (i + 2) c with hcp | hcp
        · have r1 : ¬ (c = i + 2) := by omega
          have r2 : ¬ (i + 2 = c) := by omega
          have r3 : ¬ (c - (i + 2) = 0) := by omega
          have r4 : ¬ (c ≤ i + 2) := by omega
          go_wp2_with (first | (at_builtin; refine wpList_append_rd rfl rfl T30 (v := _) (by rfl) ho9 (by rfl) hrow3 hones3 (by omega) (by simp only [maxLen]; omega) hsz9 ?_))
          intro v10 w10 h10 hg10 hat10
          have HR10 : Hid (rowV2 RdO 26 11 w.heap.size (R ++ x2 ++ D) v10 w10) := Lib.hid (rowV2.app HLA9.out HX3.out hg10 hat10 (by rw [HL9.out, HDD2.out]; exact h10))
          have HE10 := Lib.hid (HE7.out.trans (Ext.grown X9.out hg10 HBV9.out))
          obtain ⟨L3, hL3⟩ : ∃ L3, R ++ x2 ++ D = L3 := ⟨_, rfl⟩
          have hL3l : L3.length + 1 ≤ L.length := by rw [← hL3, List.length_append, HL9.out, HDD2.out]; omega
          have HO3 : Hid (∀ o ∈ L3, OkR o) := Lib.hid (by
            rw [← hL3]
            intro q hq
            rcases List.mem_append.1 hq with hq | hq
            · exact (List.mem_append.1 hq).elim (HORD.out.1 q) (HXO.out q)
            · exact HORD.out.2 q hq)
          have HT3 : Hid (totD L3 ≤ 10000) := Lib.hid (by
            have h1 := HTS.out; have h2 := HXT.out
            rw [← hL3, totD_app, totD_app]; omega)
          have HDC3 : Hid (∀ f, Doc L3 0 f → Doc (rowD l) 0 f) := Lib.hid (by rw [← hL3]; exact HDX.out)
          rw [hL3] at HR10
          obtain ⟨A10, c10, rfl⟩ := lsV.slice HR10.out
          clear h10 hg10 hat10 hrow3 hones3 hsz9 ho9 HX3 HLA9 HR9 HBV9 X9 HL9 hL3 HE7 HE HX7 HORD HTS HXO HXT HDX HON HLAD HRD HSR HO2 HLA2 HS0 HLR HDD2
          go_wp2_with fail
          go_roundw
          case rel => exact ⟨0, L3, A10, c10, rfl, Nat.zero_le _, rfl, by omega, HE10, HO3, HT3, HR10, HDC3⟩
          case measure => simp only [lenOf, intOf]; omega
        · obtain rfl : c = i + 2 := by omega
          have hD0 : D.length = 0 := by rw [HDD2.out]; omega
          obtain rfl : D = [] := List.eq_nil_of_length_eq_zero hD0
          have hus : usD = [] := HX3.out.now
          subst hus
          have hLe : L.length - (i + 2) = 0 := by omega
          rw [hLe] at hrow3
          have hrow3 : RdS w9 11 0 [] (.slice (some ⟨bx, ox, none⟩) 0 0) := ⟨_, _, rfl, rfl, Nat.le_refl _, by simp [maxLen], fun h => absurd h (by omega)⟩
          clear hD0
          go_wp2_with (first | (at_builtin; refine wpList_append_rd rfl rfl T30 (v := _) (by rfl) ho9 (by rfl) hrow3 hones3 (by omega) (by simp only [maxLen]; omega) hsz9 ?_))
          intro v10 w10 h10 hg10 hat10
          have HR10 : Hid (rowV2 RdO 26 11 w.heap.size (R ++ x2 ++ ([] : List OpD)) v10 w10) := Lib.hid (rowV2.app HLA9.out HX3.out hg10 hat10 (by rw [HL9.out]; simpa using h10))
          have HE10 := Lib.hid (HE7.out.trans (Ext.grown X9.out hg10 HBV9.out))
          obtain ⟨L3, hL3⟩ : ∃ L3, R ++ x2 ++ ([] : List OpD) = L3 := ⟨_, rfl⟩
          have hL3l : L3.length + 1 ≤ L.length := by rw [← hL3, List.length_append, HL9.out, HDD2.out]; omega
          have HO3 : Hid (∀ o ∈ L3, OkR o) := Lib.hid (by
            rw [← hL3]
            intro q hq
            rcases List.mem_append.1 hq with hq | hq
            · exact (List.mem_append.1 hq).elim (HORD.out.1 q) (HXO.out q)
            · exact HORD.out.2 q hq)
          have HT3 : Hid (totD L3 ≤ 10000) := Lib.hid (by
            have h1 := HTS.out; have h2 := HXT.out
            rw [← hL3, totD_app, totD_app]; omega)
          have HDC3 : Hid (∀ f, Doc L3 0 f → Doc (rowD l) 0 f) := Lib.hid (by rw [← hL3]; exact HDX.out)
          rw [hL3] at HR10
          obtain ⟨A10, c10, rfl⟩ := lsV.slice HR10.out
          clear h10 hg10 hat10 hrow3 hones3 hsz9 ho9 HX3 HLA9 HR9 HBV9 X9 HL9 hL3 HE7 HE HX7 HORD HTS HXO HXT HDX HON HLAD HRD HSR HO2 HLA2 HS0 HLR HDD2
          go_wp2_with fail
          go_roundw
          case rel => exact ⟨0, L3, A10, c10, rfl, Nat.zero_le _, rfl, by omega, HE10, HO3, HT3, HR10, HDC3⟩
          case measure => simp only [lenOf, intOf]; omega
end Go.Proofs.Ytkimbpeapolcbaa.Sy
