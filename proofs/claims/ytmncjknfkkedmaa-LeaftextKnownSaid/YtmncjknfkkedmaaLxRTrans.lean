/- Chapter 05: the document's Transform, walked. -/
import Derived.Test.YtmncjknfkkedmaaLxBehind
import Derived.Test.YtmncjknfkkedmaaLxRApply
namespace Go.Proofs.Ytmncjknfkkedmaa.Lx
open Go.RowKit Go.Proofs.Ytmncjknfkkedmaa.Bw Go.Proofs.Ytmncjknfkkedmaa.Bs

/-- The places that Transform looks at. -/
def tN (a b : List Pc) : Nat := (max (extL (normL a)) (extL (normL b))).toNat
theorem VAt.ext {W W' : World} {P : List ByteArray} {D : List Bool} {v : Value} (h : VAt W P D v) (e : Ext W W') : VAt W' P D v := by
  obtain ⟨g1, g2, c1, c2, rfl, h1, h2, h3, h4⟩ := h
  exact ⟨g1, g2, c1, c2, rfl, h1.ext e, h2.ext e, h3, h4⟩
theorem RdP.okp2 {l : List Pc} (hn : Nn l) (hw : wt l ≤ 1000000) : ∀ p ∈ l, okStr p.put := fun p hp => by
  have h1 := wt_mem hn hp
  have h2 := hn p hp
  unfold okStr maxLen
  omega
theorem putF_size : ∀ {l : List Pc} {n i : Nat} {C : Nat}, (∀ p ∈ l, p.put.size ≤ C) → (putF l n i).size ≤ C
  | [], _, _, _, _ => Nat.zero_le _
  | p :: r, n, i, C, h => by
    show (if _ then p.put else putF r _ i).size ≤ C
    split
    · exact h p List.mem_cons_self
    · exact putF_size (fun q hq => h q (List.mem_cons_of_mem _ hq))
theorem vwF_size {l : List Pc} {N C : Nat} (hn : Nn l) (hr : NR l) (h : ∀ p ∈ l, p.put.size ≤ C) : ∀ x ∈ vwF l N, x.1.size ≤ C := by
  intro x hx
  obtain ⟨i, hi⟩ := List.mem_iff_getElem?.1 hx
  have hl : i < (vwF l N).length := (List.getElem?_eq_some_iff.1 hi).1
  rw [vwF_len] at hl
  rw [vwF_get N hn hr (by omega)] at hi
  rw [← Option.some.inj hi]
  exact putF_size h

set_option maxRecDepth 100000 in
set_option maxHeartbeats 4000000 in
theorem transformR_any (a b : List Pc) (va vb : Value) (prior : Bool) (w : World) (ha : RdP w a va) (hb : RdP w b vb) (sa : sumP a ≤ 1000) (sb : sumP b ≤ 1000) (la : a.length ≤ 1000) (lb : b.length ≤ 1000) : Calls Try.prog 21 #[va, vb, .bool prior] w fun e w' => ∃ vx vy, e = .returned (.tuple #[vx, vy, .int .i64 (trE prior a b)]) ∧ RdP w' (trX prior a b) vx ∧ RdP w' (trY prior a b) vy ∧ Ext w w' := by
  have hca := rightR_any a va w ha
  obtain ⟨Aa, ca, rfl, _⟩ := id ha
  obtain ⟨Ab, cb, rfl, _⟩ := id hb
  obtain ⟨ra, hra⟩ : ∃ r, pcsRight a = r := ⟨_, rfl⟩
  obtain ⟨rb, hrb⟩ : ∃ r, pcsRight b = r := ⟨_, rfl⟩
  rw [hra] at hca
  have HA := Lib.hid hra
  have HB := Lib.hid hrb
  clear hra hrb
  go_enter Try.func21, Try.ntmps21
  go_wp2_with fail
  refine hca.mono ?_
  clear hca
  rintro e w1 ⟨_, rfl, rfl, E1⟩
  cases ra with
  | false =>
    go_wp2_with fail
    go_ret3
    have e0 : trE prior a b = 2 := by unfold trE; rw [HA.out]; rfl
    rw [show trX prior a b = [] by unfold trX; rw [e0]; rfl, show trY prior a b = [] by unfold trY; rw [e0]; rfl, e0]
    exact ⟨_, _, rfl, RdP.nil _, RdP.nil _, E1⟩
  | true =>
    have hcb := rightR_any b _ w1 (hb.ext E1)
    rw [HB.out] at hcb
    go_wp2_with fail
    refine hcb.mono ?_
    clear hcb
    rintro e w2 ⟨_, rfl, rfl, E12⟩
    have E2 := E1.trans E12
    clear E1 E12
    cases rb with
    | false =>
      go_wp2_with fail
      go_ret3
      have e0 : trE prior a b = 2 := by unfold trE; rw [HA.out, HB.out]; rfl
      rw [show trX prior a b = [] by unfold trX; rw [e0]; rfl, show trY prior a b = [] by unfold trY; rw [e0]; rfl, e0]
      exact ⟨_, _, rfl, RdP.nil _, RdP.nil _, E2⟩
    | true =>
      obtain ⟨n1, _, _⟩ := right_nn HA.out
      obtain ⟨n2, _, _⟩ := right_nn HB.out
      have wa : wt a ≤ 1000 := by rw [← sumP_eq n1]; exact sa
      have wb : wt b ≤ 1000 := by rw [← sumP_eq n2]; exact sb
      have m1 := normL_nn n1
      have m2 := normL_nn n2
      have v1 := normL_wt n1
      have v2 := normL_wt n2
      have r1 := NR.normL a
      have r2 := NR.normL b
      have x1 := extL_nn m1
      have x2 := extL_nn m2
      have hT := trS_eq prior n1 n2 (tN a b) (by unfold tN; omega) (by unfold tN; omega)
      have htN : (tN a b : Int) = max (extL (normL a)) (extL (normL b)) := by unfold tN; omega
      have hna := normR_any a _ w2 (ha.ext E2) n1 (by omega) (by omega)
      go_wp2_with fail
      refine hna.mono ?_
      clear hna
      rintro e w3 ⟨v3, rfl, O3, E23⟩
      have E3 := E2.trans E23
      have R3 := RdP.of_owns O3 (RdP.okp2 m1 (by omega))
      have hnb := normR_any b _ w3 (hb.ext E3) n2 (by omega) (by omega)
      obtain ⟨A3, c3, rfl, _⟩ := RdS.of_owns O3
      clear O3 E2 E23
      go_wp2_with fail
      refine hnb.mono ?_
      clear hnb
      rintro e w4 ⟨v4, rfl, O4, E34⟩
      have E4 := E3.trans E34
      have R4 := RdP.of_owns O4 (RdP.okp2 m2 (by omega))
      obtain ⟨A4, c4, rfl, _⟩ := RdS.of_owns O4
      replace R3 := R3.ext E34
      clear O4 E3 E34
      obtain ⟨N, hN⟩ : ∃ N, tN a b = N := ⟨_, rfl⟩
      rw [hN] at hT htN
      have HT := Lib.hid hT
      generalize normL a = pa at *
      generalize normL b = pb at *
      clear hT hN
      go_upto_region 5 with fail
      go_cut [9] from 26 to 31 (fun s9 wx => s9 = .int .i64 (N : Int) ∧ Ext w4 wx)
      case first =>
        have hx1 := extentR_any pa _ w4 R3 m1 (by omega)
        go_wp2_with fail
        refine hx1.mono ?_
        clear hx1
        rintro e w5 ⟨_, rfl, rfl, E45⟩
        have hx2 := extentR_any pb _ w5 (R4.ext E45) m2 (by omega)
        go_wp2_with fail
        refine hx2.mono ?_
        clear hx2
        rintro e w6 ⟨_, rfl, rfl, E56⟩
        rcases Int.lt_or_le (extL pa) (extL pb) with hm | hm
        · have hm2 : ¬ extL pb ≤ extL pa := by omega
          have hm3 : extL pa ≤ extL pb := by omega
          go_wp2_with fail
          go_meet
          exact ⟨by rw [htN, show max (extL pa) (extL pb) = extL pb by omega], E45.trans E56⟩
        · have hm2 : ¬ extL pa < extL pb := by omega
          go_wp2_with fail
          go_meet
          exact ⟨by rw [htN, show max (extL pa) (extL pb) = extL pa by omega], E45.trans E56⟩
      case rest =>
        obtain ⟨rfl, E46⟩ := hcut
        have E6 := E4.trans E46
        replace R3 := R3.ext E46
        replace R4 := R4.ext E46
        have hN1 : N ≤ 1000 := by omega
        have z1 : extL pa ≤ (N : Int) := by omega
        have z2 : extL pb ≤ (N : Int) := by omega
        have b1 : ∀ x ∈ vwF pa N, x.1.size ≤ 1000000 := vwF_size m1 r1 (fun p hp => by have h1 := wt_mem m1 hp; have h2 := m1 p hp; omega)
        have b2 : ∀ x ∈ vwF pb N, x.1.size ≤ 1000000 := vwF_size m2 r2 (fun p hp => by have h1 := wt_mem m2 hp; have h2 := m2 p hp; omega)
        have hl1 := vwF_len N pa
        have hl2 := vwF_len N pb
        have hv := view_any pa N (by omega) _ wc R3 m1 z1
        clear htN E4 E46 x1 x2 v1 v2
        go_wp2_with fail
        refine hv.mono ?_
        clear hv
        rintro e w7 ⟨v7, rfl, V7, E67⟩
        have E7 := E6.trans E67
        have hv := view_any pb N (by omega) _ w7 (R4.ext E67) m2 z2
        go_wp2_with fail
        refine hv.mono ?_
        clear hv
        rintro e w8 ⟨v8, rfl, V8, E78⟩
        have E8 := E7.trans E78
        rw [← vwF_puts m1 r1, ← vwF_drops m1 r1] at V7
        rw [← vwF_puts m2 r2, ← vwF_drops m2 r2] at V8
        replace V7 := V7.ext E78
        generalize vwF pa N = A at *
        generalize vwF pb N = B at *
        clear E6 E7 E67 E78 R3 R4
        obtain ⟨a1, a2, ac1, ac2, rfl, A1, A2, A5, A6⟩ := id V7
        obtain ⟨d1, d2, dc1, dc2, rfl, B1, B2, B5, B6⟩ := id V8
        go_upto_region 7 with fail
        obtain ⟨X, hX⟩ : ∃ X, w8.heap.size = X := ⟨_, rfl⟩
        have f1 : (A.map Prod.fst).length = N + 1 := by rw [List.length_map]; exact hl1
        have f2 : (A.map Prod.snd).length = N + 1 := by rw [List.length_map]; exact hl1
        have f3 : (B.map Prod.fst).length = N + 1 := by rw [List.length_map]; exact hl2
        have f4 : (B.map Prod.snd).length = N + 1 := by rw [List.length_map]; exact hl2
        rw [f1, f2] at V7
        rw [f3, f4] at V8
        obtain ⟨w9, hw9⟩ : ∃ W, (w8.alloc (.cells #[.slice (some ⟨a1, 0, none⟩) (N + 1) ac1, .slice (some ⟨a2, 0, none⟩) (N + 1) ac2] 69)).alloc (.cells #[.slice (some ⟨d1, 0, none⟩) (N + 1) dc1, .slice (some ⟨d2, 0, none⟩) (N + 1) dc2] 69) = W := ⟨_, rfl⟩
        have X9 : Ext w8 w9 := by rw [← hw9]; exact ((Ext.refl w8).alloc _).alloc _
        have BX : NBox w9 X 69 #[.slice (some ⟨a1, 0, none⟩) (N + 1) ac1, .slice (some ⟨a2, 0, none⟩) (N + 1) ac2] := by
          rw [← hw9, ← hX]; exact (NBox.new w8 69 _).ext ((Ext.refl _).alloc _)
        have BY : NBox w9 (X + 1) 69 #[.slice (some ⟨d1, 0, none⟩) (N + 1) dc1, .slice (some ⟨d2, 0, none⟩) (N + 1) dc2] := by
          have hs : (w8.alloc (.cells #[.slice (some ⟨a1, 0, none⟩) (N + 1) ac1, .slice (some ⟨a2, 0, none⟩) (N + 1) ac2] 69)).heap.size = X + 1 := by rw [← hX]; simp
          rw [← hw9, ← hs]; exact NBox.new _ 69 _
        rw [hw9, hX]
        have c0 := BX.cell 0
        have c1 := BX.cell 1
        have c2 := BY.cell 0
        have c3' := BY.cell 1
        replace V7 := V7.ext X9
        replace V8 := V8.ext X9
        have E9 := E8.trans X9
        have K1 : ∀ W, Ext w9 W → Calls Try.prog 40 #[.agg #[.slice (some ⟨a1, 0, none⟩) (N + 1) ac1, .slice (some ⟨a2, 0, none⟩) (N + 1) ac2], .agg #[.slice (some ⟨d1, 0, none⟩) (N + 1) dc1, .slice (some ⟨d2, 0, none⟩) (N + 1) dc2], .bool prior] W fun e w' => ∃ v', e = .returned v' ∧ w'.ownsRow W.heap.size 29 3 v' (normL (bhP prior A B)).length (pcVals (normL (bhP prior A B))) ∧ Ext W w' := fun W hW => behind_any prior A B _ _ W (V7.ext hW) (V8.ext hW) (by rw [hl1, hl2]) (by omega) b1 b2
        have K2 : ∀ W, Ext w9 W → Calls Try.prog 40 #[.agg #[.slice (some ⟨d1, 0, none⟩) (N + 1) dc1, .slice (some ⟨d2, 0, none⟩) (N + 1) dc2], .agg #[.slice (some ⟨a1, 0, none⟩) (N + 1) ac1, .slice (some ⟨a2, 0, none⟩) (N + 1) ac2], .bool (!prior)] W fun e w' => ∃ v', e = .returned v' ∧ w'.ownsRow W.heap.size 29 3 v' (normL (bhP (!prior) B A)).length (pcVals (normL (bhP (!prior) B A))) ∧ Ext W w' := fun W hW => behind_any (!prior) B A _ _ W (V8.ext hW) (V7.ext hW) (by rw [hl1, hl2]) (by omega) b2 b1
        clear hw9 hX X9 BX BY V7 V8 A1 A2 B1 B2 A5 A6 B5 B6 E8 f1 f2 f3 f4
        go_region_held3 (fun W => Ext w9 W ∧ W.cell? ⟨X, 0, none⟩ = some (.slice (some ⟨a1, 0, none⟩) (N + 1) ac1) ∧ W.cell? ⟨X, 1, none⟩ = some (.slice (some ⟨a2, 0, none⟩) (N + 1) ac2) ∧ W.cell? ⟨X + 1, 0, none⟩ = some (.slice (some ⟨d1, 0, none⟩) (N + 1) dc1) ∧ W.cell? ⟨X + 1, 1, none⟩ = some (.slice (some ⟨d2, 0, none⟩) (N + 1) dc2)) (first | exact ⟨(Ext.refl w9).drew, c0, c1, c2, c3'⟩ | exact ⟨EE, EE.cell c0, EE.cell c1, EE.cell c2, EE.cell c3'⟩) ((go_at_call 40; have hh := ‹Ext w9 _ ∧ _›; first | (have OX' := OX; refine (K2 _ hh.1).mono ?_; rintro e u ⟨vy, rfl, OY, hEY⟩; have EE := Ext.trans hh.1 hEY) | (refine (K1 _ hh.1).mono ?_; rintro e u ⟨vx, rfl, OX, hE⟩; have EE := Ext.trans hh.1 hE)))
        obtain ⟨g1, g2⟩ := bhP_nn prior A B b1 b2
        obtain ⟨g3, g4⟩ := bhP_nn (!prior) B A b2 b1
        rw [hl1] at g2
        rw [hl2] at g4
        have g5 := normL_wt g1
        have g6 := normL_wt g3
        have g7 := normL_nn g1
        have g8 := normL_nn g3
        have RY := RdP.of_owns OY (fun p hp => by
          have h1 := wt_mem g8 hp
          have h2 := g8 p hp
          unfold okStr maxLen; omega)
        have RX := (RdP.of_owns OX' (fun p hp => by
          have h1 := wt_mem g7 hp
          have h2 := g7 p hp
          unfold okStr maxLen; omega)).ext hEY
        obtain ⟨t1, t2⟩ := HT.out
        rw [← t1] at RX
        rw [← t2] at RY
        obtain ⟨LX, hLX⟩ : ∃ l, (trS prior a b).x.l = l := ⟨_, rfl⟩
        obtain ⟨LY, hLY⟩ : ∃ l, (trS prior a b).y.l = l := ⟨_, rfl⟩
        rw [hLX] at RX
        rw [hLY] at RY
        have EE2 := E9.trans EE
        have HLX := Lib.hid hLX
        have HLY := Lib.hid hLY
        obtain ⟨tx, htx⟩ : ∃ t, pcsRight LX = t := ⟨_, rfl⟩
        obtain ⟨ty, hty⟩ : ∃ t, pcsRight LY = t := ⟨_, rfl⟩
        have eE : trE prior a b = if tx && ty then 0 else 3 := by unfold trE; rw [HA.out, HB.out, hLX, hLY, htx, hty]; rfl
        have hcx := rightR_any LX _ u RX
        rw [htx] at hcx
        have HTY := Lib.hid hty
        obtain ⟨AX, cX, rfl, _⟩ := id RX
        obtain ⟨AY, cY, rfl, _⟩ := id RY
        clear OX OX' OY g1 g2 g3 g4 g5 g6 g7 g8 t1 t2 hLX hLY htx hty K1 K2 c0 c1 c2 c3'
        go_wp2_with fail
        refine hcx.mono ?_
        clear hcx
        rintro e w10 ⟨_, rfl, rfl, E10⟩
        cases tx with
        | false =>
          have eE' : trE prior a b = 3 := eE
          have HE := Lib.hid eE'
          clear eE eE'
          go_wp2_with fail
          go_ret3
          rw [show trX prior a b = [] by unfold trX; rw [HE.out]; rfl, show trY prior a b = [] by unfold trY; rw [HE.out]; rfl, HE.out]
          exact ⟨_, _, rfl, RdP.nil _, RdP.nil _, EE2.trans E10⟩
        | true =>
          have hcy := rightR_any LY _ w10 (RY.ext E10)
          rw [HTY.out] at hcy
          go_wp2_with fail
          refine hcy.mono ?_
          clear hcy
          rintro e w11 ⟨_, rfl, rfl, E11⟩
          cases ty with
          | false =>
            have eE' : trE prior a b = 3 := eE
            have HE := Lib.hid eE'
            clear eE eE'
            go_wp2_with fail
            go_ret3
            rw [show trX prior a b = [] by unfold trX; rw [HE.out]; rfl, show trY prior a b = [] by unfold trY; rw [HE.out]; rfl, HE.out]
            exact ⟨_, _, rfl, RdP.nil _, RdP.nil _, (EE2.trans E10).trans E11⟩
          | true =>
            have eE' : trE prior a b = 0 := eE
            have HE := Lib.hid eE'
            clear eE eE'
            go_wp2_with fail
            go_ret3
            rw [show trX prior a b = LX by unfold trX; rw [HE.out, HLX.out]; rfl, show trY prior a b = LY by unfold trY; rw [HE.out, HLY.out]; rfl, HE.out]
            exact ⟨_, _, rfl, RX.ext (E10.trans E11), RY.ext (E10.trans E11), (EE2.trans E10).trans E11⟩
end Go.Proofs.Ytmncjknfkkedmaa.Lx
