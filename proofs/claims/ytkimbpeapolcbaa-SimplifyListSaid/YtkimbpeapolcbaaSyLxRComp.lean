/- Chapter 10: LxRComp turned to this seat. (Printed by gsyport.py.) -/
import Derived.Test.YtkimbpeapolcbaaSyLxEdited
import Derived.Test.YtkimbpeapolcbaaSyLxPlainI
import Derived.Test.YtkimbpeapolcbaaSyLxCPlain6
import Derived.Test.YtkimbpeapolcbaaSyLxComp
import Derived.Test.YtkimbpeapolcbaaSyBsInts
import Derived.Test.YtkimbpeapolcbaaSyWiLate
namespace Go.Proofs.Ytkimbpeapolcbaa.Sy
open Go.RowKit Go.Proofs.Ytkimbpeapolcbaa.Bw Go.Proofs.Ytkimbpeapolcbaa.Bs

def ints (l : List Nat) : List Value := l.map fun (n : Nat) => Value.int .i64 n
theorem ints_one (l : List Nat) : ∀ u ∈ ints l, u.oneCell' = true := by
  intro u hu
  obtain ⟨x, _, rfl⟩ := List.mem_map.1 hu
  rfl
theorem edM_len : ∀ {e : List Pc} (l : List It), Nn e → extL e ≤ (l.length : Int) → (l.length : Int) - extL e ≤ ((edM l e).length : Int) ∧ (edM l e).length ≤ l.length + putLen e
  | [], l, _, _ => by
    constructor
    · show (l.length : Int) - 0 ≤ (l.length : Int); omega
    · exact Nat.le_refl _
  | p :: r, l, h, hx => by
    obtain ⟨h1, h2⟩ := h p List.mem_cons_self
    have h3 := extL_nn h.tail
    have e0 : extL (p :: r) = p.keep + p.drop + extL r := rfl
    have hd : (l.drop (p.keep + p.drop).toNat).length = l.length - (p.keep + p.drop).toNat := List.length_drop
    obtain ⟨a, b⟩ := edM_len (e := r) (l.drop (p.keep + p.drop).toNat) h.tail (by omega)
    have e1 : (edM l (p :: r)).length = min p.keep.toNat l.length + p.put.size + (edM (l.drop (p.keep + p.drop).toNat) r).length := by
      show (l.take p.keep.toNat ++ (bl p.put).map _ ++ edM _ r).length = _
      rw [List.length_append, List.length_append, List.length_take, List.length_map, bl_len]
    have e2 : putLen (p :: r) = p.put.size + putLen r := rfl
    constructor <;> omega
theorem owns_apartX {W : World} {b1 e1 s1 n1 b2 e2 s2 n2 : Nat} {v1 v2 : Value} {xs ys : List Value} (h1 : W.ownsRow b1 e1 s1 v1 n1 xs) (h2 : W.ownsRow b2 e2 s2 v2 n2 ys) (hne : e1 ≠ e2) : ∀ g, v1.ownBlock = some g → v2.ownBlock ≠ some g := by
  intro g hg hk
  rcases h1.2 with ⟨h, _⟩ | ⟨g1, cap, cur, h, _, hb, _⟩
  · rw [h] at hg; simp [Value.ownBlock] at hg
  · rw [h] at hg
    obtain rfl : g1 = g := by simpa [Value.ownBlock] using hg
    exact NBox.not_own (show NBox W g1 e1 cur from hb) h2 hne hk
theorem byte_string (W : World) (c : UInt8) : (convert 50 9 (.slice (some ⟨W.heap.size, 0, none⟩) 1 1)).run Try.prog (W.alloc (.cells #[.int .u8 c.toNat] 5)) = .ok (.string ⟨#[c]⟩) (W.alloc (.cells #[.int .u8 c.toNat] 5)) := by
  exact run_convert_bytes_back (P := Try.prog) (W.alloc (.cells #[.int .u8 c.toNat] 5)) 50 9 5 ⟨W.heap.size, 0, none⟩ 1 [c] Try.underlying50 Try.underlying5 Try.underlying9 (fun j hj => by
    have hb := World.alloc_heap_new W (.cells #[.int .u8 c.toNat] 5)
    have hj : j = 0 := by simpa using hj
    subst hj
    rw [Addr.add_lit, Nat.zero_add]
    simp only [World.cell?, hb]
    simp)
theorem RdP.okp9 {l : List Pc} (hn : Nn l) (hw : wt l ≤ 100000000000) : ∀ p ∈ l, okStr p.put := fun p hp => by
  have h1 := wt_mem hn hp
  have h2 := hn p hp
  unfold okStr maxLen
  omega
theorem ints_get {l : List Nat} {i x : Nat} (h : l[i]? = some x) : (ints l)[i]? = some (.int .i64 (x : Nat)) := by
  unfold ints; rw [List.getElem?_map, h]; rfl
set_option maxRecDepth 100000 in
set_option maxHeartbeats 4000000 in
theorem composeR_any (a b : List Pc) (va vb : Value) (w : World) (ha : RdP w a va) (hb : RdP w b vb) (sa : sumP a ≤ 10000) (sb : sumP b ≤ 10000) (la : a.length ≤ 10000) (lb : b.length ≤ 10000) : Calls Try.prog 39 #[va, vb] w fun e w' => ∃ v', e = .returned (.tuple #[v', .int .i64 (coE a b)]) ∧ RdP w' (coL a b) v' ∧ Ext w w' := by
  have hca := rightR_any a va w ha
  obtain ⟨Aa, ca, rfl, -⟩ := id ha
  obtain ⟨Ab, cb, rfl, -⟩ := id hb
  obtain ⟨ra, hra⟩ : ∃ r, pcsRight a = r := ⟨_, rfl⟩
  obtain ⟨rb, hrb⟩ : ∃ r, pcsRight b = r := ⟨_, rfl⟩
  rw [hra] at hca
  have HA := Lib.hid hra
  have HB := Lib.hid hrb
  clear hra hrb
  go_enter Try.func39, Try.ntmps39
  go_wp2_with fail
  refine hca.mono ?_
  clear hca
  rintro e w1 ⟨_, rfl, rfl, E1⟩
  cases ra with
  | false =>
    go_wp2_with fail
    go_ret2
    have e0 : coE a b = 2 := by unfold coE; rw [HA.out]; rfl
    rw [show coL a b = [] by unfold coL; rw [e0]; rfl, e0]
    exact ⟨_, rfl, RdP.nil _, E1⟩
  | true =>
    have hcb := rightR_any b _ w1 (hb.ext E1)
    rw [HB.out] at hcb
    go_wp2_with fail
    refine hcb.mono ?_
    clear hcb
    rintro e w2 ⟨_, rfl, rfl, E12⟩
    have E2 := E1.trans E12
    clear E1 E12
    cases rb with
    | false =>
      go_wp2_with fail
      go_ret2
      have e0 : coE a b = 2 := by unfold coE; rw [HA.out, HB.out]; rfl
      rw [show coL a b = [] by unfold coL; rw [e0]; rfl, e0]
      exact ⟨_, rfl, RdP.nil _, E2⟩
    | true =>
      obtain ⟨n1, _, _⟩ := right_nn HA.out
      obtain ⟨n2, _, _⟩ := right_nn HB.out
      have wa : wt a ≤ 10000 := by rw [← sumP_eq n1]; exact sa
      have wb : wt b ≤ 10000 := by rw [← sumP_eq n2]; exact sb
      have m1 := normL_nn n1
      have m2 := normL_nn n2
      have v1 := normL_wt n1
      have v2 := normL_wt n2
      have r1 := NR.normL a
      have r2 := NR.normL b
      have x1 := extL_nn m1
      have x2 := extL_nn m2
      have hna := normR_any a _ w2 (ha.ext E2) n1 (by omega) (by omega)
      go_wp2_with fail
      refine hna.mono ?_
      clear hna
      rintro e w3 ⟨v3, rfl, O3, E23⟩
      have E3 := E2.trans E23
      have R3 := RdP.of_owns O3 (RdP.okp2 m1 (by omega))
      have hnb := normR_any b _ w3 (hb.ext E3) n2 (by omega) (by omega)
      obtain ⟨A3, c3, rfl, -⟩ := RdS.of_owns O3
      clear O3 E2 E23
      go_wp2_with fail
      refine hnb.mono ?_
      clear hnb
      rintro e w4 ⟨v4, rfl, O4, E34⟩
      have E4 := E3.trans E34
      have R4 := RdP.of_owns O4 (RdP.okp2 m2 (by omega))
      obtain ⟨A4, c4, rfl, -⟩ := RdS.of_owns O4
      replace R3 := R3.ext E34
      clear O4 E3 E34
      have hdoc : ∀ (N : Nat) (mid : List It), extL (normL a) + extL (normL b) ≤ (N : Int) → edM (olds (N + 1)) (normL a) = mid → (coX a b).l = normL (docC mid (vwF (normL b) mid.length) (stayL ((vwF (normL a) N).map Prod.snd) (N + 1)) 0 ⟨#[]⟩) := fun N mid h hm => coX_doc n1 n2 N h mid hm
      have HDOC := Lib.hid hdoc
      clear hdoc
      generalize normL a = pa at *
      generalize normL b = pb at *
      have hx1 := extentR_any pa _ w4 R3 m1 (by omega)
      go_wp2_with fail
      refine hx1.mono ?_
      clear hx1
      rintro e w5 ⟨_, rfl, rfl, E45⟩
      have hx2 := extentR_any pb _ w5 (R4.ext E45) m2 (by omega)
      obtain ⟨na, hna⟩ : ∃ na : Nat, extL pa = na := ⟨(extL pa).toNat, by omega⟩
      obtain ⟨nb, hnb⟩ : ∃ nb : Nat, extL pb = nb := ⟨(extL pb).toNat, by omega⟩
      rw [hnb] at hx2
      rw [hna]
      have ba : na ≤ 10000 := by omega
      have bb : nb ≤ 10000 := by omega
      have HNA := Lib.hid hna
      have HNB := Lib.hid hnb
      clear hna hnb
      go_wp2_with fail
      refine hx2.mono ?_
      clear hx2
      rintro e w6 ⟨_, rfl, rfl, E56⟩
      have E6 := (E4.trans E45).trans E56
      replace R3 := R3.ext (E45.trans E56)
      replace R4 := R4.ext (E45.trans E56)
      clear E4 E45 E56
      go_wp2_with fail
      go_loopw [7, 8, 9] (fun s7 s8 s9 wr => ∃ i : Nat, s9 = .int .i64 i ∧ i ≤ na + nb + 1 ∧ wr.ownsRow w6.heap.size 89 2 s7 (olds i).length (itVals (olds i)) ∧ wr.ownsRow w6.heap.size 3 1 s8 (List.range i).length (ints (List.range i)) ∧ Ext w6 wr) (fun _ _ i _ => na + nb + 1 - (intOf i).toNat)
      case atStart => exact ⟨0, rfl, Nat.zero_le _, ⟨rfl, .inl ⟨rfl, rfl⟩⟩, ⟨rfl, .inl ⟨rfl, rfl⟩⟩, Ext.refl _⟩
      case round =>
        obtain ⟨i, rfl, hi, O7, O8, hE⟩ := hrel
        rcases Nat.lt_or_ge (na + nb) i with hlt | hlt
        · have t1 : decide ((i : Int) ≤ (na : Int) + (nb : Int)) = false := decide_eq_false (by omega)
          have hi2 : i = na + nb + 1 := by omega
          subst hi2
          have E7 := E6.trans hE
          have R7 := R3.ext hE
          have hv := view_any pa (na + nb) (by omega) _ wr R7 m1 (by have := HNA.out; omega)
          obtain ⟨M, hM⟩ : ∃ M, na + nb = M := ⟨_, rfl⟩
          have hMI : (na : Int) + (nb : Int) = (M : Int) := by omega
          rw [hM] at hv O7 O8
          have HO7 := Lib.hid O7
          have HO8 := Lib.hid O8
          have l7 : (olds (M + 1)).length = M + 1 := List.length_replicate
          have l8 : (List.range (M + 1)).length = M + 1 := List.length_range
          rw [l7] at O7
          rw [l8] at O8
          obtain ⟨lA, lC, rfl, -⟩ := RdS.of_owns O7
          obtain ⟨mA, mC, rfl, -⟩ := RdS.of_owns O8
          have Rm := RdS.of_owns O7
          have Rp := RdS.of_owns O8
          have HMM := Lib.hid hM
          clear O7 O8 hM l7 l8
          go_wp2_with fail
          rw [hMI]
          refine hv.mono ?_
          clear hv
          rintro e w7 ⟨v7, rfl, V7, E67⟩
          have E8 := E7.trans E67
          have V7' := V7
          obtain ⟨g1, g2, gc1, gc2, rfl, G1, G2, G3, G4⟩ := V7'
          have f1 : (vGo pa 0 (List.replicate (M + 1) ⟨#[]⟩)).length = M + 1 := by rw [vGo_len, List.length_replicate]
          have f2 : (dGo pa 0 (List.replicate (M + 1) false)).length = M + 1 := by rw [dGo_len, List.length_replicate]
          rw [f1, f2] at V7
          go_upto_region 14 with fail
          obtain ⟨X, hX⟩ : ∃ X, w7.heap.size = X := ⟨_, rfl⟩
          obtain ⟨w8, hw8⟩ : ∃ W, (w7.alloc (.cells #[.slice (some ⟨g1, 0, none⟩) (M + 1) gc1, .slice (some ⟨g2, 0, none⟩) (M + 1) gc2] 93)).alloc (.cells #[.slice none 0 0, .slice none 0 0] 93) = W := ⟨_, rfl⟩
          have X8 : Ext w7 w8 := by rw [← hw8]; exact ((Ext.refl w7).alloc _).alloc _
          have BX : NBox w8 X 93 #[.slice (some ⟨g1, 0, none⟩) (M + 1) gc1, .slice (some ⟨g2, 0, none⟩) (M + 1) gc2] := by
            rw [← hw8, ← hX]; exact (NBox.new w7 93 _).ext ((Ext.refl _).alloc _)
          have BY : NBox w8 (X + 1) 93 #[.slice none 0 0, .slice none 0 0] := by
            have hs : (w7.alloc (.cells #[.slice (some ⟨g1, 0, none⟩) (M + 1) gc1, .slice (some ⟨g2, 0, none⟩) (M + 1) gc2] 93)).heap.size = X + 1 := by rw [← hX]; simp
            rw [← hw8, ← hs]; exact NBox.new _ 93 _
          rw [hw8, hX]
          have HXX := Lib.hid hX
          clear hw8 hX
          have E9 := E8.trans X8
          have X78 := E67.trans X8
          have l7 : (olds (M + 1)).length = M + 1 := List.length_replicate
          have hme := edM_len (e := pa) (olds (M + 1)) m1 (by rw [l7]; have := HNA.out; have := HMM.out; omega)
          rw [l7] at hme
          have pl := putLen_le m1
          have he := edited_any (olds (M + 1)) pa (.slice lA (M + 1) lC) (.slice A3 pa.length c3) w8 (by rw [l7]; exact Rm.ext X78) (R7.ext X78) m1 (by rw [l7]; have := HNA.out; have := HMM.out; omega) (by rw [l7]; have := HMM.out; omega) (by omega)
          obtain ⟨mid, hmid⟩ : ∃ m, edM (olds (M + 1)) pa = m := ⟨_, rfl⟩
          rw [hmid] at he hme
          have HMID := Lib.hid hmid
          clear l7 hmid Rm
          go_wp2_with fail
          refine he.mono ?_
          clear he
          rintro e w9 ⟨v9, rfl, O9, E89⟩
          have E10 := E9.trans E89
          obtain ⟨L, hL⟩ : ∃ L, mid.length = L := ⟨_, rfl⟩
          rw [hL] at O9 hme
          have HL := Lib.hid hL
          clear hL
          have R8 := R4.ext ((hE.trans X78).trans E89)
          have hLb : extL pb ≤ (L : Int) := by have := HNA.out; have := HNB.out; have := HMM.out; omega
          have hv := view_any pb L (by have := HMM.out; omega) _ w9 R8 m2 hLb
          obtain ⟨kA, kC, rfl, -⟩ := RdS.of_owns O9
          go_wp2_with fail
          refine hv.mono ?_
          clear hv
          rintro e w10 ⟨v10, rfl, V10, E910⟩
          have E11 := E10.trans E910
          have V10' := V10
          obtain ⟨d1, d2, dc1, dc2, rfl, D1, D2, D3, D4⟩ := V10'
          have f3 : (vGo pb 0 (List.replicate (L + 1) ⟨#[]⟩)).length = L + 1 := by rw [vGo_len, List.length_replicate]
          have f4 : (dGo pb 0 (List.replicate (L + 1) false)).length = L + 1 := by rw [dGo_len, List.length_replicate]
          have BY2 := BY.ext (E89.trans E910)
          have y0 := BY2.cell 0
          have y1 := BY2.cell 1
          have y2 := BY2.frozen 0
          have y3 := BY2.frozen 1
          go_wp2_with fail
          obtain ⟨w11, hw11⟩ : ∃ W, (w10.setCell ⟨X + 1, 0, none⟩ (.slice (some ⟨d1, 0, none⟩) (L + 1) dc1)).setCell ⟨X + 1, 1, none⟩ (.slice (some ⟨d2, 0, none⟩) (L + 1) dc2) = W := ⟨_, rfl⟩
          have F11 : Fr w10 w11 (fun k => k = X + 1) := by rw [← hw11]; exact (Fr.setCell _ _ _ _).trans (Fr.setCell _ _ _ _)
          have BY3 : NBox w11 (X + 1) 93 #[.slice (some ⟨d1, 0, none⟩) (L + 1) dc1, .slice (some ⟨d2, 0, none⟩) (L + 1) dc2] := by rw [← hw11]; exact (BY2.set 0 _).set 1 _
          have BX3 := ((BX.ext E89).ext E910).fr F11 (by omega)
          have D1' := D1.fr F11 (NBox.apartX D1 BY2 (by decide))
          have D2' := D2.fr F11 (NBox.apartX D2 BY2 (by decide))
          have BYw := BY
          have G1' := (((G1.ext X8).ext E89).ext E910).fr F11 (NBox.apartX (((G1.ext X8).ext E89).ext E910) BY2 (by decide))
          have G2' := (((G2.ext X8).ext E89).ext E910).fr F11 (NBox.apartX (((G2.ext X8).ext E89).ext E910) BY2 (by decide))
          have O9' := owns_fr F11 (owns_ext E910 O9) (fun g hg h0 => by have := owns_base O9 g hg; have := BY.lt; omega)
          obtain ⟨Ap, cp, ep, _, pc1, pc2, pcell⟩ := Rp
          obtain ⟨pb', poff, eA, pcs⟩ := pcell (Nat.succ_pos M)
          obtain ⟨rfl, rfl⟩ : mA = Ap ∧ mC = cp := by simpa using ep
          subst eA
          have hpX : pb' < X := by
            have h0 := pcs 0 (.int .i64 ((0 : Nat) : Int)) (by rw [ints, List.getElem?_map, List.getElem?_range (Nat.succ_pos M)]; rfl)
            have h1 := lt_of_cell h0
            have h7 := E67.size
            rw [HXX.out] at h7
            omega
          have pcell' : ∀ i, i < M + 1 → w11.cell? ⟨pb', poff + i, none⟩ = some (.int .i64 (i : Nat)) := fun i hi => F11.cell (by omega) (((X78.trans E89).trans E910).cell (pcs i _ (by rw [ints, List.getElem?_map, List.getElem?_range hi]; rfl)))
          obtain ⟨DA, hDA⟩ : ∃ D, dGo pa 0 (List.replicate (M + 1) false) = D := ⟨_, rfl⟩
          rw [hDA] at G2' f2
          have HDA := Lib.hid hDA
          have E12 : Ext w w11 := Fr.ext E11 F11 (fun k hk => by have h1 := HXX.out; have h2 := E8.size; omega)
          rw [hw11]
          clear hw11 BY2 y0 y1 y2 y3 BY BX D1 D2 G1 G2 F11 hDA E67 X78 E89 E910 E10 E11 X8 E9 E8 V7 V10 pcs BYw
          go_loopw [13, 14] (fun s13 s14 wr => ∃ i : Nat, s14 = .int .i64 i ∧ i ≤ M + 1 ∧ wr.ownsRow w11.heap.size 3 1 s13 (stayL DA i).length (ints (stayL DA i)) ∧ Ext w11 wr) (fun _ i _ => M + 1 - (intOf i).toNat)
          case atStart => exact ⟨0, rfl, Nat.zero_le _, ⟨rfl, .inl ⟨rfl, rfl⟩⟩, Ext.refl _⟩
          case round =>
            obtain ⟨i, rfl, hi, O13, hE13⟩ := hrel
            have BX4 := BX3.ext hE13
            have x0 := BX4.cell 0
            have x1 := BX4.cell 1
            rcases Nat.lt_or_ge M i with hlt | hlt
            · obtain rfl : i = M + 1 := by omega
              obtain ⟨mi, hmi0⟩ : ∃ x : Int, ((M + 1 : Nat) : Int) = x := ⟨_, rfl⟩
              have t1 : decide (mi ≤ (M : Int)) = false := decide_eq_false (by omega)
              rw [hmi0]
              clear hmi0
              obtain ⟨V, hV⟩ : ∃ V, vwF pb L = V := ⟨_, rfl⟩
              have vP := vwF_puts m2 r2 L
              have vD := vwF_drops m2 r2 L
              have vL := vwF_len L pb
              rw [hV] at vP vD vL
              rw [← vP] at D1'
              rw [← vD] at D2'
              obtain ⟨st, hst⟩ : ∃ l, stayL DA (M + 1) = l := ⟨_, rfl⟩
              rw [hst] at O13
              have hA2 := vwF_drops m1 r1 M
              rw [HDA.out] at hA2
              have hdocM := HDOC.out M mid (by have := HNA.out; have := HNB.out; have := HMM.out; omega) HMID.out
              rw [HL.out, hA2, hst, hV] at hdocM
              have hsv := stayL_view (A := vwF pa M) hA2
              rw [vwF_len, hst] at hsv
              have hmv := edM_view M m1 r1 (by have := HNA.out; have := HMM.out; omega)
              rw [HMID.out] at hmv
              have hcnt : oldsIn mid = st.length := by rw [hmv, hsv]; exact oldsIn_edV _ 0
              have hle : ∀ x ∈ st, x ≤ M := fun x hx => by rw [hsv] at hx; have := (stV_ge _ 0 x hx).2; rw [vwF_len] at this; omega
              have hsrt : st.Pairwise (· < ·) := by rw [hsv]; exact stV_lt _ 0
              have ok0 := DS.ok0 (V := V) (M := M) hcnt hle hsrt
              have hbig : ∀ x ∈ V, x.1.size ≤ 100000 := by
                rw [← hV]
                exact vwF_size m2 r2 (fun p hp => by have h1 := wt_mem m2 hp; have h2 := m2 p hp; omega)
              have HDM := Lib.hid hdocM
              have HOK := Lib.hid ok0
              have HBIG := Lib.hid hbig
              have HVL := Lib.hid vL
              have RS := RdS.of_owns O13
              have RM := RdS.of_owns O9'
              have hstl : st.length ≤ M + 1 := by
                have := List.length_filter_le (fun j => !(DA.getD j false)) (List.range (M + 1))
                rw [List.length_range] at this
                rw [← hst]; exact this
              clear hst hV vP vD vL hA2 hdocM hsv hmv hcnt hle hsrt ok0 hbig x0 x1 BX4 BX3 G1' G2'
              obtain ⟨sA, sC, rfl, -⟩ := RdS.of_owns O13
              have BY4 := BY3.ext hE13
              have D3' := D1'.ext hE13
              have D4' := D2'.ext hE13
              replace RM := RM.ext hE13
              have E13 := E12.trans hE13
              clear O13 O9' D1' D2' BY3 E12
              go_wp2_with fail
              have hLb2 : L ≤ 40000 := by have := HMM.out; omega
              have hL1 : 0 < L := by have := HNA.out; have := HMM.out; omega
              have hM2 : M ≤ 25000 := by have := HMM.out; omega
              obtain ⟨Ak, ck, ek, _, _, cmk, kcell⟩ := RM
              obtain ⟨rfl, rfl⟩ : kA = Ak ∧ kC = ck := by simpa using ek
              obtain ⟨kb, koff, rfl, kcells⟩ := kcell hL1
              obtain ⟨As, cs', es, _, hsc1, hsc2, scell⟩ := RS
              obtain ⟨rfl, rfl⟩ : sA = As ∧ sC = cs' := by simpa using es
              unfold maxLen at cmk hsc2
              obtain ⟨wo, rfl⟩ : ∃ wo : World, wo = wr := ⟨_, rfl⟩
              clear f1 f3 f4 ek es kcell hE13 E6 hE t1 hlt hme pl x1 x2 v1 v2 R3 R4 R7 R8 D3 D4 G3 G4 pcell' ba bb
              go_loopw [15, 16, 17, 18, 19] (fun s15 s16 s17 s18 s19 wr => ∃ (i : Nat) (out : List Pc) (put : ByteArray) (last old : Nat), s16 = .int .i64 old ∧ s17 = .int .i64 last ∧ s18 = .string put ∧ s19 = .int .i64 i ∧ i ≤ L ∧ wr.ownsRow wo.heap.size 35 3 s15 out.length (pcVals out) ∧ Hid (DS.Ok ⟨out, put, last, old⟩ mid V st M i) ∧ Ext wo wr) (fun _ _ _ _ i _ => L - (intOf i).toNat)
              case atStart => exact ⟨0, [], ⟨#[]⟩, 0, 0, rfl, rfl, rfl, rfl, Nat.zero_le _, ⟨rfl, .inl ⟨rfl, rfl⟩⟩, HOK, Ext.refl _⟩
              case round =>
                obtain ⟨i, out, put, last, old, rfl, rfl, rfl, rfl, hi, hO, HS, hE⟩ := hrel
                have b1 := HS.out.w
                have b2 := HS.out.len
                have b3 := HS.out.la
                have b4 := HS.out.ol
                have b5 := wt_nn HS.out.nn
                dsimp only at b1 b2 b3 b4 b5
                have b6 : put.size ≤ 100000000000 := by omega
                have b7 : wt out ≤ 90000000000 := by omega
                clear b1 b5
                have y0 := (BY4.ext hE).cell 0
                have y1 := (BY4.ext hE).cell 1
                rcases Nat.lt_or_ge i L with hlt | hlt
                · obtain ⟨⟨mo, mc⟩, hmi⟩ : ∃ x, mid[i]? = some x := ⟨_, List.getElem?_eq_getElem (by rw [HL.out]; exact hlt)⟩
                  obtain ⟨⟨yp, yd⟩, hvi⟩ : ∃ x, V[i]? = some x := ⟨_, List.getElem?_eq_getElem (by rw [HVL.out]; omega)⟩
                  have q1 : (0 : Int) ≤ (i : Int) := by omega
                  have q2 : (i : Int) < (L : Int) := by omega
                  have q3 : (i : Int) < (L : Int) + 1 := by omega
                  have e1 : wr.cell? ⟨d1, i, none⟩ = some (.string yp) := by rw [(D3'.ext hE).cell]; exact strV_get (by rw [List.getElem?_map, hvi]; rfl)
                  have e2 : wr.cell? ⟨d2, i, none⟩ = some (.bool yd) := by rw [(D4'.ext hE).cell]; exact boolV_get (by rw [List.getElem?_map, hvi]; rfl)
                  have e3 : wr.cell? ⟨kb, koff + i * 2, none⟩ = some (.bool mo) := hE.cell (kcells (i * 2) _ (itVals_get (j := 0) hmi (by decide)))
                  have e4 : wr.cell? ⟨kb, koff + i * 2 + 1, none⟩ = some (.int .u8 mc.toNat) := hE.cell (kcells (i * 2 + 1) _ (itVals_get (j := 1) hmi (by decide)))
                  have hyp := HBIG.out _ (List.mem_of_getElem? hvi)
                  dsimp only at hyp
                  cases mo with
                  | true =>
                    obtain ⟨x, hx, g5, g6⟩ := HS.out.which hmi
                    dsimp only at hx g5 g6
                    have hol : old < st.length := (List.getElem?_eq_some_iff.1 hx).1
                    obtain ⟨sb, soff, rfl, scells⟩ := scell (by omega)
                    have e5 : wr.cell? ⟨sb, soff + old, none⟩ = some (.int .i64 (x : Nat)) := hE.cell (scells old _ (ints_get hx))
                    have q4 : (0 : Int) ≤ (old : Int) := by omega
                    have q5 : (old : Int) < (st.length : Int) := by omega
                    have q6 : (last : Int) ≤ (x : Int) := by omega
                    cases yd with
                    | true =>
                      have HS2 := Lib.hid (HS.out.oldDrop hmi hvi hx (by omega))
                      clear hmi hvi hx
                      go_wp2_with fail
                      go_roundw
                      case rel => exact ⟨i + 1, out, put ++ yp, last, old + 1, by go_num, rfl, rfl, by go_num, by omega, hO, HS2, hE⟩
                      case measure => simp [intOf]; omega
                    | false =>
                      have HS2 := Lib.hid (HS.out.oldKeep hmi hvi hx (by omega))
                      have hRd : RdS (wr.alloc (.cells #[.int .i64 0, .int .i64 ((x : Int) - (last : Int)), .string (put ++ yp), .int .i64 1, .int .i64 0, .string ⟨#[]⟩] 35)) 3 2 [.int .i64 0, .int .i64 ((x : Int) - (last : Int)), .string (put ++ yp), .int .i64 1, .int .i64 0, .string ⟨#[]⟩] (.slice (some ⟨wr.heap.size, 0, none⟩) 2 2) := RdS.lits wr [⟨0, (x : Int) - (last : Int), put ++ yp⟩, ⟨1, 0, ⟨#[]⟩⟩] (by simp [maxLen])
                      have hone : ∀ u ∈ ([.int .i64 0, .int .i64 ((x : Int) - (last : Int)), .string (put ++ yp), .int .i64 1, .int .i64 0, .string ⟨#[]⟩] : List Value), u.oneCell' = true := vals_one' [⟨0, (x : Int) - (last : Int), put ++ yp⟩, ⟨1, 0, ⟨#[]⟩⟩]
                      have HRD := Lib.hid hRd
                      have HON := Lib.hid hone
                      have HOO := Lib.hid (owns_ext ((Ext.refl wr).alloc (.cells #[.int .i64 0, .int .i64 ((x : Int) - (last : Int)), .string (put ++ yp), .int .i64 1, .int .i64 0, .string ⟨#[]⟩] 35)) hO)
                      have HSZ := Lib.hid (Nat.le_trans hE.size ((Ext.refl wr).alloc (.cells #[.int .i64 0, .int .i64 ((x : Int) - (last : Int)), .string (put ++ yp), .int .i64 1, .int .i64 0, .string ⟨#[]⟩] 35)).size)
                      obtain ⟨nA, nC, rfl, -⟩ := RdS.of_owns hO
                      clear hmi hvi hx hRd hone hO
                      go_wp2_with (at_builtin; refine wpList_append_rd rfl rfl T24 (v := _) (by rfl) HOO.out (by rfl) HRD.out HON.out (by omega) (by simp only [maxLen]; omega) HSZ.out ?_)
                      intro v20 w20 O20 hg20 hat20
                      have E20 : Ext wo w20 := Fr.ext (hE.alloc _) (Fr.grown hg20) (fun k hk => owns_base HOO.out k hk)
                      have O21 : w20.ownsRow wo.heap.size 35 3 v20 (out ++ ([⟨0, (x : Int) - (last : Int), put ++ yp⟩, ⟨1, 0, ⟨#[]⟩⟩] : List Pc)).length (pcVals (out ++ ([⟨0, (x : Int) - (last : Int), put ++ yp⟩, ⟨1, 0, ⟨#[]⟩⟩] : List Pc))) := by rw [pcVals_append, List.length_append]; exact O20
                      have HO21 := Lib.hid O21
                      clear O20 O21 hg20 hat20
                      go_wp2_with fail
                      go_roundw
                      case rel => exact ⟨i + 1, out ++ ([⟨0, (x : Int) - (last : Int), put ++ yp⟩, ⟨1, 0, ⟨#[]⟩⟩] : List Pc), ⟨#[]⟩, x + 1, old + 1, by go_num, by go_num, rfl, by go_num, by omega, HO21.out, HS2, E20⟩
                      case measure => simp [intOf]; omega
                  | false =>
                    cases yd with
                    | true =>
                      have HS2 := Lib.hid (HS.out.newDrop hmi hvi (by omega))
                      clear hmi hvi
                      go_wp2_with fail
                      go_roundw
                      case rel => exact ⟨i + 1, out, put ++ yp, last, old, rfl, rfl, rfl, by go_num, by omega, hO, HS2, hE⟩
                      case measure => simp [intOf]; omega
                    | false =>
                      have HS2 := Lib.hid (HS.out.newKeep hmi hvi (by omega))
                      have hcv := byte_string wr mc
                      clear hmi hvi
                      go_wp2_with fail
                      go_roundw
                      case rel => exact ⟨i + 1, out, put ++ yp ++ ⟨#[mc]⟩, last, old, rfl, rfl, rfl, by go_num, by omega, owns_ext ((Ext.refl wr).alloc _) hO, HS2, hE.alloc _⟩
                      case measure => simp [intOf]; omega
                · have hd := HS.out.done (by rw [HL.out]; exact hlt)
                  have z1 := HS.out.nn
                  dsimp only at hd z1
                  have hF : (coX a b).l = normL out := by rw [HDM.out, hd]
                  have okp : ∀ q ∈ out, okStr q.put := RdP.okp9 z1 (by omega)
                  have hn := normR_any out _ wr (RdP.of_owns hO okp) z1 (by omega) (by omega)
                  have EE := E13.trans hE
                  have okn : ∀ q ∈ normL out, okStr q.put := RdP.okp9 (normL_nn z1) (by have := normL_wt z1; omega)
                  obtain ⟨nA, nC, rfl, -⟩ := RdS.of_owns hO
                  obtain ⟨LX, hLX⟩ : ∃ l, normL out = l := ⟨_, rfl⟩
                  rw [hLX] at hn hF okn
                  have HF := Lib.hid hF
                  have HNN := Lib.hid okn
                  clear hLX hF okn okp hd z1 hO y0 y1 HS HDM HOK
                  go_wp2_with fail
                  refine hn.mono ?_
                  clear hn
                  rintro e w20 ⟨v20, rfl, O20, E20⟩
                  have R20 := RdP.of_owns O20 HNN.out
                  obtain ⟨tx, htx⟩ : ∃ t, pcsRight LX = t := ⟨_, rfl⟩
                  have eE : coE a b = if tx then 0 else 3 := by unfold coE; rw [HA.out, HB.out, HF.out, htx]; rfl
                  have hcx := rightR_any LX _ w20 R20
                  rw [htx] at hcx
                  obtain ⟨AX, cX, rfl, -⟩ := id R20
                  have EE2 := EE.trans E20
                  clear O20 htx EE E20
                  go_wp2_with fail
                  refine hcx.mono ?_
                  clear hcx
                  rintro e w21 ⟨_, rfl, rfl, E21⟩
                  cases tx with
                  | false =>
                    have eE' : coE a b = 3 := eE
                    have HE := Lib.hid eE'
                    clear eE eE'
                    go_wp2_with fail
                    go_ret2
                    rw [show coL a b = [] by unfold coL; rw [HE.out]; rfl, HE.out]
                    exact ⟨_, rfl, RdP.nil _, EE2.trans E21⟩
                  | true =>
                    have eE' : coE a b = 0 := eE
                    have HE := Lib.hid eE'
                    clear eE eE'
                    go_wp2_with fail
                    go_ret2
                    rw [show coL a b = LX by unfold coL; rw [HE.out, HF.out]; rfl, HE.out]
                    exact ⟨_, rfl, R20.ext E21, EE2.trans E21⟩
            · have t1 : decide ((i : Int) ≤ (M : Int)) = true := decide_eq_true (by omega)
              obtain ⟨dv, hdv⟩ : ∃ d, DA[i]? = some d := ⟨_, List.getElem?_eq_getElem (by rw [f2]; omega)⟩
              have cd : wr.cell? ⟨g2, i, none⟩ = some (.bool dv) := by rw [(G2'.ext hE13).cell]; exact boolV_get hdv
              have cp' := hE13.cell (pcell' i (by omega))
              have q1 : (0 : Int) ≤ (i : Int) := by omega
              have q2 : (i : Int) < (M : Int) + 1 := by omega
              have hgd : DA.getD i false = dv := by rw [List.getD_eq_getElem?_getD, hdv]; rfl
              have hst := stayL_succ DA i
              rw [hgd] at hst
              have HST := Lib.hid hst
              clear hst hgd hdv
              cases dv with
              | true =>
                go_wp2_with fail
                go_roundw
                case rel => exact ⟨i + 1, by go_num, by omega, by rw [HST.out, if_pos rfl]; exact O13, hE13⟩
                case measure => simp [intOf]; omega
              | false =>
                have hsl : (stayL DA i).length ≤ i := by
                  have := List.length_filter_le (fun j => !(DA.getD j false)) (List.range i)
                  rw [List.length_range] at this
                  exact this
                have HRD : Hid (RdS (wr.alloc (.cells #[.int .i64 i] 3)) 1 1 (ints [i]) (.slice (some ⟨wr.heap.size, 0, none⟩) 1 1)) := Lib.hid (RdS.one (cs := #[.int .i64 i]) rfl)
                have HON := Lib.hid (ints_one [i])
                have HOO := Lib.hid (owns_ext ((Ext.refl wr).alloc (.cells #[.int .i64 i] 3)) O13)
                have HSZ := Lib.hid (Nat.le_trans hE13.size ((Ext.refl wr).alloc (.cells #[.int .i64 i] 3)).size)
                obtain ⟨nA, nC, rfl, -⟩ := RdS.of_owns O13
                clear O13
                go_wp2_with (at_builtin; refine wpList_append_rd rfl rfl T22 (v := _) (by rfl) HOO.out (by rfl) HRD.out HON.out (by omega) (by simp only [maxLen]; omega) HSZ.out ?_)
                intro v14 w14 O14 hg14 hat14
                have E14 : Ext w11 w14 := Fr.ext (hE13.alloc _) (Fr.grown hg14) (fun k hk => owns_base HOO.out k hk)
                go_wp2_with fail
                go_roundw
                case rel => exact ⟨i + 1, by go_num, by omega, by rw [HST.out, if_neg (by decide), List.length_append, show ints (stayL DA i ++ [i]) = ints (stayL DA i) ++ ints [i] by simp [ints]]; exact O14, E14⟩
                case measure => simp [intOf]; omega
        · have t1 : decide ((i : Int) ≤ (na : Int) + (nb : Int)) = true := decide_eq_true (by omega)
          have eo : olds (i + 1) = olds i ++ [(true, 0)] := List.replicate_succ'
          have er : List.range (i + 1) = List.range i ++ [i] := List.range_succ
          have l7 : (olds i).length = i := List.length_replicate
          have l8 : (List.range i).length = i := List.length_range
          have HRD : Hid (RdS (wr.alloc (.cells #[.bool true, .int .u8 0] 89)) 2 1 (itVals [(true, 0)]) (.slice (some ⟨wr.heap.size, 0, none⟩) 1 1)) := Lib.hid (RdS.one (cs := #[.bool true, .int .u8 0]) rfl)
          have HON := Lib.hid (itVals_one [(true, 0)])
          rw [l7] at O7
          rw [l8] at O8
          have HO7 := Lib.hid (owns_ext ((Ext.refl wr).alloc (.cells #[.bool true, .int .u8 0] 89)) O7)
          have HSZ := Lib.hid (Nat.le_trans hE.size ((Ext.refl wr).alloc (.cells #[.bool true, .int .u8 0] 89)).size)
          have hap := owns_apartX O8 O7 (by decide)
          have HAP := Lib.hid hap
          have HO8 := Lib.hid (owns_ext ((Ext.refl wr).alloc (.cells #[.bool true, .int .u8 0] 89)) O8)
          clear hap
          obtain ⟨lA, lC, rfl, -⟩ := RdS.of_owns O7
          obtain ⟨mA, mC, rfl, -⟩ := RdS.of_owns O8
          clear O7 O8 l7 l8
          go_wp2_with (at_builtin; refine wpList_append_rd rfl rfl T87 (v := _) (by rfl) HO7.out (by rfl) HRD.out HON.out (by omega) (by simp only [maxLen]; omega) HSZ.out ?_)
          intro v7 w7 O7 hg7 hat7
          have F7 := Fr.grown hg7
          have O8' := owns_fr F7 HO8.out (fun g hg h0 => HAP.out g hg h0)
          have E7 : Ext w6 w7 := Fr.ext (hE.alloc _) F7 (fun k hk => owns_base HO7.out k hk)
          have HRD2 : Hid (RdS (w7.alloc (.cells #[.int .i64 i] 3)) 1 1 (ints [i]) (.slice (some ⟨w7.heap.size, 0, none⟩) 1 1)) := Lib.hid (RdS.one (cs := #[.int .i64 i]) rfl)
          have HON2 := Lib.hid (ints_one [i])
          have HOO2 := Lib.hid (owns_ext ((Ext.refl w7).alloc (.cells #[.int .i64 i] 3)) O8')
          have HSZ2 := Lib.hid (Nat.le_trans E7.size ((Ext.refl w7).alloc (.cells #[.int .i64 i] 3)).size)
          have HO9 := Lib.hid O7
          have HAP2 := Lib.hid (owns_apartX O7 O8' (by decide))
          obtain ⟨kA, kC, rfl, -⟩ := RdS.of_owns O7
          clear O7 hg7 hat7 F7 O8' HO7 HO8 HAP HRD HON HSZ
          go_wp2_with (at_builtin; refine wpList_append_rd rfl rfl T22 (v := _) (by rfl) HOO2.out (by rfl) HRD2.out HON2.out (by omega) (by simp only [maxLen]; omega) HSZ2.out ?_)
          intro v8 w8 O8 hg8 hat8
          have F8 := Fr.grown hg8
          have E8 : Ext w6 w8 := Fr.ext (E7.alloc _) F8 (fun k hk => owns_base HOO2.out k hk)
          have O9 := owns_fr F8 (owns_ext ((Ext.refl w7).alloc (.cells #[.int .i64 i] 3)) HO9.out) (fun g hg h0 => HAP2.out g hg h0)
          go_wp2_with fail
          go_roundw
          case rel => exact ⟨i + 1, by go_num, by omega, by rw [eo, List.length_append, itVals_append, show (olds i).length = i from List.length_replicate]; exact O9, by rw [er, List.length_append, List.length_range, show ints (List.range i ++ [i]) = ints (List.range i) ++ ints [i] by simp [ints]]; exact O8, E8⟩
          case measure => simp [intOf]; omega
end Go.Proofs.Ytkimbpeapolcbaa.Sy
