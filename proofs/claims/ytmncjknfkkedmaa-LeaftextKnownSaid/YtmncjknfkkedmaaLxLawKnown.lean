/- Chapter 05: the law LeaftextKnown. -/
import Derived.Test.YtmncjknfkkedmaaLxLawRight
import Derived.Test.YtmncjknfkkedmaaLxLawNorm
import Derived.Test.YtmncjknfkkedmaaLxLawApply
import Derived.Test.YtmncjknfkkedmaaLxLawInvert
import Derived.Test.YtmncjknfkkedmaaLxLawTransform
import Derived.Test.YtmncjknfkkedmaaLxLawSquare
import Derived.Test.YtmncjknfkkedmaaLxLawCompose
namespace Go.Proofs.Ytmncjknfkkedmaa.Lx
open Go.RowKit Go.Proofs.Ytmncjknfkkedmaa.Bw Go.Proofs.Ytmncjknfkkedmaa.Bs

theorem strs_get {W : World} {ss : List ByteArray} {i : Nat} {s : ByteArray} (h : ss[i]? = some s) : (W.alloc (.cells (ss.map Value.string).toArray 9)).cell? ⟨W.heap.size, i, none⟩ = some (.string s) := by
  rw [(NBox.new W 9 _).cell]
  simp [h]
theorem apBig (s : ByteArray) (h : s.size = 1048576) : apE ⟨#[]⟩ [⟨0, 0, s⟩] = 0 ∧ apE ⟨#[]⟩ [⟨0, 0, s⟩, ⟨0, 0, ⟨#[120]⟩⟩] = 2 := by
  have hx : (⟨#[120]⟩ : ByteArray).size = 1 := rfl
  constructor
  · unfold apE pcsRight pcsOk pcOk
    simp [h, pcsOk, extL]
  · unfold apE pcsRight pcsOk pcOk
    simp [h, hx, pcsOk, pcOk]
set_option maxRecDepth 100000 in
set_option maxHeartbeats 4000000 in
theorem lawKnown (w : World) : Calls Try.prog 10 #[] w (Ret w fun r _ => r = .bool true) := by
  have hf := few_any w
  obtain ⟨OB, hmk, hcv⟩ := big_string
  obtain ⟨OP, hmp, hrp⟩ := big_pieces 4096 (by omega)
  obtain ⟨OQ, hmq, hrq⟩ := big_pieces 4097 (by omega)
  have HMK := Lib.hid hmk
  have HCV := Lib.hid hcv
  have HMP := Lib.hid hmp
  have HRP := Lib.hid hrp
  have HMQ := Lib.hid hmq
  have HRQ := Lib.hid hrq
  clear hmk hcv hmp hrp hmq hrq
  go_enter Try.func10, Try.ntmps10
  go_wp2_with fail
  refine hf.mono ?_
  clear hf
  rintro e w1 ⟨A, us, rfl, HR, HU, E1⟩
  obtain ⟨A', c', ea, hul, _, _, hcell⟩ := HR
  obtain ⟨rfl, rfl⟩ : A = A' ∧ 19 = c' := by simpa using ea
  obtain ⟨gb, go, rfl, cells⟩ := hcell (by omega)
  have HC := Lib.hid cells
  have HUL := Lib.hid hul
  clear ea hcell cells hul
  go_wp2_with fail
  go_loopw [2] (fun s2 wr => ∃ i : Nat, s2 = .int .i64 i ∧ i ≤ 19 ∧ Ext w1 wr) (fun i _ => 19 - (intOf i).toNat)
  case atStart => exact ⟨0, rfl, by omega, Ext.refl _⟩
  case round =>
    obtain ⟨i, rfl, hi, hE⟩ := hrel
    obtain ⟨wo, rfl⟩ : ∃ wo : World, wo = wr := ⟨_, rfl⟩
    rcases Nat.lt_or_ge i 19 with hlt | hlt
    · obtain ⟨u, hu⟩ : ∃ u, us[i]? = some u := ⟨_, List.getElem?_eq_getElem (by rw [HUL.out]; omega)⟩
      obtain ⟨l, hl⟩ := HU.out u (List.mem_of_getElem? hu)
      obtain ⟨lA, lC, rfl, -⟩ := id hl
      have cu := HC.out i _ hu
      have ci := hE.cell cu
      have q1 : (0 : Int) ≤ (i : Int) := by omega
      have q2 : (i : Int) < 19 := by omega
      have h3 := lawRight l _ wo (hl.ext hE)
      clear hu
      go_wp2_with fail
      refine h3.mono ?_
      clear h3
      rintro e w2 ⟨_, rfl, rfl, E2⟩
      have E2' := hE.trans E2
      have c2 := E2'.cell cu
      have h4 := lawNorm l _ w2 (hl.ext E2')
      clear ci hE E2
      go_wp2_with fail
      refine h4.mono ?_
      clear h4
      rintro e w3 ⟨_, rfl, rfl, E3⟩
      have E3' := E2'.trans E3
      clear c2 E2' E3
      go_wp2_with fail
      obtain ⟨w4, hw4⟩ : ∃ W, w3.alloc (.cells #[.string ⟨#[]⟩, .string ⟨#[97, 98, 99, 100]⟩, .string ⟨#[97, 98, 99, 100, 101]⟩, .string ⟨#[97]⟩] 9) = W := ⟨_, rfl⟩
      have E4' : Ext w1 w4 := by rw [← hw4]; exact E3'.alloc _
      have BS : NBox w4 w3.heap.size 9 #[.string ⟨#[]⟩, .string ⟨#[97, 98, 99, 100]⟩, .string ⟨#[97, 98, 99, 100, 101]⟩, .string ⟨#[97]⟩] := by rw [← hw4]; exact NBox.new _ _ _
      obtain ⟨X, hX⟩ : ∃ X, w3.heap.size = X := ⟨_, rfl⟩
      rw [hw4, hX]
      rw [hX] at BS
      clear hw4 hX
      go_loopw [34] (fun s34 wr => ∃ k : Nat, s34 = .int .i64 k ∧ k ≤ 4 ∧ Ext w4 wr) (fun k _ => 4 - (intOf k).toNat)
      case atStart => exact ⟨0, rfl, by omega, Ext.refl _⟩
      case round =>
        obtain ⟨k, rfl, hk, hE4⟩ := hrel
        have E5 := E4'.trans hE4
        have BS5 := BS.ext hE4
        have c2 := E5.cell cu
        rcases Nat.lt_or_ge k 4 with hkl | hkl
        · obtain ⟨t, htl, cs⟩ : ∃ t : ByteArray, t.size ≤ 100 ∧ wr.cell? ⟨X, k, none⟩ = some (.string t) := by
            have := BS5.cell k
            rcases (show k = 0 ∨ k = 1 ∨ k = 2 ∨ k = 3 by omega) with rfl | rfl | rfl | rfl <;> exact ⟨_, by decide, this⟩
          have q3 : (0 : Int) ≤ (k : Int) := by omega
          have q4 : (k : Int) < 4 := by omega
          have h5 := lawApply t l _ wr (by unfold maxLen; omega) (hl.ext E5)
          go_wp2_with fail
          refine h5.mono ?_
          clear h5
          rintro e w5 ⟨_, rfl, rfl, E56⟩
          have E6 := hE4.trans E56
          have E7 := E5.trans E56
          have c3 := E7.cell cu
          have h5 := lawInvert t l _ w5 (by unfold maxLen; omega) (hl.ext E7)
          clear c2 cs E56 hE4 E5
          go_wp2_with fail
          refine h5.mono ?_
          clear h5
          rintro e w6 ⟨_, rfl, rfl, E67⟩
          have E8 := E6.trans E67
          clear c3 E6 E7 E67
          go_wp2_with fail
          go_roundw
          case rel => exact ⟨k + 1, by go_num, by omega, E8⟩
          case measure => simp [intOf]; omega
        · obtain ⟨w5, rfl⟩ : ∃ w5 : World, w5 = wr := ⟨_, rfl⟩
          clear c2 BS BS5 E4' hE4
          go_wp2_with fail
          go_loopw [5] (fun s5 wr => ∃ j : Nat, s5 = .int .i64 j ∧ j ≤ 19 ∧ Ext w5 wr) (fun j _ => 19 - (intOf j).toNat)
          case atStart => exact ⟨0, rfl, by omega, Ext.refl _⟩
          case round =>
            obtain ⟨j, rfl, hj, hE5⟩ := hrel
            have E6 := E5.trans hE5
            rcases Nat.lt_or_ge j 19 with hjl | hjl
            · obtain ⟨u, hu⟩ : ∃ u, us[j]? = some u := ⟨_, List.getElem?_eq_getElem (by rw [HUL.out]; omega)⟩
              obtain ⟨m, hm⟩ := HU.out u (List.mem_of_getElem? hu)
              obtain ⟨mA, mC, rfl, -⟩ := id hm
              have ck := HC.out j _ hu
              have ci := E6.cell cu
              replace ck := E6.cell ck
              have q3 : (0 : Int) ≤ (j : Int) := by omega
              have q4 : (j : Int) < 19 := by omega
              have K6 : ∀ prior W, Ext wr W → Calls Try.prog 6 #[.slice lA l.length lC, .slice mA m.length mC, .bool prior] W (Ret W fun r _ => r = .bool true) := fun prior W h => lawTransform l m prior _ _ W (hl.ext (E6.trans h)) (hm.ext (E6.trans h))
              have K7 : ∀ (t : ByteArray) prior W, t.size ≤ maxLen → Ext wr W → Calls Try.prog 7 #[.string t, .slice lA l.length lC, .slice mA m.length mC, .bool prior] W (Ret W fun r _ => r = .bool true) := fun t prior W ht h => lawSquare t l m prior _ _ W ht (hl.ext (E6.trans h)) (hm.ext (E6.trans h))
              have K9 : ∀ (t : ByteArray) W, t.size ≤ maxLen → Ext wr W → Calls Try.prog 9 #[.string t, .slice lA l.length lC, .slice mA m.length mC] W (Ret W fun r _ => r = .bool true) := fun t W ht h => lawCompose t l m _ _ W ht (hl.ext (E6.trans h)) (hm.ext (E6.trans h))
              clear hu
              go_upto_region 16 with fail
              go_region_held3 (fun W => Ext wr W ∧ W.cell? ⟨gb, go + i, none⟩ = some (.slice lA l.length lC) ∧ W.cell? ⟨gb, go + j, none⟩ = some (.slice mA m.length mC)) (first | exact ⟨(Ext.refl wr).drew, ci, ck⟩ | exact ⟨EE, EE.cell ci, EE.cell ck⟩) ((first | (go_at_call 6; have hh := ‹Ext wr _ ∧ _›; refine (K6 _ _ hh.1).mono ?_; rintro e u ⟨_, rfl, rfl, hEY⟩; have EE := Ext.trans hh.1 hEY) | (go_at_call 7; have hh := ‹Ext wr _ ∧ _›; refine (K7 _ _ _ (by unfold maxLen; decide) hh.1).mono ?_; rintro e u ⟨_, rfl, rfl, hEY⟩; have EE := Ext.trans hh.1 hEY) | (go_at_call 9; have hh := ‹Ext wr _ ∧ _›; refine (K9 _ _ (by unfold maxLen; decide) hh.1).mono ?_; rintro e u ⟨_, rfl, rfl, hEY⟩; have EE := Ext.trans hh.1 hEY)))
              go_wp2_with fail
              go_roundw
              case rel => exact ⟨j + 1, by go_num, by omega, hE5.trans EE⟩
              case measure => simp [intOf]; omega
            · go_wp2_with fail
              go_roundw
              case rel => exact ⟨i + 1, by go_num, by omega, E6⟩
              case measure => simp [intOf]; omega
    · have hi4 : i = 19 := by omega
      subst hi4
      have E2 := E1.trans hE
      have hmk := HMK.out wo
      obtain ⟨s, hsz, hcv⟩ := HCV.out wo
      obtain ⟨p1, p2⟩ := apBig s hsz
      have hsm : s.size ≤ maxLen := by rw [hsz]; unfold maxLen; decide
      have HP2 := Lib.hid p2
      have HSM := Lib.hid hsm
      clear HMK HCV hsz p2 hsm hE E1
      go_wp2_with (first | rw [hmk] | rw [hcv])
      clear hmk hcv
      obtain ⟨w2, hw2⟩ : ∃ W, wo.alloc OB = W := ⟨_, rfl⟩
      have E3 : Ext w w2 := by rw [← hw2]; exact E2.alloc _
      have hs2 : wo.heap.size + 1 = w2.heap.size := by rw [← hw2, World.size_alloc]
      rw [hw2, hs2]
      clear hw2 hs2 E2
      have r1 : RdP (w2.alloc (.cells #[.int .i64 0, .int .i64 0, .string s] 29)) [⟨0, 0, s⟩] (.slice (some ⟨w2.heap.size, 0, none⟩) 1 1) := rdp_lit w2 [⟨0, 0, s⟩] (show 1 ≤ maxLen by unfold maxLen; omega) (by intro p hp; rw [List.mem_singleton.1 hp]; exact HSM.out)
      have hc := apply_any (⟨#[]⟩ : ByteArray) [⟨0, 0, s⟩] _ _ r1 (by decide)
      rw [p1] at hc
      obtain ⟨z, hz⟩ : ∃ z, apS ⟨#[]⟩ [⟨0, 0, s⟩] = z := ⟨_, rfl⟩
      rw [hz] at hc
      replace E3 := E3.alloc (.cells #[.int .i64 0, .int .i64 0, .string s] 29)
      clear hz r1 p1
      refine hc.mono ?_
      clear hc
      rintro e w3 ⟨_, rfl, rfl, E34⟩
      have E4 := E3.trans E34
      have r1 : RdP (w3.alloc (.cells #[.int .i64 0, .int .i64 0, .string s, .int .i64 0, .int .i64 0, .string ⟨#[120]⟩] 29)) [⟨0, 0, s⟩, ⟨0, 0, ⟨#[120]⟩⟩] (.slice (some ⟨w3.heap.size, 0, none⟩) 2 2) := rdp_lit w3 [⟨0, 0, s⟩, ⟨0, 0, ⟨#[120]⟩⟩] (show 2 ≤ maxLen by unfold maxLen; omega) (by
        intro p hp
        simp only [List.mem_cons, List.not_mem_nil, or_false] at hp
        rcases hp with rfl | rfl
        · exact HSM.out
        · unfold okStr maxLen; decide)
      have hc := apply_any (⟨#[]⟩ : ByteArray) [⟨0, 0, s⟩, ⟨0, 0, ⟨#[120]⟩⟩] _ _ r1 (by decide)
      rw [HP2.out] at hc
      obtain ⟨z2, hz⟩ : ∃ z, apS ⟨#[]⟩ [⟨0, 0, s⟩, ⟨0, 0, ⟨#[120]⟩⟩] = z := ⟨_, rfl⟩
      rw [hz] at hc
      replace E4 := E4.alloc (.cells #[.int .i64 0, .int .i64 0, .string s, .int .i64 0, .int .i64 0, .string ⟨#[120]⟩] 29)
      clear hz r1 E3 E34 HP2
      go_wp2_with fail
      refine hc.mono ?_
      clear hc
      rintro e w4 ⟨_, rfl, rfl, E45⟩
      have E5 := E4.trans E45
      have hmp := HMP.out w4
      obtain ⟨lp, hlp⟩ := HRP.out w4
      rw [show ((4096 : Nat) : Int) = 4096 from rfl] at hmp
      obtain ⟨w5, hw5⟩ : ∃ W, w4.alloc OP = W := ⟨_, rfl⟩
      rw [hw5] at hmp hlp
      have E6 : Ext w w5 := by rw [← hw5]; exact E5.alloc _
      obtain ⟨X, hX⟩ : ∃ X, w4.heap.size = X := ⟨_, rfl⟩
      rw [hX] at hmp hlp
      have h3 := lawRight lp _ w5 hlp
      clear hw5 hX HMP HRP E4 E45 E5 hlp
      go_wp2_with (rw [hmp])
      refine h3.mono ?_
      clear h3 hmp
      rintro e w6 ⟨_, rfl, rfl, E67⟩
      have E7 := E6.trans E67
      have hmp := HMQ.out w6
      obtain ⟨lq, hlp⟩ := HRQ.out w6
      rw [show ((4097 : Nat) : Int) = 4097 from rfl] at hmp
      obtain ⟨w7, hw5⟩ : ∃ W, w6.alloc OQ = W := ⟨_, rfl⟩
      rw [hw5] at hmp hlp
      have E8 : Ext w w7 := by rw [← hw5]; exact E7.alloc _
      obtain ⟨Y, hX⟩ : ∃ X, w6.heap.size = X := ⟨_, rfl⟩
      rw [hX] at hmp hlp
      have h3 := lawRight lq _ w7 hlp
      clear hw5 hX HMQ HRQ E6 E67 E7 hlp
      go_wp2_with (rw [hmp])
      refine h3.mono ?_
      clear h3 hmp
      rintro e w8 ⟨_, rfl, rfl, E89⟩
      have E9 := E8.trans E89
      have hk := works_any w8
      go_wp2_with fail
      refine hk.mono ?_
      clear hk
      rintro e w9 ⟨_, rfl, rfl, E910⟩
      go_wp2_with fail
      go_ret
      exact ⟨_, rfl, rfl, E9.trans E910⟩
end Go.Proofs.Ytmncjknfkkedmaa.Lx
