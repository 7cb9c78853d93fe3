/- Chapter 17: the law WirePaths. -/
import Derived.Test.YtoplaokimahdiaaWiDocP
import Derived.Test.YtoplaokimahdiaaWiSame
import Derived.Test.YtoplaokimahdiaaWiRNum2
namespace Go.Proofs.Ytoplaokimahdiaa.Wi
open Go.RowKit Go.Proofs.Ytoplaokimahdiaa.Bw Go.Proofs.Ytoplaokimahdiaa.Bs

theorem str_same (s : ByteArray) : (s.toList == s.toList) = true := by simp
set_option maxRecDepth 100000 in
set_option maxHeartbeats 4000000 in
theorem lawPaths (p : List Int) (b : List UInt8) (pv bv : Value) (w : World) (hp : RdI w p pv) (hb : RdS w 1 b.length (u8s b) bv) : Calls Try.prog 6 #[pv, bv] w (Ret w fun r _ => r = .bool true) := by
  have HP := Lib.hid hp
  have HB := Lib.hid hb
  have hpm := RdS.len_le hp
  have hbm := RdS.len_le hb
  unfold maxLen at hpm hbm
  have HWK := Lib.hid works_any
  obtain ⟨pA, pc, rfl, -⟩ := hp
  obtain ⟨bA, bc, rfl, -⟩ := hb
  by_cases h1 : p.length ≤ 500
  case neg =>
    have t1 : decide (500 < p.length) = true := decide_eq_true (by omega)
    go_enter Try.func6, Try.ntmps6
    go_wp2_with fail
    refine (HWK.out _).mono ?_
    clear HWK
    rintro e wf ⟨rfl, hXf⟩
    go_wp2_with fail
    go_ret
    exact ⟨_, rfl, rfl, hXf⟩
  have t1 : decide (500 < p.length) = false := decide_eq_false (by omega)
  by_cases h2 : b.length ≤ 2000
  case neg =>
    have t2 : decide (2000 < b.length) = true := decide_eq_true (by omega)
    go_enter Try.func6, Try.ntmps6
    go_wp2_with fail
    refine (HWK.out _).mono ?_
    clear HWK
    rintro e wf ⟨rfl, hXf⟩
    go_wp2_with fail
    go_ret
    exact ⟨_, rfl, rfl, hXf⟩
  have t2 : decide (2000 < b.length) = false := decide_eq_false (by omega)
  have hown : w.ownsRow w.heap.size 3 1 (.slice none 0 0) 0 [] := ⟨rfl, .inl ⟨rfl, rfl⟩⟩
  go_enter Try.func6, Try.ntmps6
  go_wp2_with (first | (at_builtin; refine wpList_append_rd rfl rfl T33 (v := _) (by rfl) hown (by rfl) HP.out (ints_one' _) (by omega) (by simp only [maxLen]; omega) (Nat.le_refl _) ?_; intro v3 w3 hown3 hg3 hat3))
  rw [Nat.zero_add, List.nil_append] at hown3
  have hO : RdI w3 p v3 := RdS.of_owns hown3
  have hX3 : Ext w w3 := Ext.grown (Ext.refl w) hg3 (owns_base hown)
  have HO := Lib.hid hO
  have HX3 := Lib.hid hX3
  have hc := putPath_any p v3 w3 hO
  obtain ⟨oA, oc, rfl, -⟩ := hO
  clear hown hown3 hg3 hat3 hX3
  go_wp2_with fail
  refine hc.mono ?_
  clear hc
  rintro e w4 ⟨hX4, v4, rfl, hO4⟩
  have HX4 := Lib.hid (HX3.out.trans hX4)
  have HO2 := Lib.hid (RdS.ext hX4 HO.out)
  have HO4 := Lib.hid hO4
  clear HO
  obtain ⟨xA, xc, rfl, -⟩ := RdS.of_owns hO4
  have hmay := mayR_any p _ w4 (RdS.ext HX4.out HP.out)
  obtain ⟨my, hmy⟩ : ∃ m, mayP p = m := ⟨_, rfl⟩
  rw [hmy] at hmay
  have HMY := Lib.hid hmy
  clear hX4 hO4 HX3 hmy
  go_wp2_with fail
  refine hmay.mono ?_
  clear hmay
  rintro e wu ⟨rfl, rfl⟩
  cases my with
  | true =>
    have hc := pathR_any p _ w4 (RdS.ext HX4.out HP.out) HMY.out
    have hpe : pathE p = some (pathB p) := by rw [pathE_eq, HMY.out]; rfl
    have HPE := Lib.hid hpe
    clear hpe
    go_wp2_with fail
    refine hc.mono ?_
    clear hc
    rintro e w5 ⟨hX5, v5, rfl, hO5⟩
    have HWV := Lib.hid (show RdS w5 1 (bytesOf (pathE p)).length (u8s (bytesOf (pathE p))) v5 from by rw [HPE.out]; exact RdS.of_owns hO5)
    have HXV := Lib.hid (show RdS w5 1 (bytesOf (pathE p)).length (u8s (bytesOf (pathE p))) (.slice xA (bytesOf (pathE p)).length xc) from RdS.of_owns (owns_ext hX5 HO4.out))
    have HX5 := Lib.hid (HX4.out.trans hX5)
    have HO5 := Lib.hid (RdS.ext hX5 HO2.out)
    obtain ⟨gA, gc, rfl, -⟩ := HWV.out
    clear hX5 hO5 HO4 HX4 HO2 HPE HMY
    obtain ⟨PB, hPB⟩ : ∃ q, bytesOf (pathE p) = q := ⟨_, rfl⟩
    rw [hPB] at HWV HXV ⊢
    clear hPB
    have hc := getPath_any b _ w5 (RdS.ext HX5.out HB.out)
    have hdd := Lib.hid (fun w6 (h : Ext w5 w6) => getPathR_any b _ w6 (RdS.ext (HX5.out.trans h) HB.out) (by omega))
    obtain ⟨o, ho⟩ : ∃ o, whole (pathP b) = o := ⟨_, rfl⟩
    rw [ho] at hc hdd
    clear ho
    go_wp2_with fail
    refine hc.mono ?_
    clear hc
    rintro e w6 ⟨hX6, hP⟩
    have hc := hdd.out w6 hX6
    clear hdd
    cases o with
    | none =>
      subst hP
      go_wp2_with fail
      refine hc.mono ?_
      clear hc
      rintro e w7 ⟨hX7, rfl⟩
      have kc1 := conv_rd (RdS.ext (hX6.trans hX7) HXV.out)
      have kc2 := conv_rd (RdS.ext (hX6.trans hX7) HWV.out)
      have hX57 : Ext w w7 := HX5.out.trans (hX6.trans hX7)
      have hs1 := samePath_any p p _ _ w7 (RdS.ext (hX6.trans hX7) HO5.out) (RdS.ext hX57 HP.out)
      rw [show decide (p = p) = true from decide_eq_true rfl] at hs1
      have HX7 := Lib.hid hX57
      clear hX6 hX7 hX57
      obtain ⟨sx, hsx⟩ : ∃ s, Sb PB = s := ⟨_, rfl⟩
      rw [hsx] at kc1 kc2
      have hts := str_same sx
      clear hsx
      go_wp2_with fail
      refine hs1.mono ?_
      clear hs1 kc1 kc2
      rintro e w8 ⟨_, rfl, rfl, hX8⟩
      have hs2 := samePath_any [] [] _ _ w8 (RdS.nil_ _ _) (RdS.nil_ _ _)
      rw [show decide (([] : List Int) = []) = true from decide_eq_true rfl] at hs2
      have HX8 := Lib.hid (HX7.out.trans hX8)
      clear hX8
      go_wp2_with fail
      refine hs2.mono ?_
      clear hs2
      rintro e w9 ⟨_, rfl, rfl, hX9⟩
      have HX9 := Lib.hid (HX8.out.trans hX9)
      clear hX9
      go_wp2_with fail
      refine (HWK.out _).mono ?_
      clear HWK
      rintro e wf ⟨rfl, hXf⟩
      go_wp2_with fail
      go_ret
      exact ⟨_, rfl, rfl, HX9.out.trans hXf⟩
    | some x =>
      obtain ⟨qv, rfl, hv⟩ := hP
      obtain ⟨qA0, qc0, rfl, -⟩ := RdS.of_owns hv
      go_wp2_with fail
      refine hc.mono ?_
      clear hc
      rintro e w7 ⟨hX7, rv, rfl, hv2⟩
      obtain ⟨rA0, rc0, rfl, -⟩ := RdS.of_owns hv2
      have kc1 := conv_rd (RdS.ext (hX6.trans hX7) HXV.out)
      have kc2 := conv_rd (RdS.ext (hX6.trans hX7) HWV.out)
      have hX57 : Ext w w7 := HX5.out.trans (hX6.trans hX7)
      have hs1 := samePath_any p p _ _ w7 (RdS.ext (hX6.trans hX7) HO5.out) (RdS.ext hX57 HP.out)
      rw [show decide (p = p) = true from decide_eq_true rfl] at hs1
      have HQ := Lib.hid (show RdI w7 x _ from RdS.of_owns (owns_ext hX7 hv))
      have HR := Lib.hid (show RdI w7 x _ from RdS.of_owns hv2)
      clear hv hv2
      have HX7 := Lib.hid hX57
      clear hX6 hX7 hX57
      obtain ⟨sx, hsx⟩ : ∃ s, Sb PB = s := ⟨_, rfl⟩
      rw [hsx] at kc1 kc2
      have hts := str_same sx
      clear hsx
      go_wp2_with fail
      refine hs1.mono ?_
      clear hs1 kc1 kc2
      rintro e w8 ⟨_, rfl, rfl, hX8⟩
      have hs2 := samePath_any x x _ _ w8 (RdS.ext hX8 HQ.out) (RdS.ext hX8 HR.out)
      rw [show decide (x = x) = true from decide_eq_true rfl] at hs2
      have HX8 := Lib.hid (HX7.out.trans hX8)
      clear hX8
      go_wp2_with fail
      refine hs2.mono ?_
      clear hs2
      rintro e w9 ⟨_, rfl, rfl, hX9⟩
      have HX9 := Lib.hid (HX8.out.trans hX9)
      clear hX9
      go_wp2_with fail
      refine (HWK.out _).mono ?_
      clear HWK
      rintro e wf ⟨rfl, hXf⟩
      go_wp2_with fail
      go_ret
      exact ⟨_, rfl, rfl, HX9.out.trans hXf⟩
  | false =>
    have hpe : pathE p = none := by rw [pathE_eq, HMY.out]; rfl
    rw [hpe, show bytesOf none = [] from rfl] at HO4 ⊢
    rw [show ([] : List UInt8).length = 0 from rfl]
    have HWV := Lib.hid (show RdS w4 1 ([] : List UInt8).length (u8s []) (.slice none 0 0) from RdS.nil_ _ _)
    have HXV := Lib.hid (show RdS w4 1 ([] : List UInt8).length (u8s []) (.slice xA 0 xc) from RdS.of_owns HO4.out)
    have HX5 := HX4
    have HO5 := HO2
    clear HO4 HX4 HO2 HMY hpe


    have hc := getPath_any b _ w4 (RdS.ext HX5.out HB.out)
    have hdd := Lib.hid (fun w6 (h : Ext w4 w6) => getPathR_any b _ w6 (RdS.ext (HX5.out.trans h) HB.out) (by omega))
    obtain ⟨o, ho⟩ : ∃ o, whole (pathP b) = o := ⟨_, rfl⟩
    rw [ho] at hc hdd
    clear ho
    go_wp2_with fail
    refine hc.mono ?_
    clear hc
    rintro e w6 ⟨hX6, hP⟩
    have hc := hdd.out w6 hX6
    clear hdd
    cases o with
    | none =>
      subst hP
      go_wp2_with fail
      refine hc.mono ?_
      clear hc
      rintro e w7 ⟨hX7, rfl⟩
      have kc1 := conv_rd (RdS.ext (hX6.trans hX7) HXV.out)
      have kc2 := conv_rd (RdS.ext (hX6.trans hX7) HWV.out)
      have hX57 : Ext w w7 := HX5.out.trans (hX6.trans hX7)
      have hs1 := samePath_any p p _ _ w7 (RdS.ext (hX6.trans hX7) HO5.out) (RdS.ext hX57 HP.out)
      rw [show decide (p = p) = true from decide_eq_true rfl] at hs1
      have HX7 := Lib.hid hX57
      clear hX6 hX7 hX57
      obtain ⟨sx, hsx⟩ : ∃ s, Sb [] = s := ⟨_, rfl⟩
      rw [hsx] at kc1 kc2
      have hts := str_same sx
      clear hsx
      go_wp2_with fail
      refine hs1.mono ?_
      clear hs1 kc1 kc2
      rintro e w8 ⟨_, rfl, rfl, hX8⟩
      have hs2 := samePath_any [] [] _ _ w8 (RdS.nil_ _ _) (RdS.nil_ _ _)
      rw [show decide (([] : List Int) = []) = true from decide_eq_true rfl] at hs2
      have HX8 := Lib.hid (HX7.out.trans hX8)
      clear hX8
      go_wp2_with fail
      refine hs2.mono ?_
      clear hs2
      rintro e w9 ⟨_, rfl, rfl, hX9⟩
      have HX9 := Lib.hid (HX8.out.trans hX9)
      clear hX9
      go_wp2_with fail
      refine (HWK.out _).mono ?_
      clear HWK
      rintro e wf ⟨rfl, hXf⟩
      go_wp2_with fail
      go_ret
      exact ⟨_, rfl, rfl, HX9.out.trans hXf⟩
    | some x =>
      obtain ⟨qv, rfl, hv⟩ := hP
      obtain ⟨qA0, qc0, rfl, -⟩ := RdS.of_owns hv
      go_wp2_with fail
      refine hc.mono ?_
      clear hc
      rintro e w7 ⟨hX7, rv, rfl, hv2⟩
      obtain ⟨rA0, rc0, rfl, -⟩ := RdS.of_owns hv2
      have kc1 := conv_rd (RdS.ext (hX6.trans hX7) HXV.out)
      have kc2 := conv_rd (RdS.ext (hX6.trans hX7) HWV.out)
      have hX57 : Ext w w7 := HX5.out.trans (hX6.trans hX7)
      have hs1 := samePath_any p p _ _ w7 (RdS.ext (hX6.trans hX7) HO5.out) (RdS.ext hX57 HP.out)
      rw [show decide (p = p) = true from decide_eq_true rfl] at hs1
      have HQ := Lib.hid (show RdI w7 x _ from RdS.of_owns (owns_ext hX7 hv))
      have HR := Lib.hid (show RdI w7 x _ from RdS.of_owns hv2)
      clear hv hv2
      have HX7 := Lib.hid hX57
      clear hX6 hX7 hX57
      obtain ⟨sx, hsx⟩ : ∃ s, Sb [] = s := ⟨_, rfl⟩
      rw [hsx] at kc1 kc2
      have hts := str_same sx
      clear hsx
      go_wp2_with fail
      refine hs1.mono ?_
      clear hs1 kc1 kc2
      rintro e w8 ⟨_, rfl, rfl, hX8⟩
      have hs2 := samePath_any x x _ _ w8 (RdS.ext hX8 HQ.out) (RdS.ext hX8 HR.out)
      rw [show decide (x = x) = true from decide_eq_true rfl] at hs2
      have HX8 := Lib.hid (HX7.out.trans hX8)
      clear hX8
      go_wp2_with fail
      refine hs2.mono ?_
      clear hs2
      rintro e w9 ⟨_, rfl, rfl, hX9⟩
      have HX9 := Lib.hid (HX8.out.trans hX9)
      clear hX9
      go_wp2_with fail
      refine (HWK.out _).mono ?_
      clear HWK
      rintro e wf ⟨rfl, hXf⟩
      go_wp2_with fail
      go_ret
      exact ⟨_, rfl, rfl, HX9.out.trans hXf⟩
end Go.Proofs.Ytoplaokimahdiaa.Wi
