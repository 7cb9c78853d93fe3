/- Chapter 17: the document's Node (29), walked. (Printed by gwrnd.py.) -/
import Derived.Test.YtoplaokimahdiaaWiROp
import Derived.Test.YtoplaokimahdiaaWiRowB
import Derived.Test.YtoplaokimahdiaaWiRNum
import Derived.WalkKit
namespace Go.Proofs.Ytoplaokimahdiaa.Wi
open Go.RowKit Go.Proofs.Ytoplaokimahdiaa.Bw Go.Proofs.Ytoplaokimahdiaa.Bs

mutual
theorem nodeE_is : ∀ (t : Nd) (d : Nat) (b : List UInt8), nodeE d t = some b → b = nodeB t
  | .mk id leaf lb ats tx ks, d, b, h => by
    cases hh : headOk d (.mk id leaf lb ats tx ks) with
    | false => rw [nodeE_head hh] at h; cases h
    | true =>
      rw [nodeE_body hh] at h
      cases leaf with
      | true => rw [if_pos rfl] at h; cases h; rfl
      | false =>
        rw [if_neg (by decide)] at h
        split at h
        next hl =>
          obtain ⟨u, h1, rfl⟩ := Option.map_eq_some_iff.1 h
          rw [kidsE_is ks (d + 1) u h1]
          unfold nodeB
          rw [if_neg (by decide)]
        next => cases h
theorem kidsE_is : ∀ (ks : List Nd) (d : Nat) (b : List UInt8), kidsE d ks = some b → b = kidsB ks
  | [], d, b, h => by unfold kidsE at h; cases h; rfl
  | k :: r, d, b, h => by
    unfold kidsE at h
    obtain ⟨a, c, h2, h3, rfl⟩ := seqE_two h
    rw [nodeE_is k d a h2, kidsE_is r d c h3]
    rfl
end
theorem kidsE_mem {d : Nat} : ∀ {ks : List Nd} {b : List UInt8}, kidsE d ks = some b → ∀ x ∈ ks, (nodeE d x).isSome = true
  | [], _, _, x, hx => by cases hx
  | k :: r, b, h, x, hx => by
    unfold kidsE at h
    obtain ⟨a, c, h2, h3, rfl⟩ := seqE_two h
    rcases List.mem_cons.1 hx with rfl | hx
    · rw [h2]; rfl
    · exact kidsE_mem h3 x hx
theorem node_parts {d : Nat} {id : Int} {leaf : Bool} {lb : ByteArray} {ats : List (ByteArray × ByteArray)} {tx : ByteArray} {ks : List Nd} (h : (nodeE d (.mk id leaf lb ats tx ks)).isSome = true) :
    lb.size ≤ 64 ∧ ats.length ≤ 2048 ∧ (leaf = true → tx.size ≤ 2048) ∧ (∀ a ∈ ats, a.1.size ≤ 64 ∧ a.2.size ≤ 256) ∧ (leaf = false → ks.length ≤ 512 ∧ ∀ x ∈ ks, (nodeE (d + 1) x).isSome = true) := by
  cases hh : headOk d (.mk id leaf lb ats tx ks) with
  | false => rw [nodeE_head hh] at h; cases h
  | true =>
    have hb := nodeE_body hh
    dsimp only [headOk] at hh
    simp only [Bool.and_eq_true, decide_eq_true_eq] at hh
    obtain ⟨⟨⟨⟨h1, h2⟩, h3⟩, h4⟩, h5, h6⟩ := hh
    refine ⟨h2, h3, fun hl => ?_, fun a ha => ?_, fun hl => ?_⟩
    · rw [hl, if_pos rfl] at h4
      simp only [Bool.and_eq_true, decide_eq_true_eq] at h4
      exact h4.2
    · have := List.all_eq_true.1 h6 a ha
      unfold attrOk at this
      simp only [Bool.and_eq_true, decide_eq_true_eq] at this
      exact this
    · rw [hl, if_neg (by decide)] at hb
      rw [hl, hb] at h
      split at h
      next hk =>
        refine ⟨hk, fun x hx => ?_⟩
        rcases hm : kidsE (d + 1) ks with _ | b
        · rw [hm] at h; cases h
        · exact kidsE_mem hm x hx
      next => cases h
theorem attrsB_at {l : List (ByteArray × ByteArray)} {i : Nat} {x : ByteArray × ByteArray} (h : l[i]? = some x) : attrsB (l.drop i) = attrB x ++ attrsB (l.drop (i + 1)) := by
  rw [drop_at h]; rfl
theorem kidsB_at {l : List Nd} {i : Nat} {x : Nd} (h : l[i]? = some x) : kidsB (l.drop i) = nodeB x ++ kidsB (l.drop (i + 1)) := by
  rw [drop_at h, kidsB]
theorem PutR.from {w w1 W : World} {o : Option (List UInt8)} {e : Ending} (X : Ext w w1) (h : PutR w1 o e W) : PutR w o e W := by
  obtain ⟨hX, v, he, hO⟩ := h
  exact ⟨X.trans hX, v, he, owns_le hO X.size⟩
def NodeBK (t : Nd) : Prop := ∀ (xv : Value) (d : Nat) (w : World), t.rd w xv → (nodeE d t).isSome = true → (nodeB t).length ≤ 400000000 → Calls Try.prog 29 #[xv] w (PutR w (some (nodeB t)))
set_option maxRecDepth 100000 in
set_option maxHeartbeats 4000000 in
theorem nodeB_step (t : Nd) (ih : ∀ x ∈ t.kids, NodeBK x) : NodeBK t := by
  obtain ⟨id, leaf, lb, ats, tx, ks⟩ := t
  intro xv d w hx hE hlen
  unfold Nd.rd at hx
  obtain ⟨av, A, cc, rfl, hid, hlb0, htx0, ⟨aA, ac, rfl, ha1, ha2, ha3⟩, hk1, hk2, hk3⟩ := hx
  obtain ⟨z, rfl⟩ : ∃ z : Nat, id = (z : Int) := ⟨id.toNat, by omega⟩
  obtain ⟨hlb, hal, htx, hat0, hks⟩ := node_parts hE
  unfold maxLen at ha2 hk2
  obtain ⟨w1, hw1⟩ : ∃ W, w.alloc (.cells #[.int .u64 (z : Int), .bool leaf, .string lb, .slice aA ats.length ac, .string tx, .slice A ks.length cc] 32) = W := ⟨_, rfl⟩
  obtain ⟨D, hDD⟩ : ∃ D, w.heap.size = D := ⟨_, rfl⟩
  have E1 : Ext w w1 := by rw [← hw1]; exact (Ext.refl w).alloc _
  have bD : NBox w1 D 32 #[.int .u64 (z : Int), .bool leaf, .string lb, .slice aA ats.length ac, .string tx, .slice A ks.length cc] := by rw [← hw1, ← hDD]; exact NBox.new _ _ _
  have HW := Lib.hid hw1
  have HD := Lib.hid hDD
  have HAX := Lib.hid ha3
  have HK3 := Lib.hid hk3
  have HE := Lib.hid E1
  have HAT := Lib.hid hat0
  have HKS := Lib.hid hks
  have HTX := Lib.hid htx
  have HIH := Lib.hid ih
  have hzz : z < 18446744073709551616 := by omega
  obtain ⟨TOT, hTOT⟩ : ∃ q, nodeB (Nd.mk (z : Int) leaf lb ats tx ks) = q := ⟨_, rfl⟩
  rw [hTOT] at hlen ⊢
  have HTOT := Lib.hid hTOT
  have d0 := bD.cell 0
  have hc := numberR_any z hzz w1
  have HBD := Lib.hid bD
  refine Calls.mono (R := PutR w1 (some TOT)) ?_ (fun e W h => PutR.from HE.out h)
  clear hw1 hDD ha3 hk3 hid hlb0 htx0 hat0 hks htx ih hTOT bD E1 hE
  go_enter Try.func29, Try.ntmps29
  go_upto_region 1 with fail
  rw [HW.out, HD.out]
  clear HW HD
  go_wp2_with fail
  refine hc.mono ?_
  clear hc d0
  rintro e w_1 hP
  obtain ⟨v1, rfl, hN⟩ := PutR.rd hP
  have hnl := num_len (n := z) (by omega)
  have HN1 := Lib.hid hN
  have HD1 := Lib.hid (HBD.out.ext hN.ext)
  obtain ⟨ac1, hac⟩ : ∃ l, num z = l := ⟨_, rfl⟩
  rw [hac] at HN1 hnl
  have la1 : ac1.length ≤ 10 := hnl
  have HA1 := Lib.hid hac
  clear hP hN HBD hac hnl
  have d1 := (HD1.out).cell 1
  have hc := flagR_any leaf w_1
  obtain ⟨fb, hfb⟩ : ∃ x : UInt8, (if leaf then 1 else 0) = x := ⟨_, rfl⟩
  rw [hfb] at hc
  have HFB := Lib.hid hfb
  clear hfb
  have hN := HN1.out.own
  obtain ⟨vA, vC, rfl, -⟩ := RdS.of_owns hN
  clear hN
  go_wp2_with fail
  refine hc.mono ?_
  clear hc d1
  rintro e u ⟨rfl, rfl⟩
  have HX2 := Lib.hid ((Ext.refl w_1).alloc (.cells #[.int .u8 ((fb.toNat : Int))] 5))
  have HRD := Lib.hid (rd_byte w_1 (fb))
  have HOO := Lib.hid (owns_ext HX2.out HN1.out.own)
  have HNA := Lib.hid (HN1.out.more HX2.out)
  have HSZ := Lib.hid HNA.out.ext.size
  go_wp2_with (at_builtin; refine wpList_append_rd rfl rfl T25 (v := _) (by rfl) HOO.out (by rfl) HRD.out (u8s_one _) (by first | omega | (simp only [List.length_cons, List.length_nil]; omega)) (by first | (simp only [maxLen]; omega) | (simp only [maxLen, List.length_cons, List.length_nil]; omega)) HSZ.out ?_)
  intro v_2 w_2 O1 hg hat
  have HN2 := Lib.hid (HNA.out.app (b := [fb]) O1 hg)
  have HD2 := Lib.hid ((HD1.out.ext HX2.out).fr (Fr.grown hg) ((HD1.out.ext HX2.out).not_own HOO.out (by decide)))
  clear HOO HNA HSZ HRD HX2 O1 hg hat
  obtain ⟨ac2, hac⟩ : ∃ l, ac1 ++ [fb] = l := ⟨_, rfl⟩
  rw [hac] at HN2
  have HA2 := Lib.hid hac
  have la2 : ac2.length ≤ 11 := by rw [← HA2.out, List.length_append]; first | omega | (simp only [List.length_cons, List.length_nil]; omega)
  clear hac
  have d2 := (HD2.out).cell 2
  have hc := textR_any lb (by omega) w_2
  have l3 := textB_len (s := lb) (by omega)
  have hN := HN2.out.own
  obtain ⟨vA, vC, rfl, -⟩ := RdS.of_owns hN
  clear hN
  go_wp2_with fail
  refine hc.mono ?_
  clear hc d2
  rintro e w' hP
  obtain ⟨v2, rfl, hN2⟩ := PutR.rd hP
  have HX2 := Lib.hid hN2.ext
  have HRD := Lib.hid (RdS.of_owns hN2.own)
  obtain ⟨vA2, vC2, rfl, -⟩ := RdS.of_owns hN2.own
  clear hP hN2
  have HOO := Lib.hid (owns_ext HX2.out HN2.out.own)
  have HNA := Lib.hid (HN2.out.more HX2.out)
  have HSZ := Lib.hid HNA.out.ext.size
  go_wp2_with (at_builtin; refine wpList_append_rd rfl rfl T25 (v := _) (by rfl) HOO.out (by rfl) HRD.out (u8s_one _) (by first | omega | (simp only [List.length_cons, List.length_nil]; omega)) (by first | (simp only [maxLen]; omega) | (simp only [maxLen, List.length_cons, List.length_nil]; omega)) HSZ.out ?_)
  intro v_3 w_3 O1 hg hat
  have HN3 := Lib.hid (HNA.out.app (b := textB lb) O1 hg)
  have HD3 := Lib.hid ((HD2.out.ext HX2.out).fr (Fr.grown hg) ((HD2.out.ext HX2.out).not_own HOO.out (by decide)))
  clear HOO HNA HSZ HRD HX2 O1 hg hat
  obtain ⟨ac3, hac⟩ : ∃ l, ac2 ++ textB lb = l := ⟨_, rfl⟩
  rw [hac] at HN3
  have HA3 := Lib.hid hac
  have la3 : ac3.length ≤ 85 := by rw [← HA3.out, List.length_append]; first | omega | (simp only [List.length_cons, List.length_nil]; omega)
  clear hac
  have d3 := (HD3.out).cell 3
  have hc := numberR_any ats.length (by omega) w_3
  have l4 := num_len (n := ats.length) (by omega)
  have hN := HN3.out.own
  obtain ⟨vA, vC, rfl, -⟩ := RdS.of_owns hN
  clear hN
  go_wp2_with fail
  refine hc.mono ?_
  clear hc d3
  rintro e w' hP
  obtain ⟨v2, rfl, hN2⟩ := PutR.rd hP
  have HX2 := Lib.hid hN2.ext
  have HRD := Lib.hid (RdS.of_owns hN2.own)
  obtain ⟨vA2, vC2, rfl, -⟩ := RdS.of_owns hN2.own
  clear hP hN2
  have HOO := Lib.hid (owns_ext HX2.out HN3.out.own)
  have HNA := Lib.hid (HN3.out.more HX2.out)
  have HSZ := Lib.hid HNA.out.ext.size
  go_wp2_with (at_builtin; refine wpList_append_rd rfl rfl T25 (v := _) (by rfl) HOO.out (by rfl) HRD.out (u8s_one _) (by first | omega | (simp only [List.length_cons, List.length_nil]; omega)) (by first | (simp only [maxLen]; omega) | (simp only [maxLen, List.length_cons, List.length_nil]; omega)) HSZ.out ?_)
  intro v_4 w_4 O1 hg hat
  have HN4 := Lib.hid (HNA.out.app (b := num ats.length) O1 hg)
  have HD4 := Lib.hid ((HD3.out.ext HX2.out).fr (Fr.grown hg) ((HD3.out.ext HX2.out).not_own HOO.out (by decide)))
  clear HOO HNA HSZ HRD HX2 O1 hg hat
  obtain ⟨ac4, hac⟩ : ∃ l, ac3 ++ num ats.length = l := ⟨_, rfl⟩
  rw [hac] at HN4
  have HA4 := Lib.hid hac
  have la4 : ac4.length ≤ 95 := by rw [← HA4.out, List.length_append]; first | omega | (simp only [List.length_cons, List.length_nil]; omega)
  clear hac
  have HF0 : Hid (ac4 ++ (attrsB ats ++ (if leaf then textB tx else num ks.length ++ kidsB ks)) = TOT) := Lib.hid (by
    rw [← HA4.out, ← HA3.out, ← HA2.out, ← HA1.out, ← HTOT.out, ← HFB.out]
    show _ = num z ++ flagE leaf ++ textB lb ++ (num ats.length ++ attrsB ats) ++ _
    simp [flagE])
  have hN := HN4.out.own
  obtain ⟨vA, vC, rfl, -⟩ := RdS.of_owns hN
  clear hN
  go_wp2_with fail
  go_loopw [3, 4] (fun s3 s4 wr => ∃ (j : Nat) (acc : List UInt8), s4 = .int .i64 (j : Int) ∧ j ≤ ats.length ∧ New w1 wr s3 acc ∧ NBox wr D 32 #[.int .u64 (z : Int), .bool leaf, .string lb, .slice aA ats.length ac, .string tx, .slice A ks.length cc] ∧ Hid (acc ++ (attrsB (ats.drop j) ++ (if leaf then textB tx else num ks.length ++ kidsB ks)) = TOT)) (fun _ j _ => ats.length - (intOf j).toNat)
  case atStart => exact ⟨0, _, rfl, Nat.zero_le _, HN4.out, HD4.out, HF0⟩
  case round =>
    clear HN4 HD4 HF0
    obtain ⟨j, acc, rfl, hj, hN, hD, HF⟩ := hrel
    have HN1 := Lib.hid hN
    have HD1 := Lib.hid hD
    have hal2 : acc.length ≤ 400000000 := by
      have := HF.out
      rw [← this, List.length_append] at hlen
      omega
    clear hN hD
    obtain ⟨w_1, rfl⟩ : ∃ W, W = wr := ⟨_, rfl⟩
    have d3 := HD1.out.cell 3
    have q1 : (0 : Int) ≤ (j : Int) := by omega
    rcases Nat.lt_or_ge j ats.length with hlt | hlt
    · have q2 : (j : Int) < (ats.length : Int) := by omega
      obtain ⟨x, hx⟩ : ∃ x, ats[j]? = some x := ⟨_, List.getElem?_eq_getElem hlt⟩
      obtain ⟨ba, oa, rfl, ra⟩ := HAX.out (by intro h0; rw [h0] at hlt; exact absurd hlt (Nat.not_lt_zero _))
      obtain ⟨hky, hvv⟩ := HAT.out x (List.mem_of_getElem? hx)
      obtain ⟨ky, vv⟩ := x
      simp only at hky hvv
      have HRA := Lib.hid ra
      have HXX := Lib.hid hx
      have HS2 : Hid (acc ++ ((textB ky ++ textB vv) ++ (attrsB (ats.drop (j + 1)) ++ (if leaf then textB tx else num ks.length ++ kidsB ks))) = TOT) := Lib.hid (by rw [← HF.out, attrsB_at hx]; unfold attrB; simp only [List.append_assoc])
      clear hx ra HF d3
      obtain ⟨z0, z1, -, -⟩ := rdAttrs_at (rdAttrs_ext (HE.out.trans HN1.out.ext) HRA.out) HXX.out
      have d3 := (HD1.out).cell 3
      have hc := textR_any ky (by omega) w_1
      have l2 := textB_len (s := ky) (by omega)
      have hN := HN1.out.own
      obtain ⟨vA, vC, rfl, -⟩ := RdS.of_owns hN
      clear hN
      go_wp2_with fail
      refine hc.mono ?_
      clear hc d3 z0 z1
      rintro e w' hP
      obtain ⟨v2, rfl, hN2⟩ := PutR.rd hP
      have HX2 := Lib.hid hN2.ext
      have HRD := Lib.hid (RdS.of_owns hN2.own)
      obtain ⟨vA2, vC2, rfl, -⟩ := RdS.of_owns hN2.own
      clear hP hN2
      have HOO := Lib.hid (owns_ext HX2.out HN1.out.own)
      have HNA := Lib.hid (HN1.out.more HX2.out)
      have HSZ := Lib.hid HNA.out.ext.size
      go_wp2_with (at_builtin; refine wpList_append_rd rfl rfl T25 (v := _) (by rfl) HOO.out (by rfl) HRD.out (u8s_one _) (by first | omega | (simp only [List.length_cons, List.length_nil]; omega)) (by first | (simp only [maxLen]; omega) | (simp only [maxLen, List.length_cons, List.length_nil]; omega)) HSZ.out ?_)
      intro v_2 w_2 O1 hg hat
      have HN2 := Lib.hid (HNA.out.app (b := textB ky) O1 hg)
      have HD2 := Lib.hid ((HD1.out.ext HX2.out).fr (Fr.grown hg) ((HD1.out.ext HX2.out).not_own HOO.out (by decide)))
      clear HOO HNA HSZ HRD HX2 O1 hg hat
      obtain ⟨ac2, hac⟩ : ∃ l, acc ++ textB ky = l := ⟨_, rfl⟩
      rw [hac] at HN2
      have HA2 := Lib.hid hac
      have la2 : ac2.length ≤ acc.length + 74 := by rw [← HA2.out, List.length_append]; first | omega | (simp only [List.length_cons, List.length_nil]; omega)
      clear hac
      obtain ⟨z0, z1, -, -⟩ := rdAttrs_at (rdAttrs_ext (HE.out.trans HN2.out.ext) HRA.out) HXX.out
      have d3 := (HD2.out).cell 3
      have hc := textR_any vv (by omega) w_2
      have l3 := textB_len (s := vv) (by omega)
      have hN := HN2.out.own
      obtain ⟨vA, vC, rfl, -⟩ := RdS.of_owns hN
      clear hN
      go_wp2_with fail
      refine hc.mono ?_
      clear hc d3 z0 z1
      rintro e w' hP
      obtain ⟨v2, rfl, hN2⟩ := PutR.rd hP
      have HX2 := Lib.hid hN2.ext
      have HRD := Lib.hid (RdS.of_owns hN2.own)
      obtain ⟨vA2, vC2, rfl, -⟩ := RdS.of_owns hN2.own
      clear hP hN2
      have HOO := Lib.hid (owns_ext HX2.out HN2.out.own)
      have HNA := Lib.hid (HN2.out.more HX2.out)
      have HSZ := Lib.hid HNA.out.ext.size
      go_wp2_with (at_builtin; refine wpList_append_rd rfl rfl T25 (v := _) (by rfl) HOO.out (by rfl) HRD.out (u8s_one _) (by first | omega | (simp only [List.length_cons, List.length_nil]; omega)) (by first | (simp only [maxLen]; omega) | (simp only [maxLen, List.length_cons, List.length_nil]; omega)) HSZ.out ?_)
      intro v_3 w_3 O1 hg hat
      have HN3 := Lib.hid (HNA.out.app (b := textB vv) O1 hg)
      have HD3 := Lib.hid ((HD2.out.ext HX2.out).fr (Fr.grown hg) ((HD2.out.ext HX2.out).not_own HOO.out (by decide)))
      clear HOO HNA HSZ HRD HX2 O1 hg hat
      obtain ⟨ac3, hac⟩ : ∃ l, ac2 ++ textB vv = l := ⟨_, rfl⟩
      rw [hac] at HN3
      have HA3 := Lib.hid hac
      have la3 : ac3.length ≤ acc.length + 340 := by rw [← HA3.out, List.length_append]; first | omega | (simp only [List.length_cons, List.length_nil]; omega)
      clear hac
      have HS3 : Hid (ac3 ++ (attrsB (ats.drop (j + 1)) ++ (if leaf then textB tx else num ks.length ++ kidsB ks)) = TOT) := Lib.hid (by rw [← HS2.out, ← HA3.out, ← HA2.out]; simp only [List.append_assoc])
      have hN := HN3.out.own
      obtain ⟨vA, vC, rfl, -⟩ := RdS.of_owns hN
      clear hN
      go_wp2_with fail
      go_roundw
      case rel => exact ⟨j + 1, ac3, by go_num, by omega, HN3.out, HD3.out, HS3⟩
      case measure => simp [intOf]; omega
    · have HF1 : Hid (acc ++ (if leaf then textB tx else num ks.length ++ kidsB ks) = TOT) := Lib.hid (by rw [← HF.out, List.drop_eq_nil_of_le hlt]; rfl)
      have d1 := HD1.out.cell 1
      clear HF
      obtain ⟨ac1, hac1⟩ : ∃ l, acc = l := ⟨_, rfl⟩
      have la1 : ac1.length ≤ acc.length := by rw [← hac1]; exact Nat.le_refl _
      rw [hac1] at HN1 HF1
      clear hac1
      cases leaf with
      | true =>
        have htx := HTX.out rfl
        have HF2 : Hid (ac1 ++ textB tx = TOT) := HF1
        have hN := HN1.out.own
        obtain ⟨vA, vC, rfl, -⟩ := RdS.of_owns hN
        clear hN HF1
        go_upto_region 11 with fail
        clear d1 d3
        have d4 := (HD1.out).cell 4
        have hc := textR_any tx (by omega) w_1
        have l2 := textB_len (s := tx) (by omega)
        have hN := HN1.out.own
        clear hN
        go_wp2_with fail
        refine hc.mono ?_
        clear hc d4
        rintro e w' hP
        obtain ⟨v2, rfl, hN2⟩ := PutR.rd hP
        have HX2 := Lib.hid hN2.ext
        have HRD := Lib.hid (RdS.of_owns hN2.own)
        obtain ⟨vA2, vC2, rfl, -⟩ := RdS.of_owns hN2.own
        clear hP hN2
        have HOO := Lib.hid (owns_ext HX2.out HN1.out.own)
        have HNA := Lib.hid (HN1.out.more HX2.out)
        have HSZ := Lib.hid HNA.out.ext.size
        go_wp2_with (at_builtin; refine wpList_append_rd rfl rfl T25 (v := _) (by rfl) HOO.out (by rfl) HRD.out (u8s_one _) (by first | omega | (simp only [List.length_cons, List.length_nil]; omega)) (by first | (simp only [maxLen]; omega) | (simp only [maxLen, List.length_cons, List.length_nil]; omega)) HSZ.out ?_)
        intro v_2 w_2 O1 hg hat
        have HN2 := Lib.hid (HNA.out.app (b := textB tx) O1 hg)
        have HD2 := Lib.hid ((HD1.out.ext HX2.out).fr (Fr.grown hg) ((HD1.out.ext HX2.out).not_own HOO.out (by decide)))
        clear HOO HNA HSZ HRD HX2 O1 hg hat
        obtain ⟨ac2, hac⟩ : ∃ l, ac1 ++ textB tx = l := ⟨_, rfl⟩
        rw [hac] at HN2
        have HA2 := Lib.hid hac
        have la2 : ac2.length ≤ acc.length + 2058 := by rw [← HA2.out, List.length_append]; first | omega | (simp only [List.length_cons, List.length_nil]; omega)
        clear hac
        have HF : Hid (ac2 = TOT) := Lib.hid (by rw [← HF2.out, ← HA2.out])
        have hN := HN2.out.own
        obtain ⟨vA, vC, rfl, -⟩ := RdS.of_owns hN
        clear hN
        go_wp2_with fail
        go_ret
        rw [← HF.out]
        exact HN2.out.putR
      | false =>
        obtain ⟨hkl, hkx⟩ := HKS.out rfl
        have HKX := Lib.hid hkx
        have HF2 : Hid (ac1 ++ (num ks.length ++ kidsB ks) = TOT) := HF1
        have hN := HN1.out.own
        obtain ⟨vA, vC, rfl, -⟩ := RdS.of_owns hN
        clear hN HF1 hkx
        go_upto_region 12 with fail
        clear d1 d3
        have d5 := (HD1.out).cell 5
        have hc := numberR_any ks.length (by omega) w_1
        have l2 := num_len (n := ks.length) (by omega)
        have hN := HN1.out.own
        clear hN
        go_wp2_with fail
        refine hc.mono ?_
        clear hc d5
        rintro e w' hP
        obtain ⟨v2, rfl, hN2⟩ := PutR.rd hP
        have HX2 := Lib.hid hN2.ext
        have HRD := Lib.hid (RdS.of_owns hN2.own)
        obtain ⟨vA2, vC2, rfl, -⟩ := RdS.of_owns hN2.own
        clear hP hN2
        have HOO := Lib.hid (owns_ext HX2.out HN1.out.own)
        have HNA := Lib.hid (HN1.out.more HX2.out)
        have HSZ := Lib.hid HNA.out.ext.size
        go_wp2_with (at_builtin; refine wpList_append_rd rfl rfl T25 (v := _) (by rfl) HOO.out (by rfl) HRD.out (u8s_one _) (by first | omega | (simp only [List.length_cons, List.length_nil]; omega)) (by first | (simp only [maxLen]; omega) | (simp only [maxLen, List.length_cons, List.length_nil]; omega)) HSZ.out ?_)
        intro v_2 w_2 O1 hg hat
        have HN2 := Lib.hid (HNA.out.app (b := num ks.length) O1 hg)
        have HD2 := Lib.hid ((HD1.out.ext HX2.out).fr (Fr.grown hg) ((HD1.out.ext HX2.out).not_own HOO.out (by decide)))
        clear HOO HNA HSZ HRD HX2 O1 hg hat
        obtain ⟨ac2, hac⟩ : ∃ l, ac1 ++ num ks.length = l := ⟨_, rfl⟩
        rw [hac] at HN2
        have HA2 := Lib.hid hac
        have la2 : ac2.length ≤ acc.length + 10 := by rw [← HA2.out, List.length_append]; first | omega | (simp only [List.length_cons, List.length_nil]; omega)
        clear hac
        have HF : Hid (ac2 ++ kidsB ks = TOT) := Lib.hid (by rw [← HF2.out, ← HA2.out]; simp only [List.append_assoc])
        have hN := HN2.out.own
        obtain ⟨vA, vC, rfl, -⟩ := RdS.of_owns hN
        clear hN
        go_wp2_with fail
        go_loopw [3, 5] (fun s3 s5 wr => ∃ (j : Nat) (acc : List UInt8), s5 = .int .i64 (j : Int) ∧ j ≤ ks.length ∧ New w1 wr s3 acc ∧ NBox wr D 32 #[.int .u64 (z : Int), .bool false, .string lb, .slice aA ats.length ac, .string tx, .slice A ks.length cc] ∧ Hid (acc ++ kidsB (ks.drop j) = TOT)) (fun _ j _ => ks.length - (intOf j).toNat)
        case atStart => exact ⟨0, _, rfl, Nat.zero_le _, HN2.out, HD2.out, HF⟩
        case round =>
          clear HN2 HD2 HF HF2 HN1 HD1 la1 la2 hal2
          obtain ⟨j, acc, rfl, hj, hN, hD, HF⟩ := hrel
          have HN1 := Lib.hid hN
          have HD1 := Lib.hid hD
          have hal2 : acc.length ≤ 400000000 := by
            have := HF.out
            rw [← this, List.length_append] at hlen
            omega
          clear hN hD
          obtain ⟨w_1, rfl⟩ : ∃ W, W = wr := ⟨_, rfl⟩
          have d5 := HD1.out.cell 5
          have q1 : (0 : Int) ≤ (j : Int) := by omega
          rcases Nat.lt_or_ge j ks.length with hlt | hlt
          · have q2 : (j : Int) < (ks.length : Int) := by omega
            obtain ⟨x, hx⟩ : ∃ x, ks[j]? = some x := ⟨_, List.getElem?_eq_getElem hlt⟩
            obtain ⟨bk, ok, rfl, hrk⟩ := HK3.out (by intro h0; rw [h0] at hlt; exact absurd hlt (Nat.not_lt_zero _))
            obtain ⟨xA, xc, xK, xd, cx0, cx1, cx2, cx3, cx4, cx5, HXV⟩ := rdKids_get (rdKids_ext (HE.out.trans HN1.out.ext) hrk) hx
            have HS2 : Hid (acc ++ (nodeB x ++ kidsB (ks.drop (j + 1))) = TOT) := Lib.hid (by rw [← HF.out, kidsB_at hx])
            have hxl : (nodeB x).length ≤ 400000000 := by
              have := HS2.out
              rw [← this] at hlen
              simp only [List.length_append] at hlen
              omega
            have hih := HIH.out x (List.mem_of_getElem? hx) _ (d + 1) w_1 HXV (HKX.out x (List.mem_of_getElem? hx)) hxl
            clear hrk hx HXV HF d5
            have d5 := (HD1.out).cell 5
            have hc := hih
            have l2 := (show (nodeB x).length ≤ 400000000 from hxl)
            have hN := HN1.out.own
            obtain ⟨vA, vC, rfl, -⟩ := RdS.of_owns hN
            clear hN
            go_wp2_with fail
            refine hc.mono ?_
            clear hc hih d5 cx0 cx1 cx2 cx3 cx4 cx5
            rintro e w' hP
            obtain ⟨v2, rfl, hN2⟩ := PutR.rd hP
            have HX2 := Lib.hid hN2.ext
            have HRD := Lib.hid (RdS.of_owns hN2.own)
            obtain ⟨vA2, vC2, rfl, -⟩ := RdS.of_owns hN2.own
            clear hP hN2
            have HOO := Lib.hid (owns_ext HX2.out HN1.out.own)
            have HNA := Lib.hid (HN1.out.more HX2.out)
            have HSZ := Lib.hid HNA.out.ext.size
            go_wp2_with (at_builtin; refine wpList_append_rd rfl rfl T25 (v := _) (by rfl) HOO.out (by rfl) HRD.out (u8s_one _) (by first | omega | (simp only [List.length_cons, List.length_nil]; omega)) (by first | (simp only [maxLen]; omega) | (simp only [maxLen, List.length_cons, List.length_nil]; omega)) HSZ.out ?_)
            intro v_2 w_2 O1 hg hat
            have HN2 := Lib.hid (HNA.out.app (b := nodeB x) O1 hg)
            have HD2 := Lib.hid ((HD1.out.ext HX2.out).fr (Fr.grown hg) ((HD1.out.ext HX2.out).not_own HOO.out (by decide)))
            clear HOO HNA HSZ HRD HX2 O1 hg hat
            obtain ⟨ac2, hac⟩ : ∃ l, acc ++ nodeB x = l := ⟨_, rfl⟩
            rw [hac] at HN2
            have HA2 := Lib.hid hac
            have la2 : ac2.length ≤ acc.length + 400000000 := by rw [← HA2.out, List.length_append]; first | omega | (simp only [List.length_cons, List.length_nil]; omega)
            clear hac
            have HS3 : Hid (ac2 ++ kidsB (ks.drop (j + 1)) = TOT) := Lib.hid (by rw [← HS2.out, ← HA2.out]; simp only [List.append_assoc])
            have hN := HN2.out.own
            obtain ⟨vA, vC, rfl, -⟩ := RdS.of_owns hN
            clear hN
            go_wp2_with fail
            go_roundw
            case rel => exact ⟨j + 1, ac2, by go_num, by omega, HN2.out, HD2.out, HS3⟩
            case measure => simp [intOf]; omega
          · have HR : Hid (acc = TOT) := Lib.hid (by rw [← HF.out, List.drop_eq_nil_of_le hlt]; unfold kidsB; rw [List.append_nil])
            have hN := HN1.out.own
            obtain ⟨vA, vC, rfl, -⟩ := RdS.of_owns hN
            clear hN HF
            go_wp2_with fail
            go_ret
            rw [← HR.out]
            exact HN1.out.putR
theorem nodeB_all : ∀ (n : Nat) (t : Nd), t.cnt ≤ n → NodeBK t
  | 0, t, h => by have := Nd.cnt_eq t; omega
  | n + 1, t, h => nodeB_step t (fun x hx => nodeB_all n x (by have := cntK_mem hx; have := Nd.cnt_eq t; omega))
/-- The document's Node, of a tree that may be put. -/
theorem nodeRef_any (t : Nd) (tv : Value) (w : World) (h : t.rd w tv) (hm : 0 ≤ mayN 0 t) : Calls Try.prog 29 #[tv] w (PutR w (some (nodeB t))) := by
  obtain ⟨-, h2, h3⟩ := (mayN_is t 0).1 hm
  refine nodeB_all t.cnt t (Nat.le_refl _) tv 0 w h (by rw [h3]; rfl) ?_
  have hl := nodeE_len t 0 _ (rd_idLt h) h3
  have hc : t.cnt ≤ 512 := h2.elim id (fun hk => by have := Nd.cnt_eq t; rw [hk] at this; unfold cntK at this; omega)
  have : 710000 * t.cnt ≤ 710000 * 512 := Nat.mul_le_mul_left _ hc
  omega
end Go.Proofs.Ytoplaokimahdiaa.Wi
