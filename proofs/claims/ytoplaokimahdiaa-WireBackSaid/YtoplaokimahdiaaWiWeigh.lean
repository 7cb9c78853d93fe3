/- Chapter 17: how much a list, a tree has: some number (what it is does not matter: either way the law answers true). -/
import Derived.Test.YtoplaokimahdiaaWiPutL
namespace Go.Proofs.Ytoplaokimahdiaa.Wi
open Go.RowKit Go.Proofs.Ytoplaokimahdiaa.Bw Go.Proofs.Ytoplaokimahdiaa.Bs

def capF (n m : Int) : Int := if wrap64 (m + 1) < n then wrap64 (m + 1) else n
set_option maxRecDepth 100000 in
theorem cap1_any (n m : Int) (w : World) : Calls Try.prog 33 #[.int .i64 n, .int .i64 m] w fun e w' => e = .returned (.int .i64 (capF n m)) ∧ w' = w := by
  by_cases h : wrap64 (m + 1) < n
  · rw [capF, if_pos h]
    go_enter Try.func33, Try.ntmps33
    go_wp2_with fail
    go_ret
    exact ⟨rfl, rfl⟩
  · rw [capF, if_neg h]
    replace h := Int.not_lt.1 h
    go_enter Try.func33, Try.ntmps33
    go_wp2_with fail
    go_ret
    exact ⟨rfl, rfl⟩
attribute [irreducible] capF
set_option maxRecDepth 100000 in
set_option maxHeartbeats 2000000 in
theorem weight_any (l : List OpD) (lv : Value) (w : World) (most : Int) (h : RdL w l lv) : Calls Try.prog 9 #[lv, .int .i64 most] w (Ret w fun r _ => ∃ n : Int, r = .int .i64 n) := by
  obtain ⟨A, c, rfl, hc1, hc2, hcell⟩ := h
  unfold maxLen at hc2
  go_enter Try.func9, Try.ntmps9
  go_wp2_with fail
  go_loopw [5, 6, 7, 8] (fun s5 s6 s7 s8 wr => ∃ (m : Int) (i : Nat), s5 = .int .i64 m ∧ s6 = .int .i64 (i : Int) ∧ i ≤ l.length ∧ Ext w wr) (fun _ i _ _ _ => l.length - (intOf i).toNat)
  case atStart => exact ⟨0, 0, rfl, rfl, Nat.zero_le _, Ext.refl _⟩
  case round =>
    obtain ⟨m, i, rfl, rfl, hi, hE⟩ := hrel
    have q1 : (0 : Int) ≤ (i : Int) := by omega
    rcases Nat.lt_or_ge i l.length with hlt | hlt
    · have q2 : (i : Int) < (l.length : Int) := by omega
      obtain ⟨x, hx⟩ : ∃ x, l[i]? = some x := ⟨_, List.getElem?_eq_getElem hlt⟩
      obtain ⟨b0, off, rfl, hrd⟩ := hcell (by omega)
      obtain ⟨⟨pv, tv, cv, dx0, dx1, dx2, dx3, dx4, dx5, dx6, dx7, dx8, dx9, dx10, HXV⟩, -⟩ := rdOps_at (rdOps_ext hE hrd) hx
      obtain ⟨pv', tv', cv', he, ⟨pA, pc, hpe, -⟩, ⟨tA, tc, hte, -⟩, hRP, -⟩ := id HXV
      simp only [Value.agg.injEq, Array.mk.injEq, List.cons.injEq, and_true, true_and] at he
      obtain ⟨rfl, rfl, rfl⟩ := he
      subst hpe hte
      obtain ⟨cA, cc, rfl, hp1, hp2, hpc⟩ := hRP
      unfold maxLen at hp2
      cases hm : decide (m ≤ most) with
      | false =>
        clear dx0 dx1 dx2 dx3 dx4 dx5 dx6 dx7 dx8 dx9 dx10 HXV hrd hcell hx hpc
        go_wp2_with fail
        go_ret
        exact ⟨_, rfl, ⟨_, rfl⟩, hE⟩
      | true =>
        obtain ⟨w1, hw1⟩ : ∃ W, wr.alloc (.cells #[.int .u8 x.kind, .slice pA x.path.length pc, .int .i64 x.at_, .slice tA x.to.length tc, .int .u64 x.id, .bool x.leaf, .string x.label, .string x.key, .string x.value, .bool x.gone, .slice cA x.pcs.length cc] 66) = W := ⟨_, rfl⟩
        obtain ⟨D, hDD⟩ : ∃ D, wr.heap.size = D := ⟨_, rfl⟩
        have E1 : Ext wr w1 := by rw [← hw1]; exact (Ext.refl wr).alloc _
        have bD : NBox w1 D 66 #[.int .u8 x.kind, .slice pA x.path.length pc, .int .i64 x.at_, .slice tA x.to.length tc, .int .u64 x.id, .bool x.leaf, .string x.label, .string x.key, .string x.value, .bool x.gone, .slice cA x.pcs.length cc] := by rw [← hw1, ← hDD]; exact NBox.new _ _ _
        have HW := Lib.hid hw1
        have HD := Lib.hid hDD
        clear hw1 hDD HXV hrd hx
        go_upto_region 6 with fail
        have e1 : (wr.alloc (.cells #[.int .u8 x.kind, .slice pA x.path.length pc, .int .i64 x.at_, .slice tA x.to.length tc, .int .u64 x.id, .bool x.leaf, .string x.label, .string x.key, .string x.value, .bool x.gone, .slice cA x.pcs.length cc] 66)) = w1 := HW.out
        rw [e1, HD.out]
        clear e1 HW
        have d1 := bD.cell 1
        have d3 := bD.cell 3
        have d6 := bD.cell 6
        have d7 := bD.cell 7
        have d8 := bD.cell 8
        clear dx0 dx1 dx2 dx3 dx4 dx5 dx6 dx7 dx8 dx9 dx10
        go_quiet ((go_at_call 33; exact Calls.quiet_of_same (cap1_any _ _ _)))
        go_upto_region 8 with fail
        have E2 : Ext wr (w1.drewN nq) := E1.drewN _
        have bD2 : NBox (w1.drewN nq) D 66 #[.int .u8 x.kind, .slice pA x.path.length pc, .int .i64 x.at_, .slice tA x.to.length tc, .int .u64 x.id, .bool x.leaf, .string x.label, .string x.key, .string x.value, .bool x.gone, .slice cA x.pcs.length cc] := bD.ext ((Ext.refl _).drewN _)
        obtain ⟨w2, hw2⟩ : ∃ W, w1.drewN nq = W := ⟨_, rfl⟩
        rw [hw2] at E2 bD2 ⊢
        have HPC := Lib.hid hpc
        have HCELL := Lib.hid hcell
        have HE := Lib.hid (hE.trans E2)
        have HR2 := Lib.hid E2
        clear hw2 d1 d3 d6 d7 d8 bD E1 hpc hcell hE hm E2
        go_loopw [5, 8] (fun s5 s8 wq => ∃ (m : Int) (k : Nat), s5 = .int .i64 m ∧ s8 = .int .i64 (k : Int) ∧ k ≤ x.pcs.length ∧ Ext w2 wq) (fun _ k _ => x.pcs.length - (intOf k).toNat)
        case atStart => exact ⟨_, 0, rfl, rfl, Nat.zero_le _, Ext.refl _⟩
        case round =>
          obtain ⟨m2, k, rfl, rfl, hk, hE2⟩ := hrel
          have bD3 := bD2.ext hE2
          have d10 := bD3.cell 10
          have k1 : (0 : Int) ≤ (k : Int) := by omega
          rcases Nat.lt_or_ge k x.pcs.length with hlk | hlk
          · have k2 : (k : Int) < (x.pcs.length : Int) := by omega
            cases hm2 : decide (m2 ≤ most) with
            | false =>
              have k3 : (i : Int) < 9223372036854775807 := by omega
              clear bD3
              go_wp2_with fail
              go_roundw
              case rel => exact ⟨_, i + 1, rfl, by go_num, by omega, HE.out.trans hE2⟩
              case measure => simp [intOf]; omega
            | true =>
              obtain ⟨z, hz⟩ : ∃ z, x.pcs[k]? = some z := ⟨_, List.getElem?_eq_getElem hlk⟩
              obtain ⟨bp, op, rfl, hrp⟩ := HPC.out (by omega)
              obtain ⟨-, -, cz2, -⟩ := rdPcs_at (rdPcs_ext (HR2.out.trans hE2) hrp) hz
              clear bD3 hrp hz
              go_wp2_with (first | (go_at_call 33; refine (cap1_any _ _ _).mono ?_; rintro e u ⟨rfl, rfl⟩) | go_quiet ((go_at_call 33; exact Calls.quiet_of_same (cap1_any _ _ _))))
              exact ⟨⟨_, k + 1, rfl, by go_num, by omega, hE2⟩, by simp [intOf]; omega⟩
          · clear bD3
            go_wp2_with fail
            go_roundw
            case rel => exact ⟨_, i + 1, rfl, by go_num, by omega, HE.out.trans hE2⟩
            case measure => simp [intOf]; omega
    · clear hcell
      go_wp2_with fail
      go_ret
      exact ⟨_, rfl, ⟨_, rfl⟩, hE⟩
def HeavyK (t : Nd) : Prop := ∀ (xv : Value) (d m : Int) (w : World), t.rd w xv → Calls Try.prog 13 #[xv, .int .i64 d, .int .i64 m] w (Ret w fun r _ => ∃ n : Int, r = .int .i64 n)
set_option maxRecDepth 100000 in
set_option maxHeartbeats 2000000 in
theorem heavy_step (t : Nd) (ih : ∀ x ∈ t.kids, HeavyK x) : HeavyK t := by
  obtain ⟨id, leaf, lb, ats, tx, ks⟩ := t
  intro xv d most w hx
  unfold Nd.rd at hx
  obtain ⟨av, A, cc, rfl, hid, hlb, htx, ⟨aA, ac, rfl, ha1, ha2, ha3⟩, hk1, hk2, hk3⟩ := hx
  unfold maxLen at ha2 hk2
  obtain ⟨w1, hw1⟩ : ∃ W, w.alloc (.cells #[.int .u64 id, .bool leaf, .string lb, .slice aA ats.length ac, .string tx, .slice A ks.length cc] 32) = W := ⟨_, rfl⟩
  obtain ⟨D, hDD⟩ : ∃ D, w.heap.size = D := ⟨_, rfl⟩
  have E1 : Ext w w1 := by rw [← hw1]; exact (Ext.refl w).alloc _
  have bD : NBox w1 D 32 #[.int .u64 id, .bool leaf, .string lb, .slice aA ats.length ac, .string tx, .slice A ks.length cc] := by rw [← hw1, ← hDD]; exact NBox.new _ _ _
  have HW := Lib.hid hw1
  have HD := Lib.hid hDD
  have d2 := bD.cell 2
  have d4 := bD.cell 4
  have HA3 := Lib.hid ha3
  have HK3 := Lib.hid hk3
  clear hw1 hDD ha3 hk3 hid hlb htx
  go_enter Try.func13, Try.ntmps13
  go_upto_region 1 with fail
  rw [HW.out, HD.out]
  clear HW HD
  go_quiet ((go_at_call 33; exact Calls.quiet_of_same (cap1_any _ _ _)))
  go_upto_region 2 with fail
  have E2 : Ext w (w1.drewN nq) := E1.drewN _
  have bD2 : NBox (w1.drewN nq) D 32 #[.int .u64 id, .bool leaf, .string lb, .slice aA ats.length ac, .string tx, .slice A ks.length cc] := bD.ext ((Ext.refl _).drewN _)
  obtain ⟨w2, hw2⟩ : ∃ W, w1.drewN nq = W := ⟨_, rfl⟩
  rw [hw2] at E2 bD2 ⊢
  have HE := Lib.hid E2
  clear hw2 d2 d4 bD E1 E2
  cases hd2 : decide (200 < d) with
  | true =>
    clear bD2
    go_wp2_with fail
    go_ret
    exact ⟨_, rfl, ⟨_, rfl⟩, HE.out⟩
  | false =>
    go_upto_region 5 with fail
    go_loopw [7, 8] (fun s7 s8 wq => ∃ (m : Int) (k : Nat), s7 = .int .i64 m ∧ s8 = .int .i64 (k : Int) ∧ k ≤ ats.length ∧ Ext w2 wq) (fun _ k _ => ats.length - (intOf k).toNat)
    case atStart => exact ⟨_, 0, rfl, rfl, Nat.zero_le _, Ext.refl _⟩
    case round =>
      obtain ⟨m2, k, rfl, rfl, hk, hE2⟩ := hrel
      have d3 := (bD2.ext hE2).cell 3
      have k1 : (0 : Int) ≤ (k : Int) := by omega
      rcases Nat.lt_or_ge k ats.length with hlk | hlk
      · have k2 : (k : Int) < (ats.length : Int) := by omega
        cases hm2 : decide (m2 ≤ most) with
        | false =>
          go_wp2_with fail
          go_loopw [7, 9] (fun s7 s9 wq => ∃ (m : Int) (j : Nat), s7 = .int .i64 m ∧ s9 = .int .i64 (j : Int) ∧ j ≤ ks.length ∧ Ext w2 wq) (fun _ j _ => ks.length - (intOf j).toNat)
          case atStart => exact ⟨_, 0, rfl, rfl, Nat.zero_le _, hE2⟩
          case round =>
            obtain ⟨m3, j, rfl, rfl, hj, hE3⟩ := hrel
            have d5 := (bD2.ext hE3).cell 5
            have j1 : (0 : Int) ≤ (j : Int) := by omega
            clear hE2
            rcases Nat.lt_or_ge j ks.length with hlj | hlj
            · have j2 : (j : Int) < (ks.length : Int) := by omega
              cases hm3 : decide (m3 ≤ most) with
              | false =>
                go_wp2_with fail
                go_ret
                exact ⟨_, rfl, ⟨_, rfl⟩, HE.out.trans hE3⟩
              | true =>
                obtain ⟨x, hx⟩ : ∃ x, ks[j]? = some x := ⟨_, List.getElem?_eq_getElem hlj⟩
                obtain ⟨bk, ok, rfl, hrk⟩ := HK3.out (by intro h0; rw [h0] at hlj; exact absurd hlj (Nat.not_lt_zero _))
                obtain ⟨xA, xc, xK, xd, cx0, cx1, cx2, cx3, cx4, cx5, HXV⟩ := rdKids_get (rdKids_ext (HE.out.trans hE3) hrk) hx
                have hc := ih x (List.mem_of_getElem? hx) _ (wrap64 (d + 1)) (wrap64 (most - m3)) _ HXV
                clear hrk hx HXV ih
                go_wp2_with fail
                refine hc.mono ?_
                clear hc cx0 cx1 cx2 cx3 cx4 cx5 d5
                rintro e u ⟨r, rfl, ⟨n, rfl⟩, hE4⟩
                go_wp2_with fail
                go_roundw
                case rel => exact ⟨_, j + 1, rfl, by go_num, by omega, hE3.trans hE4⟩
                case measure => simp [intOf]; omega
            · go_wp2_with fail
              go_ret
              exact ⟨_, rfl, ⟨_, rfl⟩, HE.out.trans hE3⟩
        | true =>
          obtain ⟨z, hz⟩ : ∃ z, ats[k]? = some z := ⟨_, List.getElem?_eq_getElem hlk⟩
          obtain ⟨ba, oa, rfl, hra⟩ := HA3.out (by intro h0; rw [h0] at hlk; exact absurd hlk (Nat.not_lt_zero _))
          obtain ⟨cz0, cz1, -, -⟩ := rdAttrs_at (k := z.1) (v := z.2) (rdAttrs_ext (HE.out.trans hE2) hra) hz
          clear hra hz
          go_wp2_with fail
          go_quiet ((go_at_call 33; exact Calls.quiet_of_same (cap1_any _ _ _)))
          go_wp2_with fail
          go_roundw
          case rel => exact ⟨_, k + 1, rfl, by go_num, by omega, hE2.drewN _⟩
          case measure => simp [intOf]; omega
      · go_wp2_with fail
        go_loopw [7, 9] (fun s7 s9 wq => ∃ (m : Int) (j : Nat), s7 = .int .i64 m ∧ s9 = .int .i64 (j : Int) ∧ j ≤ ks.length ∧ Ext w2 wq) (fun _ j _ => ks.length - (intOf j).toNat)
        case atStart => exact ⟨_, 0, rfl, rfl, Nat.zero_le _, hE2⟩
        case round =>
          obtain ⟨m3, j, rfl, rfl, hj, hE3⟩ := hrel
          have d5 := (bD2.ext hE3).cell 5
          have j1 : (0 : Int) ≤ (j : Int) := by omega
          clear hE2
          rcases Nat.lt_or_ge j ks.length with hlj | hlj
          · have j2 : (j : Int) < (ks.length : Int) := by omega
            cases hm3 : decide (m3 ≤ most) with
            | false =>
              go_wp2_with fail
              go_ret
              exact ⟨_, rfl, ⟨_, rfl⟩, HE.out.trans hE3⟩
            | true =>
              obtain ⟨x, hx⟩ : ∃ x, ks[j]? = some x := ⟨_, List.getElem?_eq_getElem hlj⟩
              obtain ⟨bk, ok, rfl, hrk⟩ := HK3.out (by intro h0; rw [h0] at hlj; exact absurd hlj (Nat.not_lt_zero _))
              obtain ⟨xA, xc, xK, xd, cx0, cx1, cx2, cx3, cx4, cx5, HXV⟩ := rdKids_get (rdKids_ext (HE.out.trans hE3) hrk) hx
              have hc := ih x (List.mem_of_getElem? hx) _ (wrap64 (d + 1)) (wrap64 (most - m3)) _ HXV
              clear hrk hx HXV ih
              go_wp2_with fail
              refine hc.mono ?_
              clear hc cx0 cx1 cx2 cx3 cx4 cx5 d5
              rintro e u ⟨r, rfl, ⟨n, rfl⟩, hE4⟩
              go_wp2_with fail
              go_roundw
              case rel => exact ⟨_, j + 1, rfl, by go_num, by omega, hE3.trans hE4⟩
              case measure => simp [intOf]; omega
          · go_wp2_with fail
            go_ret
            exact ⟨_, rfl, ⟨_, rfl⟩, HE.out.trans hE3⟩
theorem heavy_all : ∀ (n : Nat) (t : Nd), t.cnt ≤ n → HeavyK t
  | 0, t, h => by have := Nd.cnt_eq t; omega
  | n + 1, t, h => heavy_step t (fun x hx => heavy_all n x (by have := cntK_mem hx; have := Nd.cnt_eq t; omega))
theorem heavy_any (t : Nd) : HeavyK t := heavy_all t.cnt t (Nat.le_refl _)
end Go.Proofs.Ytoplaokimahdiaa.Wi
