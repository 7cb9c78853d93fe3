/- Chapter 17: which trees are the same. (Printed by gwsamen.py.) -/
import Derived.Test.YtoplaokimahdiaaWiSame2
namespace Go.Proofs.Ytoplaokimahdiaa.Wi
open Go.RowKit Go.Proofs.Ytoplaokimahdiaa.Bw Go.Proofs.Ytoplaokimahdiaa.Bs

theorem pair_eq (x y : ByteArray × ByteArray) : x = y ↔ x.1 = y.1 ∧ x.2 = y.2 := Prod.ext_iff
set_option maxRecDepth 100000 in
set_option maxHeartbeats 4000000 in
theorem sameNode_all (N : Nat) : ∀ (a b : Nd) (u v : Value) (w : World), a.cnt ≤ N → a.rd w u → b.rd w v → Calls Try.prog 17 #[u, v] w (Ret w fun r _ => ∃ t : Bool, r = .bool t ∧ (t = true ↔ a = b)) := by
  induction N with
  | zero => intro a b u v w h; rw [Nd.cnt_eq] at h; omega
  | succ N ih =>
  intro a b u v w hN ha hb
  obtain ⟨id, lf, lb, ats, tx, ks⟩ := a
  obtain ⟨id2, lf2, lb2, ats2, tx2, ks2⟩ := b
  unfold Nd.rd at ha hb
  obtain ⟨av, kA, kc, rfl, -, -, -, ⟨aA, ac, rfl, a1, a2, a3⟩, k1, k2, k3⟩ := ha
  obtain ⟨av2, kA2, kc2, rfl, -, -, -, ⟨aA2, ac2, rfl, b1, b2, b3⟩, l1, l2, l3⟩ := hb
  unfold maxLen at a2 b2 k2 l2
  rw [Nd.cnt] at hN
  have HKN : Hid (∀ x ∈ ks, x.cnt ≤ N) := Lib.hid (fun x hx => by have := cntK_mem hx; omega)
  obtain ⟨w1, hw1⟩ : ∃ W, (w.alloc (.cells #[.int .u64 id, .bool lf, .string lb, .slice aA ats.length ac, .string tx, .slice kA ks.length kc] 32)).alloc (.cells #[.int .u64 id2, .bool lf2, .string lb2, .slice aA2 ats2.length ac2, .string tx2, .slice kA2 ks2.length kc2] 32) = W := ⟨_, rfl⟩
  obtain ⟨D, hDD⟩ : ∃ D, w.heap.size = D := ⟨_, rfl⟩
  obtain ⟨D2, hD2⟩ : ∃ D2, D + 1 = D2 := ⟨_, rfl⟩
  have s1 : (w.alloc (.cells #[.int .u64 id, .bool lf, .string lb, .slice aA ats.length ac, .string tx, .slice kA ks.length kc] 32)).heap.size = D2 := by rw [World.size_alloc, hDD, hD2]
  have E1 : Ext w w1 := by rw [← hw1]; exact ((Ext.refl w).alloc _).alloc _
  have HBD : Hid (NBox w1 D 32 #[.int .u64 id, .bool lf, .string lb, .slice aA ats.length ac, .string tx, .slice kA ks.length kc]) := Lib.hid (by rw [← hw1, ← hDD]; exact (NBox.new _ _ _).ext ((Ext.refl _).alloc _))
  have HBE : Hid (NBox w1 D2 32 #[.int .u64 id2, .bool lf2, .string lb2, .slice aA2 ats2.length ac2, .string tx2, .slice kA2 ks2.length kc2]) := Lib.hid (by rw [← hw1, ← s1]; exact NBox.new _ _ _)
  have HA := Lib.hid a3
  have HA2 := Lib.hid b3
  have HK := Lib.hid k3
  have HK2 := Lib.hid l3
  have HW := Lib.hid hw1
  have HD := Lib.hid hDD
  have HDD := Lib.hid hD2
  have HE := Lib.hid E1
  clear a3 b3 k3 l3 hw1 hDD hD2 s1 E1 hN
  have bD := HBD.out
  have bE := HBE.out
  have x0 := bD.cell 0
  have y0 := bE.cell 0
  have x1 := bD.cell 1
  have y1 := bE.cell 1
  have x2 := bD.cell 2
  have y2 := bE.cell 2
  have x3 := bD.cell 3
  have y3 := bE.cell 3
  have x4 := bD.cell 4
  have y4 := bE.cell 4
  have x5 := bD.cell 5
  have y5 := bE.cell 5
  clear bD bE
  go_enter Try.func17, Try.ntmps17
  go_upto_region 1 with fail
  have e1 : (w.alloc (.cells #[.int .u64 id, .bool lf, .string lb, .slice aA ats.length ac, .string tx, .slice kA ks.length kc] 32)).alloc (.cells #[.int .u64 id2, .bool lf2, .string lb2, .slice aA2 ats2.length ac2, .string tx2, .slice kA2 ks2.length kc2] 32) = w1 := HW.out
  rw [e1, HD.out, HDD.out]
  clear e1 HW HD HDD
  cases h_id : (id == id2) with
  | false =>
    have n_id : (id != id2) = true := by rw [bne, h_id]; rfl
    have HN : Hid (¬ ((.mk id lf lb ats tx ks : Nd) = .mk id2 lf2 lb2 ats2 tx2 ks2)) := Lib.hid (fun e => by cases e; simp at h_id)
    go_wp2_with fail
    go_ret
    exact ret_is (no_is HN.out) HE.out
  | true =>
    have n_id : (id != id2) = false := by rw [bne, h_id]; rfl
    have E_id := Lib.hid (beq_iff_eq.1 h_id)
    cases h_lf : (lf == lf2) with
    | false =>
      have n_lf : (lf != lf2) = true := by rw [bne, h_lf]; rfl
      have HN : Hid (¬ ((.mk id lf lb ats tx ks : Nd) = .mk id2 lf2 lb2 ats2 tx2 ks2)) := Lib.hid (fun e => by cases e; simp at h_lf)
      go_wp2_with fail
      go_ret
      exact ret_is (no_is HN.out) HE.out
    | true =>
      have n_lf : (lf != lf2) = false := by rw [bne, h_lf]; rfl
      have E_lf := Lib.hid (beq_iff_eq.1 h_lf)
      cases h_lb : (lb.toList == lb2.toList) with
      | false =>
        have HN : Hid (¬ ((.mk id lf lb ats tx ks : Nd) = .mk id2 lf2 lb2 ats2 tx2 ks2)) := Lib.hid (fun e => by cases e; simp at h_lb)
        go_wp2_with fail
        go_ret
        exact ret_is (no_is HN.out) HE.out
      | true =>
        have E_lb : Hid (lb = lb2) := Lib.hid (by rw [beq_str] at h_lb; exact of_decide_eq_true h_lb)
        cases h_tx : (tx.toList == tx2.toList) with
        | false =>
          have HN : Hid (¬ ((.mk id lf lb ats tx ks : Nd) = .mk id2 lf2 lb2 ats2 tx2 ks2)) := Lib.hid (fun e => by cases e; simp at h_tx)
          go_wp2_with fail
          go_ret
          exact ret_is (no_is HN.out) HE.out
        | true =>
          have E_tx : Hid (tx = tx2) := Lib.hid (by rw [beq_str] at h_tx; exact of_decide_eq_true h_tx)
          cases h_ats : ((ats.length : Int) == (ats2.length : Int)) with
          | false =>
            have n_ats : ((ats.length : Int) != (ats2.length : Int)) = true := by rw [bne, h_ats]; rfl
            have HN : Hid (¬ ((.mk id lf lb ats tx ks : Nd) = .mk id2 lf2 lb2 ats2 tx2 ks2)) := Lib.hid (fun e => by cases e; simp at h_ats)
            go_wp2_with fail
            go_ret
            exact ret_is (no_is HN.out) HE.out
          | true =>
            have n_ats : ((ats.length : Int) != (ats2.length : Int)) = false := by rw [bne, h_ats]; rfl
            have E_ats : Hid (ats.length = ats2.length) := Lib.hid (by have := beq_iff_eq.1 h_ats; omega)
            cases h_ks : ((ks.length : Int) == (ks2.length : Int)) with
            | false =>
              have n_ks : ((ks.length : Int) != (ks2.length : Int)) = true := by rw [bne, h_ks]; rfl
              have HN : Hid (¬ ((.mk id lf lb ats tx ks : Nd) = .mk id2 lf2 lb2 ats2 tx2 ks2)) := Lib.hid (fun e => by cases e; simp at h_ks)
              go_wp2_with fail
              go_ret
              exact ret_is (no_is HN.out) HE.out
            | true =>
              have n_ks : ((ks.length : Int) != (ks2.length : Int)) = false := by rw [bne, h_ks]; rfl
              have E_ks : Hid (ks.length = ks2.length) := Lib.hid (by have := beq_iff_eq.1 h_ks; omega)
              have HQ : Hid ((ats = ats2 ∧ ks = ks2) ↔ ((.mk id lf lb ats tx ks : Nd) = .mk id2 lf2 lb2 ats2 tx2 ks2)) := Lib.hid (by
                have := E_id.out; have := E_lf.out; have := E_lb.out; have := E_tx.out
                subst_vars
                simp)
              go_upto_region 3 with fail
              clear h_id h_lf h_lb h_tx n_id n_lf h_ats n_ats h_ks n_ks x0 y0 x1 y1 x2 y2 x3 y3 x4 y4 x5 y5
              go_wp2_with fail
              go_loopw [5] (fun s5 wr => ∃ j : Nat, s5 = .int .i64 (j : Int) ∧ j ≤ ats.length ∧ Hid (ats.drop j = ats2.drop j ↔ ats = ats2) ∧ Ext w1 wr) (fun j _ => ats.length - (intOf j).toNat)
              case atStart => exact ⟨0, rfl, Nat.zero_le _, Lib.hid Iff.rfl, Ext.refl _⟩
              case round =>
                obtain ⟨j, rfl, hj, HF, hX⟩ := hrel
                have x3 := (HBD.out.ext hX).cell 3
                have y3 := (HBE.out.ext hX).cell 3
                have q1 : (0 : Int) ≤ (j : Int) := by omega
                rcases Nat.lt_or_ge j ats.length with hlt | hlt
                · have q2 : (j : Int) < (ats.length : Int) := by omega
                  have q3 : (j : Int) < (ats2.length : Int) := by have := E_ats.out; omega
                  obtain ⟨x, hx⟩ : ∃ x, ats[j]? = some x := ⟨_, List.getElem?_eq_getElem hlt⟩
                  obtain ⟨y, hy⟩ : ∃ y, ats2[j]? = some y := ⟨_, List.getElem?_eq_getElem (by omega)⟩
                  obtain ⟨ba, oa, rfl, ra⟩ := HA.out (by intro h; rw [h] at hlt; simp at hlt)
                  obtain ⟨bb, ob, rfl, rb⟩ := HA2.out (by intro h; rw [h] at hy; simp at hy)
                  obtain ⟨z1, z2, -, -⟩ := rdAttrs_at (k := x.1) (v := x.2) (rdAttrs_ext (HE.out.trans hX) ra) hx
                  obtain ⟨u1, u2, -, -⟩ := rdAttrs_at (k := y.1) (v := y.2) (rdAttrs_ext (HE.out.trans hX) rb) hy
                  have HS : Hid (ats = ats2 ↔ x = y ∧ ats.drop (j + 1) = ats2.drop (j + 1)) := Lib.hid (by rw [← HF.out, drop_at hx, drop_at hy, List.cons.injEq])
                  clear hx hy ra rb HF
                  obtain ⟨xk, xv⟩ := x
                  obtain ⟨yk, yv⟩ := y
                  simp only at z1 z2 u1 u2
                  cases c1 : (xk.toList == yk.toList) with
                  | false =>
                    have HN : Hid (¬ ((.mk id lf lb ats tx ks : Nd) = .mk id2 lf2 lb2 ats2 tx2 ks2)) := Lib.hid (fun e => by have := (HS.out.1 (HQ.out.2 e).1).1; cases this; simp at c1)
                    go_wp2_with fail
                    go_quiet (fail)
                    go_wp2_with fail
                    go_ret
                    exact ret_is (no_is HN.out) (HE.out.trans (hX.drewN _))
                  | true =>
                    cases c4 : (xv.toList == yv.toList) with
                    | false =>
                      have HN : Hid (¬ ((.mk id lf lb ats tx ks : Nd) = .mk id2 lf2 lb2 ats2 tx2 ks2)) := Lib.hid (fun e => by have := (HS.out.1 (HQ.out.2 e).1).1; cases this; simp at c4)
                      go_wp2_with fail
                      go_quiet (fail)
                      go_wp2_with fail
                      go_ret
                      exact ret_is (no_is HN.out) (HE.out.trans (hX.drewN _))
                    | true =>
                      have HF2 : Hid (ats.drop (j + 1) = ats2.drop (j + 1) ↔ ats = ats2) := Lib.hid (by
                        have e1 : xk = yk := by rw [beq_str] at c1; exact of_decide_eq_true c1
                        have e3 : xv = yv := by rw [beq_str] at c4; exact of_decide_eq_true c4
                        rw [HS.out, e1, e3]; simp)
                      go_wp2_with fail
                      go_quiet (fail)
                      go_wp2_with fail
                      go_roundw
                      case rel => exact ⟨j + 1, by go_num, by omega, HF2, hX.drewN _⟩
                      case measure => simp [intOf]; omega
                · have HAE : Hid (ats = ats2) := Lib.hid (HF.out.1 (by rw [List.drop_eq_nil_of_le hlt, List.drop_eq_nil_of_le (by have := E_ats.out; omega)]))
                  have HX0 := Lib.hid hX
                  clear HF
                  have q4 : decide (j < ats.length) = false := decide_eq_false (by omega)
                  go_wp2_with fail
                  clear hX x3 y3 q4
                  go_loopw [6] (fun s6 wr => ∃ j : Nat, s6 = .int .i64 (j : Int) ∧ j ≤ ks.length ∧ Hid (ks.drop j = ks2.drop j ↔ ks = ks2) ∧ Ext w1 wr) (fun j _ => ks.length - (intOf j).toNat)
                  case atStart => exact ⟨0, rfl, Nat.zero_le _, Lib.hid Iff.rfl, HX0.out⟩
                  case round =>
                    obtain ⟨j2, rfl, hj2, HF, hX⟩ := hrel
                    have x5 := (HBD.out.ext hX).cell 5
                    have y5 := (HBE.out.ext hX).cell 5
                    have q1 : (0 : Int) ≤ (j2 : Int) := by omega
                    rcases Nat.lt_or_ge j2 ks.length with hlt2 | hlt2
                    · have q2 : (j2 : Int) < (ks.length : Int) := by omega
                      have q3 : (j2 : Int) < (ks2.length : Int) := by have := E_ks.out; omega
                      obtain ⟨x, hx⟩ : ∃ x, ks[j2]? = some x := ⟨_, List.getElem?_eq_getElem hlt2⟩
                      obtain ⟨y, hy⟩ : ∃ y, ks2[j2]? = some y := ⟨_, List.getElem?_eq_getElem (by omega)⟩
                      obtain ⟨ba, oa, rfl, ra⟩ := HK.out (by intro h; rw [h] at hlt2; simp at hlt2)
                      obtain ⟨bb, ob, rfl, rb⟩ := HK2.out (by intro h; rw [h] at hy; simp at hy)
                      obtain ⟨xA, xa, xK, xk, e0, e1, e2, e3, e4, e5, hXX⟩ := rdKids_get (rdKids_ext (HE.out.trans hX) ra) hx
                      obtain ⟨yA, ya, yK, yk, f0, f1, f2, f3, f4, f5, hYY⟩ := rdKids_get (rdKids_ext (HE.out.trans hX) rb) hy
                      have HS : Hid (ks = ks2 ↔ x = y ∧ ks.drop (j2 + 1) = ks2.drop (j2 + 1)) := Lib.hid (by rw [← HF.out, drop_at hx, drop_at hy, List.cons.injEq])
                      have hc := ih x y _ _ wr.drew (HKN.out x (List.mem_of_getElem? hx)) (Nd.rd_ext (Ext.refl _).drew hXX) (Nd.rd_ext (Ext.refl _).drew hYY)
                      clear hx hy ra rb HF hXX hYY ih
                      go_wp2_with fail
                      go_still_tail 10, (by kernel_rfl)
                      change wpList _ _ _ _ _ wr.drew
                      go_wp2_with fail
                      refine hc.mono ?_
                      clear hc e0 e1 e2 e3 e4 e5 f0 f1 f2 f3 f4 f5 x5 y5
                      rintro e w4 ⟨r, rfl, ⟨t, rfl, ht⟩, hE5⟩
                      cases t with
                      | false =>
                        have HN : Hid (¬ ((.mk id lf lb ats tx ks : Nd) = .mk id2 lf2 lb2 ats2 tx2 ks2)) := Lib.hid (fun e => absurd (ht.2 (HS.out.1 (HQ.out.2 e).2).1) (by decide))
                        clear ht
                        go_wp2_with fail
                        go_ret
                        exact ret_is (no_is HN.out) (HE.out.trans (hX.drew.trans hE5))
                      | true =>
                        have HF2 : Hid (ks.drop (j2 + 1) = ks2.drop (j2 + 1) ↔ ks = ks2) := Lib.hid (by rw [HS.out]; exact ⟨fun h => ⟨ht.1 rfl, h⟩, fun h => h.2⟩)
                        clear ht
                        go_wp2_with fail
                        go_roundw
                        case rel => exact ⟨j2 + 1, by go_num, by omega, HF2, hX.drew.trans hE5⟩
                        case measure => simp [intOf]; omega
                    · have HN : Hid ((.mk id lf lb ats tx ks : Nd) = .mk id2 lf2 lb2 ats2 tx2 ks2) := Lib.hid (HQ.out.1 ⟨HAE.out, HF.out.1 (by rw [List.drop_eq_nil_of_le hlt2, List.drop_eq_nil_of_le (by have := E_ks.out; omega)])⟩)
                      go_wp2_with fail
                      go_ret
                      exact ret_is (yes_is HN.out) (HE.out.trans hX)
theorem sameNode_any (a b : Nd) (u v : Value) (w : World) (ha : a.rd w u) (hb : b.rd w v) : Calls Try.prog 17 #[u, v] w (Ret w fun r _ => ∃ t : Bool, r = .bool t ∧ (t = true ↔ a = b)) := sameNode_all a.cnt a b u v w (Nat.le_refl _) ha hb
end Go.Proofs.Ytoplaokimahdiaa.Wi
