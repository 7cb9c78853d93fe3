/- Chapter 17: which lists are the same; which text begins another one. -/
import Derived.Test.YtoplaokimahdiaaWiSame
namespace Go.Proofs.Ytoplaokimahdiaa.Wi
open Go.RowKit Go.Proofs.Ytoplaokimahdiaa.Bw Go.Proofs.Ytoplaokimahdiaa.Bs

set_option maxRecDepth 100000 in
set_option maxHeartbeats 2000000 in
theorem sameList_any (l m : List OpD) (u v : Value) (w : World) (ha : RdL w l u) (hb : RdL w m v) : Calls Try.prog 15 #[u, v] w (Ret w fun r _ => ∃ t : Bool, r = .bool t ∧ (t = true ↔ l = m)) := by
  obtain ⟨A, ac, rfl, a1, a2, a3⟩ := ha
  obtain ⟨B, bc, rfl, b1, b2, b3⟩ := hb
  unfold maxLen at a2 b2
  cases hl : ((l.length : Int) == (m.length : Int)) with
  | false =>
    have hn : ((l.length : Int) != (m.length : Int)) = true := by rw [bne, hl]; rfl
    have HN : Hid (¬ l = m) := Lib.hid (fun e => by rw [e] at hl; simp at hl)
    clear a3 b3
    go_enter Try.func15, Try.ntmps15
    go_wp2_with fail
    go_ret
    exact ret_is (no_is HN.out) (Ext.refl w)
  | true =>
    have hn : ((l.length : Int) != (m.length : Int)) = false := by rw [bne, hl]; rfl
    have HL : Hid (l.length = m.length) := Lib.hid (by have := beq_iff_eq.1 hl; omega)
    have HA := Lib.hid a3
    have HB := Lib.hid b3
    clear a3 b3
    go_enter Try.func15, Try.ntmps15
    go_wp2_with fail
    go_loopw [5] (fun s5 wr => ∃ j : Nat, s5 = .int .i64 (j : Int) ∧ j ≤ l.length ∧ Hid (l.drop j = m.drop j ↔ l = m) ∧ Ext w wr) (fun j _ => l.length - (intOf j).toNat)
    case atStart => exact ⟨0, rfl, Nat.zero_le _, Lib.hid Iff.rfl, Ext.refl _⟩
    case round =>
      obtain ⟨j, rfl, hj, HF, hX⟩ := hrel
      clear hl hn
      have q1 : (0 : Int) ≤ (j : Int) := by omega
      rcases Nat.lt_or_ge j l.length with hlt | hlt
      · have q2 : (j : Int) < (l.length : Int) := by omega
        have q3 : (j : Int) < (m.length : Int) := by have := HL.out; omega
        obtain ⟨x, hx⟩ : ∃ x, l[j]? = some x := ⟨_, List.getElem?_eq_getElem hlt⟩
        obtain ⟨y, hy⟩ : ∃ y, m[j]? = some y := ⟨_, List.getElem?_eq_getElem (by omega)⟩
        obtain ⟨ba, oa, rfl, ra⟩ := HA.out (by omega)
        obtain ⟨bb, ob, rfl, rb⟩ := HB.out (by omega)
        obtain ⟨⟨pv, tv, cv, x0, x1, x2, x3, x4, x5, x6, x7, x8, x9, x10, HXV⟩, -⟩ := rdOps_at (rdOps_ext hX ra) hx
        obtain ⟨⟨pv2, tv2, cv2, y0, y1, y2, y3, y4, y5, y6, y7, y8, y9, y10, HYV⟩, -⟩ := rdOps_at (rdOps_ext hX rb) hy
        have hc := sameOp_any x y _ _ wr.drew (OpD.rd_ext (Ext.refl _).drew HXV) (OpD.rd_ext (Ext.refl _).drew HYV)
        have HS : Hid (l = m ↔ x = y ∧ l.drop (j + 1) = m.drop (j + 1)) := Lib.hid (by rw [← HF.out, drop_at hx, drop_at hy, List.cons.injEq])
        obtain ⟨pv', tv', cv', he, ⟨pA, pc, hpe, -⟩, ⟨tA, tc, hte, -⟩, ⟨cA, cc, hce, -⟩, -⟩ := id HXV
        simp only [Value.agg.injEq, Array.mk.injEq, List.cons.injEq, and_true, true_and] at he
        obtain ⟨rfl, rfl, rfl⟩ := he
        subst hpe hte hce
        obtain ⟨pv', tv', cv', he, ⟨pA2, pc2, hpe, -⟩, ⟨tA2, tc2, hte, -⟩, ⟨cA2, cc2, hce, -⟩, -⟩ := id HYV
        simp only [Value.agg.injEq, Array.mk.injEq, List.cons.injEq, and_true, true_and] at he
        obtain ⟨rfl, rfl, rfl⟩ := he
        subst hpe hte hce
        clear hx hy ra rb HF HXV HYV
        go_wp2_with fail
        go_still_tail 8, (by kernel_rfl)
        change wpList _ _ _ _ _ wr.drew
        go_wp2_with fail
        refine hc.mono ?_
        clear hc x0 x1 x2 x3 x4 x5 x6 x7 x8 x9 x10 y0 y1 y2 y3 y4 y5 y6 y7 y8 y9 y10
        rintro e w4 ⟨r, rfl, ⟨t, rfl, ht⟩, hE5⟩
        cases t with
        | false =>
          have HN : Hid (¬ l = m) := Lib.hid (fun e => absurd (ht.2 (HS.out.1 e).1) (by decide))
          clear ht
          go_wp2_with fail
          go_ret
          exact ret_is (no_is HN.out) (hX.drew.trans hE5)
        | true =>
          have HF2 : Hid (l.drop (j + 1) = m.drop (j + 1) ↔ l = m) := Lib.hid (by rw [HS.out]; exact ⟨fun h => ⟨ht.1 rfl, h⟩, fun h => h.2⟩)
          clear ht
          go_wp2_with fail
          go_roundw
          case rel => exact ⟨j + 1, by go_num, by omega, HF2, hX.drew.trans hE5⟩
          case measure => simp [intOf]; omega
      · have HN : Hid (l = m) := Lib.hid (HF.out.1 (by rw [List.drop_eq_nil_of_le hlt, List.drop_eq_nil_of_le (by have := HL.out; omega)]))
        go_wp2_with fail
        go_ret
        exact ret_is (yes_is HN.out) hX
set_option maxRecDepth 100000 in
theorem begins_any (a b : ByteArray) (w : World) : Calls Try.prog 14 #[.string a, .string b] w fun e w' => e = .returned (.bool (decide (a.size ≤ b.size) && ((b.extract 0 a.size).toList == a.toList))) ∧ w = w' := by

  by_cases h : a.size ≤ b.size
  · have t1 : decide ((a.size : Int) ≤ (b.size : Int)) = true := decide_eq_true (by omega)
    rw [decide_eq_true h, Bool.true_and]
    go_enter Try.func14, Try.ntmps14
    go_wp2_with fail
    go_ret

    exact ⟨rfl, rfl⟩
  · have t1 : decide ((a.size : Int) ≤ (b.size : Int)) = false := decide_eq_false (by omega)
    rw [decide_eq_false h, Bool.false_and]
    go_enter Try.func14, Try.ntmps14
    go_wp2_with fail
    go_ret
    exact ⟨rfl, rfl⟩
end Go.Proofs.Ytoplaokimahdiaa.Wi
