/- Chapter 04: the statement PathParent. -/
import Derived.Test.YtbabfeepmaipoaaPtWorks
import Derived.Deep.RegionHeld3
namespace Go.Proofs.Ytbabfeepmaipoaa.Pt
open Go.RowKit Go.Proofs.Ytbabfeepmaipoaa.Bw Go.Proofs.Ytbabfeepmaipoaa.Bs

set_option maxRecDepth 100000 in
set_option maxHeartbeats 1000000 in
theorem pChild_any (p : List Int) (i : Int) (v : Value) (w : World) (h : RdI w p v) (hl : p.length ≤ 100000) : Calls Try.prog 23 #[v, .int .i64 i] w (Ret w fun r w' => w'.ownsRow w.heap.size 3 1 r (p ++ [i]).length ((p ++ [i]).map (Value.int .i64))) := by
  have hc := clone_any p v w h (by omega)
  obtain ⟨A, c, rfl, _, _, _, _⟩ := h
  go_enter Try.func23, Try.ntmps23
  go_wp2_with (first
    | (go_at_call 36; refine hc.mono ?_; clear hc; rintro e w1 ⟨r, rfl, hown, hE⟩
       obtain ⟨w2, hw2⟩ : ∃ W, w1.alloc (.cells #[.int .i64 i] 3) = W := ⟨_, rfl⟩
       have hE2 : Ext w1 w2 := by rw [← hw2]; exact (Ext.refl _).alloc _
       have h1 : RdS w2 1 1 [.int .i64 i] (.slice (some ⟨w1.heap.size, 0, none⟩) 1 1) := by rw [← hw2]; exact RdS.one rfl
       have H2 := Lib.hid hw2
       clear hw2)
    | (rw [H2.out]; clear H2)
    | (at_builtin
       refine wpList_append_rd rfl rfl T22 (v := _) (by rfl) (owns_ext hE2 hown) (by rfl) h1 (fun u hu => by rw [List.mem_singleton.1 hu]; rfl) (by omega) (by simp only [maxLen]; omega) (hE.trans hE2).size ?_
       intro v3 w3 hown3 hg3 hat3))
  go_ret
  exact ⟨_, rfl, by simpa using hown3, Ext.grown (hE.trans hE2) hg3 (owns_base hown)⟩
-- parent_is: as parent_any; and whether there is one.
set_option maxRecDepth 100000 in
set_option maxHeartbeats 1000000 in
theorem parent_is (p : List Int) (v : Value) (w : World) (h : RdI w p v) (hlen : p.length ≤ 1000000) : Calls Try.prog 24 #[v] w (Ret w fun r w' => ∃ r', r = .tuple #[r', .int .i64 (lastN p), .bool (decide (0 < p.length))] ∧ w'.ownsRow w.heap.size 3 1 r' p.dropLast.length (p.dropLast.map (Value.int .i64))) := by
  have h0 := h
  obtain ⟨aA, ac, rfl, _, a1, a2, a3⟩ := h0
  unfold maxLen at a2
  rcases Nat.eq_zero_or_pos p.length with hz | hpos
  · obtain rfl : p = [] := List.length_eq_zero_iff.1 hz
    have hd : (((([] : List Int).length : Nat) : Int) == 0) = true := rfl
    simp only [List.length_nil] at hd
    go_enter Try.func24, Try.ntmps24
    go_wp2_with fail
    go_ret3
    exact ⟨_, rfl, ⟨_, rfl, ⟨rfl, .inl ⟨rfl, rfl⟩⟩⟩, Ext.refl w⟩
  · have hne : p ≠ [] := List.length_pos_iff.1 hpos
    obtain ⟨ba, oa, rfl, ra⟩ := a3 hpos
    have e1 := ra (p.length - 1) (.int .i64 (lastN p)) (by rw [List.getElem?_map, last_at hne]; rfl)
    have q1 : (0 : Int) ≤ (p.length : Int) - 1 := by omega
    have q2 : (p.length : Int) - 1 < (p.length : Int) := by omega
    have q3 : ((p.length : Int) - 1).toNat = p.length - 1 := by omega
    have q4 : (p.length : Int) - 1 ≤ (ac : Int) := by omega
    have hd : ((p.length : Int) == 0) = false := by rw [beq_eq_false_iff_ne]; omega
    have r1 : (1 : Int) ≤ (p.length : Int) := by omega
    have r2 : 1 ≤ p.length := by omega
    have r3 : (p.length : Int) ≤ (ac : Int) + 1 := by omega
    have r4 : p.length ≤ ac + 1 := by omega
    have r5 : p.length - 1 ≤ ac := by omega
    have r6 : p.length - 1 < p.length := by omega
    have hc30 : ∀ W, Ext w W → Calls Try.prog 36 #[.slice (some ⟨ba, oa, none⟩) (p.length - 1) ac] W (Ret W fun r w' => w'.ownsRow w.heap.size 3 1 r p.dropLast.length (p.dropLast.map (Value.int .i64))) := fun W hW => by
      have := clone_any (p.take (p.length - 1)) _ W (RdI.take (RdS.ext hW h) (p.length - 1) (by omega)) (by simp; omega)
      rw [dropLast_take] at this
      exact this.mono (by
        rintro e w' ⟨r, rfl, ho, hE⟩
        exact ⟨r, rfl, owns_mono ho hW.size, hE⟩)
    clear ra a3 h
    go_enter Try.func24, Try.ntmps24
    go_wp2_with fail
    go_region_held3 (fun W => Ext w W ∧ W.cell? ⟨ba, oa + (p.length - 1), none⟩ = some (.int .i64 (lastN p))) (first | exact ⟨(Ext.refl w).drew, e1⟩ | exact ⟨E2, E2.cell e1⟩) ((go_at_call 36; have hh := ‹Ext w _ ∧ _›; refine (hc30 _ hh.1).mono ?_; rintro e u ⟨r, rfl, hR, hE⟩; have E2 := Ext.trans hh.1 hE; clear hE))
    go_wp2_with fail
    go_ret3
    exact ⟨_, rfl, ⟨_, by rw [decide_eq_true hpos]; rfl, by assumption⟩, ‹Ext w _ ∧ _›.1⟩
theorem owns_far {W : World} {base e g n cap : Nat} {xs : List Value} (h : W.ownsRow base e 1 (.slice (some ⟨g, 0, none⟩) n cap) n xs) {a : Addr} (ha : a.block ≠ g) (u : Value) : (W.setCell a u).ownsRow base e 1 (.slice (some ⟨g, 0, none⟩) n cap) n xs := by
  refine ⟨h.1, ?_⟩
  rcases h.2 with h2 | ⟨g', cap', cur, hv, hb, hg, r⟩
  · exact .inl h2
  · have hv0 := hv
    simp only [Value.slice.injEq, Option.some.injEq, Addr.mk.injEq, true_and, and_true] at hv0
    obtain ⟨rfl, rfl⟩ := hv0
    exact .inr ⟨g, cap, cur, rfl, hb, (Below.heap_setCell W a u g (fun e0 => ha e0.symm)).trans hg, r⟩
theorem cell_any {W : World} {base g n cap : Nat} {xs : List Value} (h : W.ownsRow base 3 1 (.slice (some ⟨g, 0, none⟩) n cap) n xs) {k : Nat} (hk : k < n) : ∃ x, W.cell? ⟨g, k, none⟩ = some x ∧ W.frozen? ⟨g, k, none⟩ = false := by
  obtain ⟨x, hx⟩ : ∃ x, xs[k]? = some x := ⟨_, List.getElem?_eq_getElem (by have := h.1; omega)⟩
  exact ⟨x, owns_cell h hx⟩
theorem dropLast_snoc (p : List Int) (i : Int) : (p ++ [i]).dropLast = p := by simp
theorem lastN_snoc (p : List Int) (i : Int) : lastN (p ++ [i]) = i := by simp [lastN]

set_option maxRecDepth 100000 in
set_option maxHeartbeats 8000000 in
theorem lawParent (p : List Int) (i : Int) (v : Value) (w : World) (h : RdI w p v) : Calls Try.prog 7 #[v, .int .i64 i] w (Ret w fun r _ => r = .bool true) := by
  have hp := h
  obtain ⟨A, c, rfl, _, a1, a2, a3⟩ := h
  unfold maxLen at a2
  rcases Nat.lt_or_ge 500 p.length with hl | hl
  · have d1 : decide ((500 : Int) < (p.length : Int)) = true := decide_eq_true (by omega)
    have d2 : decide (500 < p.length) = true := decide_eq_true hl
    clear hp a3
    go_enter Try.func7, Try.ntmps7
    go_wp2_with fail
    refine (works_any _).mono ?_
    rintro e u ⟨r, rfl, rfl, hE⟩
    go_wp2_with fail
    go_ret
    exact ret_bool (by rfl) hE
  have d1 : decide ((500 : Int) < (p.length : Int)) = false := decide_eq_false (by omega)
  have d2 : decide (500 < p.length) = false := decide_eq_false (by omega)
  have hc22 := copied_any p _ w hp (by omega)
  go_enter Try.func7, Try.ntmps7
  go_wp2_with fail
  refine hc22.mono ?_
  clear hc22
  rintro e w1 ⟨r, rfl, o1, E1⟩
  obtain ⟨yA, yc, rfl, _⟩ := RdS.of_owns o1
  have ry : RdI w1 p (.slice yA p.length yc) := RdS.of_owns o1
  clear o1
  have hc23 := pChild_any p i _ w1 ry (by omega)
  go_wp2_with fail
  refine hc23.mono ?_
  clear hc23
  rintro e w2 ⟨r, rfl, oc, E2⟩
  have hcl : (p ++ [i]).length = p.length + 1 := by simp
  rw [hcl] at oc
  obtain ⟨gc, cc, rfl, hgc1, hgc2⟩ := World.ownsRow.form oc (by omega)
  have rc : RdI w2 (p ++ [i]) (.slice (some ⟨gc, 0, none⟩) (p.length + 1) cc) := by rw [RdI, hcl]; exact RdS.of_owns oc
  have hc24 := parent_is (p ++ [i]) _ w2 rc (by omega)
  rw [dropLast_snoc, lastN_snoc, show decide (0 < (p ++ [i]).length) = true from decide_eq_true (by omega)] at hc24
  go_wp2_with fail
  refine hc24.mono ?_
  clear hc24
  rintro e w3 ⟨r, rfl, ⟨qv, rfl, oq⟩, E3⟩
  obtain ⟨qA, qc, rfl, _⟩ := RdS.of_owns oq
  have oq3 := oq
  have hc24 := parent_is p _ w3 (RdS.ext (E2.trans E3) ry) (by omega)
  go_wp2_with fail
  refine hc24.mono ?_
  clear hc24
  rintro e w4 ⟨r, rfl, ⟨xv, rfl, ox⟩, E4⟩
  obtain ⟨xA, xc, rfl, _⟩ := RdS.of_owns ox
  have hdl : p.dropLast.length = p.length - 1 := by simp
  rw [hdl] at ox
  have hsx := E3.size
  have E34 := E3.trans E4
  replace oc := owns_ext E34 oc
  replace oq := owns_ext E4 oq
  have E14 := E2.trans E34
  have hc26 := child_any p i _ w4 (RdS.ext (E1.trans E14) hp) (by omega)
  go_wp2_with fail
  refine hc26.mono ?_
  clear hc26
  rintro e w5 ⟨r, rfl, od, E5⟩
  rw [hcl] at od
  obtain ⟨gd, gdc, rfl, _, _⟩ := World.ownsRow.form od (by omega)
  have rd5 : RdI w5 (p ++ [i]) (.slice (some ⟨gd, 0, none⟩) (p.length + 1) gdc) := by rw [RdI, hcl]; exact RdS.of_owns od
  have hc25 := sameInts_any (p ++ [i]) (p ++ [i]) _ _ w5 (RdS.ext (E34.trans E5) rc) rd5
  rw [show decide (p ++ [i] = p ++ [i]) = true from decide_eq_true rfl] at hc25
  go_wp2_with fail
  refine hc25.mono ?_
  clear hc25 od rd5 rc
  rintro e w6 ⟨r, rfl, rfl, E6⟩
  have E46 := E5.trans E6
  have E16 := E14.trans E46
  have ii : (i != i) = false := by simp
  have hc25 := sameInts_any p p _ _ w6 (RdS.ext E46 (RdS.of_owns oq)) (RdS.ext (E1.trans E16) hp)
  rw [show decide (p = p) = true from decide_eq_true rfl] at hc25
  replace oc := owns_ext E46 oc
  replace oq := owns_ext E46 oq
  replace ox := owns_ext E46 ox
  have hgq : ∀ g, qA = some ⟨g, 0, none⟩ → w2.heap.size ≤ g ∧ g < w3.heap.size := fun g hg => by
    subst hg
    exact oq3.lt g rfl
  rcases Nat.eq_zero_or_pos p.length with hz | hz
  · have t1 : decide (0 < p.length) = false := decide_eq_false (by omega)
    have t2 : decide ((0 : Int) < (p.length : Int)) = false := decide_eq_false (by omega)
    have t3 : decide (0 < p.length - 1) = false := decide_eq_false (by omega)
    have t4 : decide ((0 : Int) < ((p.length - 1 : Nat) : Int)) = false := decide_eq_false (by omega)
    have tt : (false != false) = false := rfl
    have hm0 : lastN p = 0 := by rw [List.length_eq_zero_iff.1 hz]; rfl
    have mm : (lastN p != 0) = false := by rw [hm0]; rfl
    have hzz := Lib.hid hz
    clear hz hm0
    go_wp2_with fail
    refine hc25.mono ?_
    clear hc25
    rintro e w7 ⟨r, rfl, rfl, E7⟩
    have EW := E16.trans E7
    replace oc := owns_ext E7 oc
    replace oq := owns_ext E7 oq
    replace ox := owns_ext E7 ox
    go_wp2_with fail
    go_loopw [13] (fun s13 wr => ∃ (k : Nat) (ys : List Value), s13 = .int .i64 k ∧ k ≤ p.length ∧ wr.ownsRow w2.heap.size 3 1 (.slice qA p.length qc) p.length ys ∧ wr.ownsRow w3.heap.size 3 1 (.slice xA (p.length - 1) xc) (p.length - 1) (p.dropLast.map (Value.int .i64)) ∧ wr.ownsRow w1.heap.size 3 1 (.slice (some ⟨gc, 0, none⟩) (p.length + 1) cc) (p.length + 1) ((p ++ [i]).map (Value.int .i64)) ∧ (∀ g, qA = some ⟨g, 0, none⟩ → w2.heap.size ≤ g ∧ g < w3.heap.size) ∧ Ext w1 wr) (fun k _ => p.length - (intOf k).toNat)
    case atStart => exact ⟨0, _, rfl, Nat.zero_le _, oq, ox, oc, hgq, EW⟩
    case round =>
      obtain ⟨k, ys, rfl, hk, oq, ox, oc, hgq, hX⟩ := hrel
      have q1 : (0 : Int) ≤ (k : Int) := by omega
      rcases Nat.lt_or_ge k p.length with hlt | hlt
      · have q2 : (k : Int) < (p.length : Int) := by omega
        obtain ⟨g, gcap, hsl, _, _⟩ := World.ownsRow.form oq (by omega)
        simp only [Value.slice.injEq, true_and] at hsl
        obtain ⟨rfl, rfl⟩ := hsl
        obtain ⟨hg1, hg2⟩ := hgq g rfl
        obtain ⟨x, c1, c2⟩ := cell_any oq hlt
        go_wp2_with fail
        go_roundw
        case rel => exact ⟨k + 1, _, by go_num, by omega, owns_setAt oq k _, ownsRow_setCell_below ox (a := ⟨g, k, none⟩) hg2 _, owns_far oc (a := ⟨g, k, none⟩) (by show g ≠ gc; omega) _, hgq, Below.setCell hX (p := ⟨g, k, none⟩) (show w1.heap.size ≤ g by omega) _⟩
        case measure => simp [intOf]; omega
      · have q2 : decide ((k : Int) < (p.length : Int)) = false := decide_eq_false (by omega)
        have q2' : decide (k < p.length) = false := decide_eq_false (by omega)
        go_wp2_with fail
        go_loopw [14] (fun s14 wq => ∃ (j : Nat) (ys : List Value), s14 = .int .i64 j ∧ j ≤ p.length - 1 ∧ wq.ownsRow w3.heap.size 3 1 (.slice xA (p.length - 1) xc) (p.length - 1) ys ∧ wq.ownsRow w1.heap.size 3 1 (.slice (some ⟨gc, 0, none⟩) (p.length + 1) cc) (p.length + 1) ((p ++ [i]).map (Value.int .i64)) ∧ Ext w1 wq) (fun j _ => p.length - 1 - (intOf j).toNat)
        case atStart => exact ⟨0, _, rfl, Nat.zero_le _, ox, oc, hX⟩
        case round =>
          obtain ⟨j, zs, rfl, hj, ox, oc, hY⟩ := hrel
          have q3 : (0 : Int) ≤ (j : Int) := by omega
          rcases Nat.lt_or_ge j (p.length - 1) with hlt2 | hlt2
          · have q4 : (j : Int) < ((p.length - 1 : Nat) : Int) := by omega
            obtain ⟨g, gcap, hsl, hg1, _⟩ := World.ownsRow.form ox (by omega)
            simp only [Value.slice.injEq, true_and] at hsl
            obtain ⟨rfl, rfl⟩ := hsl
            obtain ⟨x, c1, c2⟩ := cell_any ox hlt2
            go_wp2_with fail
            go_roundw
            case rel => exact ⟨j + 1, _, by go_num, by omega, owns_setAt ox j _, owns_far oc (a := ⟨g, j, none⟩) (by show g ≠ gc; omega) _, Below.setCell hY (p := ⟨g, j, none⟩) (show w1.heap.size ≤ g by omega) _⟩
            case measure => simp [intOf]; omega
          · have q4 : decide ((j : Int) < ((p.length - 1 : Nat) : Int)) = false := decide_eq_false (by omega)
            have q4' : decide (j < p.length - 1) = false := decide_eq_false (by omega)
            obtain ⟨x, c1, c2⟩ := cell_any oc (k := 0) (by omega)
            have z1 : (0 : Int) < ((p.length + 1 : Nat) : Int) := by omega
            have z2 : 0 < p.length + 1 := by omega
            have hF := Below.setCell hY (p := ⟨gc, 0, none⟩) hgc1 (.int .i64 (-7))
            have hcF := sameInts_any p p _ _ (wr.setCell ⟨gc, 0, none⟩ (.int .i64 (-7))) (RdS.ext hF ry) (RdS.ext (E1.trans hF) hp)
            rw [show decide (p = p) = true from decide_eq_true rfl] at hcF
            go_wp2_with fail
            refine hcF.mono ?_
            clear hcF
            rintro e w9 ⟨r, rfl, rfl, E9⟩
            go_wp2_with fail
            refine (works_any _).mono ?_
            rintro e wa ⟨r, rfl, rfl, Ea⟩
            go_wp2_with fail
            go_ret
            exact ret_bool (by rfl) (((E1.trans hF).trans E9).trans Ea)
  · have t1 : decide (0 < p.length) = true := decide_eq_true hz
    have t2 : decide ((0 : Int) < (p.length : Int)) = true := decide_eq_true (by omega)
    have hne : p ≠ [] := List.length_pos_iff.1 hz
    have tt : (true != true) = false := rfl
    obtain ⟨ba, oa, rfl, ra⟩ := a3 hz
    have e0 := ra (p.length - 1) (.int .i64 (lastN p)) (by rw [List.getElem?_map, last_at hne]; rfl)
    clear ra a3
    have q0 : (0 : Int) ≤ (p.length : Int) - 1 := by omega
    have q5 : (p.length : Int) - 1 < (p.length : Int) := by omega
    have q6 : ((p.length : Int) - 1).toNat = p.length - 1 := by omega
    have q7 : (p.length : Int) - 1 ≤ (c : Int) := by omega
    have r1 : (1 : Int) ≤ (p.length : Int) := by omega
    have r2 : 1 ≤ p.length := by omega
    have r3 : (p.length : Int) ≤ (c : Int) + 1 := by omega
    have r4 : p.length ≤ c + 1 := by omega
    have r5 : p.length - 1 ≤ c := by omega
    have r6 : p.length - 1 < p.length := by omega
    have mm : (lastN p != lastN p) = false := by simp
    have hpp := Lib.hid hp
    clear hp
    go_wp2_with fail
    refine hc25.mono ?_
    clear hc25
    rintro e w7 ⟨r, rfl, rfl, E7⟩
    have E17 := E16.trans E7
    have e7 := (E1.trans E17).cell e0
    have hc25 := sameInts_any p.dropLast p.dropLast _ _ w7 (by rw [RdI, hdl]; exact RdS.ext E7 (RdS.of_owns ox)) (by have := RdI.take (RdS.ext (E1.trans E17) hpp.out) (p.length - 1) (by omega); rw [dropLast_take] at this; exact this)
    rw [show decide (p.dropLast = p.dropLast) = true from decide_eq_true rfl] at hc25
    go_wp2_with fail
    refine hc25.mono ?_
    clear hc25
    rintro e w8 ⟨r, rfl, rfl, E8⟩
    have E78 := E7.trans E8
    have EW := E16.trans E78
    replace oc := owns_ext E78 oc
    replace oq := owns_ext E78 oq
    replace ox := owns_ext E78 ox
    have hp := hpp.out
    go_wp2_with fail
    go_loopw [13] (fun s13 wr => ∃ (k : Nat) (ys : List Value), s13 = .int .i64 k ∧ k ≤ p.length ∧ wr.ownsRow w2.heap.size 3 1 (.slice qA p.length qc) p.length ys ∧ wr.ownsRow w3.heap.size 3 1 (.slice xA (p.length - 1) xc) (p.length - 1) (p.dropLast.map (Value.int .i64)) ∧ wr.ownsRow w1.heap.size 3 1 (.slice (some ⟨gc, 0, none⟩) (p.length + 1) cc) (p.length + 1) ((p ++ [i]).map (Value.int .i64)) ∧ (∀ g, qA = some ⟨g, 0, none⟩ → w2.heap.size ≤ g ∧ g < w3.heap.size) ∧ Ext w1 wr) (fun k _ => p.length - (intOf k).toNat)
    case atStart => exact ⟨0, _, rfl, Nat.zero_le _, oq, ox, oc, hgq, EW⟩
    case round =>
      obtain ⟨k, ys, rfl, hk, oq, ox, oc, hgq, hX⟩ := hrel
      have q1 : (0 : Int) ≤ (k : Int) := by omega
      rcases Nat.lt_or_ge k p.length with hlt | hlt
      · have q2 : (k : Int) < (p.length : Int) := by omega
        obtain ⟨g, gcap, hsl, _, _⟩ := World.ownsRow.form oq (by omega)
        simp only [Value.slice.injEq, true_and] at hsl
        obtain ⟨rfl, rfl⟩ := hsl
        obtain ⟨hg1, hg2⟩ := hgq g rfl
        obtain ⟨x, c1, c2⟩ := cell_any oq hlt
        go_wp2_with fail
        go_roundw
        case rel => exact ⟨k + 1, _, by go_num, by omega, owns_setAt oq k _, ownsRow_setCell_below ox (a := ⟨g, k, none⟩) hg2 _, owns_far oc (a := ⟨g, k, none⟩) (by show g ≠ gc; omega) _, hgq, Below.setCell hX (p := ⟨g, k, none⟩) (show w1.heap.size ≤ g by omega) _⟩
        case measure => simp [intOf]; omega
      · have q2 : decide ((k : Int) < (p.length : Int)) = false := decide_eq_false (by omega)
        have q2' : decide (k < p.length) = false := decide_eq_false (by omega)
        go_wp2_with fail
        go_loopw [14] (fun s14 wq => ∃ (j : Nat) (ys : List Value), s14 = .int .i64 j ∧ j ≤ p.length - 1 ∧ wq.ownsRow w3.heap.size 3 1 (.slice xA (p.length - 1) xc) (p.length - 1) ys ∧ wq.ownsRow w1.heap.size 3 1 (.slice (some ⟨gc, 0, none⟩) (p.length + 1) cc) (p.length + 1) ((p ++ [i]).map (Value.int .i64)) ∧ Ext w1 wq) (fun j _ => p.length - 1 - (intOf j).toNat)
        case atStart => exact ⟨0, _, rfl, Nat.zero_le _, ox, oc, hX⟩
        case round =>
          obtain ⟨j, zs, rfl, hj, ox, oc, hY⟩ := hrel
          have q3 : (0 : Int) ≤ (j : Int) := by omega
          rcases Nat.lt_or_ge j (p.length - 1) with hlt2 | hlt2
          · have q4 : (j : Int) < ((p.length - 1 : Nat) : Int) := by omega
            obtain ⟨g, gcap, hsl, hg1, _⟩ := World.ownsRow.form ox (by omega)
            simp only [Value.slice.injEq, true_and] at hsl
            obtain ⟨rfl, rfl⟩ := hsl
            obtain ⟨x, c1, c2⟩ := cell_any ox hlt2
            go_wp2_with fail
            go_roundw
            case rel => exact ⟨j + 1, _, by go_num, by omega, owns_setAt ox j _, owns_far oc (a := ⟨g, j, none⟩) (by show g ≠ gc; omega) _, Below.setCell hY (p := ⟨g, j, none⟩) (show w1.heap.size ≤ g by omega) _⟩
            case measure => simp [intOf]; omega
          · have q4 : decide ((j : Int) < ((p.length - 1 : Nat) : Int)) = false := decide_eq_false (by omega)
            have q4' : decide (j < p.length - 1) = false := decide_eq_false (by omega)
            obtain ⟨x, c1, c2⟩ := cell_any oc (k := 0) (by omega)
            have z1 : (0 : Int) < ((p.length + 1 : Nat) : Int) := by omega
            have z2 : 0 < p.length + 1 := by omega
            have hF := Below.setCell hY (p := ⟨gc, 0, none⟩) hgc1 (.int .i64 (-7))
            have hcF := sameInts_any p p _ _ (wr.setCell ⟨gc, 0, none⟩ (.int .i64 (-7))) (RdS.ext hF ry) (RdS.ext (E1.trans hF) hp)
            rw [show decide (p = p) = true from decide_eq_true rfl] at hcF
            go_wp2_with fail
            refine hcF.mono ?_
            clear hcF
            rintro e w9 ⟨r, rfl, rfl, E9⟩
            go_wp2_with fail
            refine (works_any _).mono ?_
            rintro e wa ⟨r, rfl, rfl, Ea⟩
            go_wp2_with fail
            go_ret
            exact ret_bool (by rfl) (((E1.trans hF).trans E9).trans Ea)
end Go.Proofs.Ytbabfeepmaipoaa.Pt
