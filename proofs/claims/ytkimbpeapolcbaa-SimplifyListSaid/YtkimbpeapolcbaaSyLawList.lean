/- Chapter 10: same (15) of two lists that are alike; rows of the call's own, written. (Printed by gsylawp.py.) -/
import Derived.Test.YtkimbpeapolcbaaSyOuSameG
import Derived.Test.YtkimbpeapolcbaaSyOuSame
import Derived.Test.YtkimbpeapolcbaaSyWorks
import Derived.Test.YtkimbpeapolcbaaSyListR
namespace Go.Proofs.Ytkimbpeapolcbaa.Sy
open Go.RowKit Go.Proofs.Ytkimbpeapolcbaa.Bw Go.Proofs.Ytkimbpeapolcbaa.Bs

theorem owns_cellN {W : World} {base e g n cap sz : Nat} {xs : List Value} (h : W.ownsRow base e sz (.slice (some ⟨g, 0, none⟩) n cap) n xs) {i : Nat} {u : Value} (hu : xs[i]? = some u) : W.cell? ⟨g, i, none⟩ = some u ∧ W.frozen? ⟨g, i, none⟩ = false := by
  refine ⟨by have := h.cells (g := g) rfl i u hu; rwa [Addr.add_lit, Nat.zero_add] at this, ?_⟩
  rcases h.2 with ⟨h1, _⟩ | ⟨g', cap', cur, hv, _, hg, _⟩
  · cases h1
  · simp only [Value.slice.injEq, Option.some.injEq, Addr.mk.injEq, true_and, and_true] at hv
    obtain ⟨rfl, rfl⟩ := hv
    simp [World.frozen?, hg]
theorem owns_setAtN {W : World} {base e g n cap sz : Nat} {xs : List Value} (h : W.ownsRow base e sz (.slice (some ⟨g, 0, none⟩) n cap) n xs) (i : Nat) (u : Value) : (W.setCell ⟨g, i, none⟩ u).ownsRow base e sz (.slice (some ⟨g, 0, none⟩) n cap) n (xs.set i u) := by
  refine ⟨by simpa using h.1, ?_⟩
  rcases h.2 with ⟨h1, _⟩ | ⟨g', cap', cur, hv, hb, hg, h4, h5, h6, h7⟩
  · cases h1
  · have hv0 := hv
    simp only [Value.slice.injEq, Option.some.injEq, Addr.mk.injEq, true_and, and_true] at hv0
    obtain ⟨rfl, rfl⟩ := hv0
    refine .inr ⟨g, cap, cur.setIfInBounds i u, rfl, hb, ?_, h4, h5, by simpa using h6, ?_⟩
    · simp [World.setCell, Array.getElem?_modify, hg]
    · rw [Array.toList_setIfInBounds, List.take_set, h7]
set_option maxRecDepth 100000 in
set_option maxHeartbeats 4000000 in
theorem same15_ls (l : List OpD) (u v : Value) (w : World) (hu : RdL w l u) (hv : RdL w l v) (hl : ∀ o ∈ l, OkLen o) : Calls Try.prog 15 #[u, v] w (Ret w fun r _ => r = .bool true) := by
  obtain ⟨A, ac, rfl, a1, a2, -⟩ := id hu
  obtain ⟨B, bc, rfl, b1, b2, -⟩ := id hv
  have HU := Lib.hid hu
  have HV := Lib.hid hv
  have HL := Lib.hid hl
  unfold maxLen at a2 b2
  clear hu hv hl
  go_enter Try.func15, Try.ntmps15
  go_wp2_with fail
  go_loopw [5] (fun s5 wr => ∃ i : Nat, s5 = .int .i64 (i : Int) ∧ i ≤ l.length ∧ Hid (Ext w wr)) (fun s5 _ => l.length - (intOf s5).toNat)
  case atStart => exact ⟨0, rfl, by omega, Lib.hid (Ext.refl w)⟩
  case round =>
    obtain ⟨i, rfl, hi, HE⟩ := hrel
    rcases Nat.lt_or_ge i l.length with hlt | hlt
    · obtain ⟨o, ho⟩ : ∃ o, l[i]? = some o := ⟨_, List.getElem?_eq_getElem hlt⟩
      obtain ⟨ba, oa, pv, tv, cv, rfl, r1, c0, c1, c2, c3, c4, c5, c6, c7, c8, c9, c10⟩ := lsame_at (HU.out.ext HE.out) ho
      obtain ⟨bb, ob, qv, rv, dv, rfl, r2, d0, d1, d2, d3, d4, d5, d6, d7, d8, d9, d10⟩ := lsame_at (HV.out.ext HE.out) ho
      have hol := HL.out o (List.mem_of_getElem? ho)
      have hc := same36_eq o o _ _ wr.drew (OpD.rd_ext (Ext.refl _).drew r1) (OpD.rd_ext (Ext.refl _).drew r2) rfl hol hol
      obtain ⟨pA, pc, tA, tc, cA, cc, he⟩ := OpD.rd_cells r1
      simp only [Value.agg.injEq, Array.mk.injEq, List.cons.injEq, true_and, and_true] at he
      obtain ⟨rfl, rfl, rfl⟩ := he
      obtain ⟨qA, qc, rA, rc, dA, dc, he⟩ := OpD.rd_cells r2
      simp only [Value.agg.injEq, Array.mk.injEq, List.cons.injEq, true_and, and_true] at he
      obtain ⟨rfl, rfl, rfl⟩ := he
      have q1 : (0 : Int) ≤ (i : Int) := by omega
      have q2 : (i : Int) < (l.length : Int) := by omega
      clear r1 r2 ho hol
      go_wp2_with fail
      go_still_tail 8, (by kernel_rfl)
      change wpList _ _ _ _ _ wr.drew
      go_wp2_with fail
      refine hc.mono ?_
      clear hc c0 c1 c2 c3 c4 c5 c6 c7 c8 c9 c10 d0 d1 d2 d3 d4 d5 d6 d7 d8 d9 d10
      rintro e w4 ⟨r, rfl, rfl, hE5⟩
      go_wp2_with fail
      go_roundw
      case rel => exact ⟨i + 1, by go_num, by omega, Lib.hid (HE.out.drew.trans hE5)⟩
      case measure => simp [intOf]; omega
    · go_wp2_with fail
      go_ret
      exact ⟨_, rfl, rfl, HE.out⟩
end Go.Proofs.Ytkimbpeapolcbaa.Sy
namespace Go.Proofs.Ytkimbpeapolcbaa.Sy
open Go.RowKit Go.Proofs.Ytkimbpeapolcbaa.Bw Go.Proofs.Ytkimbpeapolcbaa.Bs

theorem redF_okl : ∀ (k : Nat) (s : List OpD), (∀ o ∈ s, OkLen o) → ∀ o ∈ redF k s, OkLen o
  | 0, s, h => by unfold redF; exact h
  | k + 1, [], h => by rw [redF_small _ (by simp)]; exact h
  | k + 1, [y], h => by rw [redF_small _ (by simp)]; exact h
  | k + 1, y :: x :: r, h => by
    rw [redF_two]
    cases hp : pairD x y with
    | none => exact h
    | some l =>
      refine redF_okl k _ (fun o ho => ?_)
      rcases List.mem_append.1 ho with ho | ho
      · exact (pairD_ok hp (h x (List.mem_cons_of_mem _ (List.mem_cons_self ..))) (h y (List.mem_cons_self ..))).2 o (List.mem_reverse.1 ho)
      · exact h o (List.mem_cons_of_mem _ (List.mem_cons_of_mem _ ho))
theorem steps_okl : ∀ (l s : List OpD), (∀ o ∈ s, OkLen o) → (∀ o ∈ l, OkLen o) → ∀ o ∈ stepsD s l, OkLen o
  | [], s, h, _ => h
  | o :: l, s, h, hl => by
    rw [stepsD_cons]
    refine steps_okl l _ ?_ (fun q hq => hl q (List.mem_cons_of_mem _ hq))
    unfold stepD
    cases hi : idleD o with
    | true => exact h
    | false =>
      refine redF_okl _ _ (fun q hq => ?_)
      rcases List.mem_cons.1 hq with rfl | hq
      · exact bareD_len2 (hl o (List.mem_cons_self ..))
      · exact h q hq
theorem list_okl {l : List OpD} (h : ∀ o ∈ l, OkLen o) : ∀ o ∈ listD l, OkLen o := fun o ho => steps_okl l [] (fun _ ho => absurd ho List.not_mem_nil) h o (List.mem_reverse.1 ho)
theorem tot_light : ∀ (l : List OpD), (∀ o ∈ l, LightD o) → totD l ≤ 300 * (l.length : Int)
  | [], _ => by simp [totD]
  | o :: r, h => by
    have h1 := tot_light r (fun q hq => h q (List.mem_cons_of_mem _ hq))
    have h2 := (h o (List.mem_cons_self ..)).sum
    rw [List.length_cons]
    simp only [totD]
    omega
set_option maxRecDepth 100000 in
set_option maxHeartbeats 4000000 in
theorem few_any (l : List OpD) (v : Value) (w : World) (h : RdL w l v) : Calls Try.prog 17 #[v] w (Ret w fun r _ => ∃ b, r = .bool b ∧ (b = true → l.length ≤ 30 ∧ ∀ o ∈ l, LightD o)) := by
  obtain ⟨A, ac, rfl, a1, a2, -⟩ := id h
  have HU := Lib.hid h
  unfold maxLen at a2
  clear h
  rcases Nat.lt_or_ge 30 l.length with h1 | h1
  · have t1 : decide ((30 : Int) < (l.length : Int)) = true := decide_eq_true (by omega)
    go_enter Try.func17, Try.ntmps17
    go_wp2_with fail
    go_ret
    exact ⟨_, rfl, ⟨false, rfl, fun h => Bool.noConfusion h⟩, Ext.refl w⟩
  have t1 : decide ((30 : Int) < (l.length : Int)) = false := decide_eq_false (by omega)
  go_enter Try.func17, Try.ntmps17
  go_wp2_with fail
  go_loopw [3] (fun s3 wr => ∃ i : Nat, s3 = .int .i64 (i : Int) ∧ i ≤ l.length ∧ Hid (Ext w wr) ∧ Hid (∀ o ∈ l.take i, LightD o)) (fun s3 _ => l.length - (intOf s3).toNat)
  case atStart => exact ⟨0, rfl, by omega, Lib.hid (Ext.refl w), Lib.hid (fun o ho => absurd ho (by simp))⟩
  case round =>
    obtain ⟨i, rfl, hi, HE, HF⟩ := hrel
    rcases Nat.lt_or_ge i l.length with hlt | hlt
    · obtain ⟨o, ho⟩ : ∃ o, l[i]? = some o := ⟨_, List.getElem?_eq_getElem hlt⟩
      obtain ⟨ba, oa, pv, tv, cv, rfl, r1, c0, c1, c2, c3, c4, c5, c6, c7, c8, c9, c10⟩ := lsame_at (HU.out.ext HE.out) ho
      have hc := light8_any o _ wr r1
      obtain ⟨pA, pc, tA, tc, cA, cc, he, -, -, -⟩ := rdO_cells r1
      simp only [Value.agg.injEq, Array.mk.injEq, List.cons.injEq, true_and, and_true] at he
      obtain ⟨rfl, rfl, rfl⟩ := he
      have HTK := Lib.hid (show l.take (i + 1) = l.take i ++ [o] from by rw [List.take_add_one, ho]; rfl)
      have q1 : (0 : Int) ≤ (i : Int) := by omega
      have q2 : (i : Int) < (l.length : Int) := by omega
      clear r1 ho
      go_wp2_with fail
      refine hc.mono ?_
      clear hc c0 c1 c2 c3 c4 c5 c6 c7 c8 c9 c10
      rintro e w4 ⟨r, rfl, ⟨b, rfl, hb⟩, hE⟩
      have HE' := Lib.hid (HE.out.trans hE)
      clear hE
      cases b with
      | false =>
        clear hb
        go_wp2_with fail
        go_ret
        exact ⟨_, rfl, ⟨false, rfl, fun h => Bool.noConfusion h⟩, HE'.out⟩
      | true =>
        have HB := Lib.hid (hb rfl)
        clear hb
        have HF' : Hid (∀ q ∈ l.take (i + 1), LightD q) := Lib.hid (by
          rw [HTK.out]
          intro q hq
          rcases List.mem_append.1 hq with hq | hq
          · exact HF.out q hq
          · rw [List.mem_singleton] at hq; subst hq; exact HB.out)
        go_wp2_with fail
        go_roundw
        case rel => exact ⟨i + 1, by go_num, by omega, HE', HF'⟩
        case measure => simp [intOf]; omega
    · have HA : Hid (∀ o ∈ l, LightD o) := Lib.hid (by have := HF.out; rw [List.take_of_length_le hlt] at this; exact this)
      go_wp2_with fail
      go_ret
      exact ⟨_, rfl, ⟨true, rfl, fun _ => ⟨h1, HA.out⟩⟩, HE.out⟩
set_option maxRecDepth 100000 in
set_option maxHeartbeats 4000000 in
theorem lawList (l : List OpD) (v : Value) (w : World) (h : RdL w l v) : Calls Try.prog 5 #[v] w (Ret w fun r _ => r = .bool true) := by
  obtain ⟨A, ac, rfl, a1, a2, -⟩ := id h
  have HU := Lib.hid h
  have hc := few_any l _ w h
  clear h
  go_enter Try.func5, Try.ntmps5
  go_wp2_with fail
  refine hc.mono ?_
  clear hc
  rintro e w1 ⟨r, rfl, ⟨b, rfl, hb⟩, hE⟩
  have HE := Lib.hid hE
  clear hE
  cases b with
  | false =>
    clear hb
    go_wp2_with fail
    refine (works_any w1).mono ?_
    rintro e u ⟨r, rfl, rfl, hE⟩
    go_wp2_with fail
    go_ret
    exact ret_bool (by rfl) (HE.out.trans hE)
  | true =>
  obtain ⟨hl, hlight⟩ := hb rfl
  have HLT := Lib.hid hlight
  have HOL := Lib.hid (list_okl (fun o ho => (hlight o ho).ok))
  have HLN := Lib.hid (list_len l)
  have HOWN := Lib.hid (list_own l)
  clear hb hlight
  have hc := list18_any l _ w1 (HU.out.ext HE.out) (by omega) (fun o ho => (HLT.out o ho).ok)
  have HC2 : Hid (∀ W, Ext w W → Calls Try.prog 19 #[.slice A l.length ac] W (fun e W' => Ext W W' ∧ ∃ u, e = .returned u ∧ lsV W.heap.size (listD l) u W')) := Lib.hid (fun W X => list19_any l _ W (HU.out.ext X) (by omega) (fun o ho => ⟨(HLT.out o ho).ok, by have := (HLT.out o ho).pcs; omega⟩) (by have := tot_light l HLT.out; omega))
  obtain ⟨D, hD⟩ : ∃ D, listD l = D := ⟨_, rfl⟩
  rw [hD] at hc HC2 HOL HLN HOWN
  clear hD
  go_wp2_with fail
  refine hc.mono ?_
  clear hc
  rintro e w2 ⟨hE, u, rfl, hv⟩
  have HE2 := Lib.hid (HE.out.trans hE)
  have HA := Lib.hid (lsV.rd hv)
  obtain ⟨A2, c2, rfl⟩ := lsV.slice hv
  clear hE hv HE
  have hc := HC2.out w2 HE2.out
  clear HC2
  go_wp2_with fail
  refine hc.mono ?_
  clear hc
  rintro e w3 ⟨hE, u, rfl, hv⟩
  have HE3 := Lib.hid (HE2.out.trans hE)
  have HA3 := Lib.hid (HA.out.ext hE)
  have HB3 := Lib.hid (lsV.rd hv)
  obtain ⟨A3, c3, rfl⟩ := lsV.slice hv
  clear hE hv HE2 HA
  have hc := same15_ls D _ _ w3 HA3.out HB3.out HOL.out
  have t1 : decide ((D.length : Int) ≤ (l.length : Int)) = true := decide_eq_true (by have := HLN.out; omega)
  go_wp2_with fail
  refine hc.mono ?_
  clear hc
  rintro e w4 ⟨r, rfl, rfl, hE⟩
  have HE4 := Lib.hid (HE3.out.trans hE)
  have HA4 := Lib.hid (HA3.out.ext hE)
  clear hE HE3 HA3 HB3
  have hD2 : D.length ≤ 10000 := by have := HLN.out; omega
  have hc := list18_any D _ w4 HA4.out hD2 HOL.out
  rw [HOWN.out] at hc
  go_wp2_with fail
  refine hc.mono ?_
  clear hc
  rintro e w5 ⟨hE, u, rfl, hv⟩
  have HE5 := Lib.hid (HE4.out.trans hE)
  have HA5 := Lib.hid (HA4.out.ext hE)
  have HB5 := Lib.hid (lsV.rd hv)
  obtain ⟨A5, c5, rfl⟩ := lsV.slice hv
  clear hE hv HE4 HA4
  have hc := same15_ls D _ _ w5 HB5.out HA5.out HOL.out
  go_wp2_with fail
  refine hc.mono ?_
  clear hc
  rintro e w6 ⟨r, rfl, rfl, hE⟩
  have HE6 := Lib.hid (HE5.out.trans hE)
  clear hE HE5
  go_wp2_with fail
  refine (works_any w6).mono ?_
  rintro e u ⟨r, rfl, rfl, hE⟩
  go_wp2_with fail
  go_ret
  exact ret_bool (by rfl) (HE6.out.trans hE)
end Go.Proofs.Ytkimbpeapolcbaa.Sy
