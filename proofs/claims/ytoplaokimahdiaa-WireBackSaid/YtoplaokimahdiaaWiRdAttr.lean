/- Chapter 17: an attribute is read (91), a row of attributes (90). (Printed by gwrat.py.) -/
import Derived.Test.YtoplaokimahdiaaWiRdText
import Derived.Test.YtoplaokimahdiaaWiLate
import Derived.StillTailTactics
namespace Go.Proofs.Ytoplaokimahdiaa.Wi
open Go.RowKit Go.Proofs.Ytoplaokimahdiaa.Bw Go.Proofs.Ytoplaokimahdiaa.Bs

theorem results_st {P : Program} {fn : Func} {p : Tmp} {ty : TypeId} (h : fn.results = #[.cell p ty]) (tmps : Array Value) {w : World} {g : Nat} {cs : Array Value} {d : TypeDesc}
    (hp : tmps.getD p undef = .pointer (some ⟨g, 0, none⟩)) (hg : NBox w g ty cs) (hu : P.underlying ty = some d) (hd : (match d with | .struct _ | .array _ _ => true | _ => false) = true) (hi : (P.info? ty).map (·.size) = some cs.size) :
    (results fn tmps).run P w = .ok (.agg cs) w := results_cell_row h tmps w g ty cs (0, 0) d hp hg hu hd hi
theorem info78 : (Try.prog.info? 78).map (·.size) = some 2 := by kernel_rfl
theorem NBox.set2 {W : World} {B : Nat} {t : TypeId} {x0 x1 : Value} (h : NBox W B t #[x0, x1]) (a b : Value) : NBox ((W.setCell ⟨B, 0, none⟩ a).setCell ⟨B, 1, none⟩ b) B t #[a, b] := by
  have := (h.set 0 a).set 1 b
  simpa using this
theorem attrP_eq (b : List UInt8) : attrP b = match textP 64 b with | none => none | some (k, r) => match textP 256 r with | none => none | some (v, r2) => some ((k, v), r2) := by
  unfold attrP
  cases textP 64 b with
  | none => rfl
  | some kr =>
    obtain ⟨k, r⟩ := kr
    rcases hm : textP 256 r with _ | ⟨v, r2⟩ <;> simp [hm]
theorem enters91 : ∀ args W, (callFunc 91 args).run Try.prog W = .ok (.enter 91 args) W := fun args W => by kernel_rfl
set_option maxRecDepth 100000 in
set_option maxHeartbeats 4000000 in
theorem rattr1_any (bs : List UInt8) (w0 w : World) (B R : Nat) (h : RS w0 w B bs) (bR : NBox w R 83 #[.pointer (some ⟨B, 0, none⟩)]) : Calls Try.prog 91 #[.pointer (some ⟨R, 0, none⟩)] w (RdC w0 w B atrV (attrP bs)) := by
  obtain ⟨w1, hw1⟩ : ∃ W, w.alloc (.cells #[.string ⟨#[]⟩, .string ⟨#[]⟩] 78) = W := ⟨_, rfl⟩
  obtain ⟨X, hX⟩ : ∃ X, w.heap.size = X := ⟨_, rfl⟩
  have E1 : Ext w w1 := by rw [← hw1]; exact (Ext.refl w).alloc _
  have bX : NBox w1 X 78 #[.string ⟨#[]⟩, .string ⟨#[]⟩] := by rw [← hw1, ← hX]; exact NBox.new _ _ _
  have hRS := h.more E1
  obtain ⟨rv0, hbx0, -⟩ := hRS.box
  have bR1 := bR.ext E1
  have hBR : R ≠ B := NBox.apart bR1 hbx0 (by decide)
  have hXB : X ≠ B := NBox.apart bX hbx0 (by decide)
  have hX0 : w0.heap.size ≤ X := by rw [← hX]; exact h.ext.size
  have HE := Lib.hid E1
  have HS : Hid (attrP bs = match textP 64 bs with | none => none | some (k, r) => match textP 256 r with | none => none | some (v, r2) => some ((k, v), r2)) := Lib.hid (attrP_eq bs)
  have HW := Lib.hid hw1
  have HX := Lib.hid hX
  have HBX := Lib.hid bX
  have HBR := Lib.hid bR1
  have HRS := Lib.hid hRS
  clear hw1 hX bX bR1 hRS hbx0 bR h E1
  go_enter Try.func91, Try.ntmps91
  go_upto_region 1 with fail
  rw [HW.out, HX.out]
  obtain ⟨c0, hc0⟩ : ∃ c0, w1.drew = c0 := ⟨_, rfl⟩
  have hH : c0.cell? ⟨R, 0, none⟩ = some (.pointer (some ⟨B, 0, none⟩)) := by rw [← hc0]; exact (Ext.refl _).drew.cell (HBR.out.cell 0)
  have HX0 : Hid (Ext w1 c0) := Lib.hid (by rw [← hc0]; exact (Ext.refl _).drew)
  refine wp_region_held_drew (S := fun W => W.cell? ⟨R, 0, none⟩ = some (.pointer (some ⟨B, 0, none⟩))) (by kernel_rfl) (by rw [hc0]; exact hH) (fun hHeld => ?_)
  rw [hc0] at hHeld ⊢
  clear hc0 hH
  refine wpAnyH_take (i := 0) (oi := ⟨_, _, _, _, _, _⟩) (v := ?_) rfl (by kernel_rfl) (by kernel_rfl) (by kernel_rfl) (fun _ _ _ h => h) (Or.inl ⟨by rfl, ?_⟩) hHeld ?_
  rotate_left
  · intro w hSw
    try dsimp only at hSw
    go_simp
    all_goals (first | with_reducible rfl | rw [if_pos (by omega)])
  try simp only [Act.put, List.setIfInBounds_toArray, List.set_cons_zero, List.set_cons_succ]
  refine wpAnyH_take (i := 2) (oi := ⟨_, _, _, _, _, _⟩) (v := ?_) rfl (by kernel_rfl) (by kernel_rfl) (by kernel_rfl) (fun _ _ _ h => h) (Or.inl ⟨by rfl, ?_⟩) hHeld ?_
  rotate_left
  · intro w hSw
    try dsimp only at hSw
    go_simp
    all_goals (first | with_reducible rfl | rw [if_pos (by omega)])
  try simp only [Act.put, List.setIfInBounds_toArray, List.set_cons_zero, List.set_cons_succ]
  refine wpAnyH_ready (rs := [1]) (by kernel_rfl) (by simp) ?_
  refine AllReadyH.cons (o := ⟨_, _, _, _, _, _⟩) rfl (fun K' hK => ?_) (AllReadyH.nil)
  have hc := rtext_any 64 (by decide) bs w0 c0 B (HRS.out.more HX0.out)
  obtain ⟨p, hp⟩ : ∃ p, textP 64 bs = p := ⟨_, rfl⟩
  have HS1 := HS
  rw [hp] at hc HS1
  clear hp
  go_simp
  go_at_call 89
  refine hc.mono ?_
  clear hc
  rintro e c1 ⟨hX1, hF1, hP⟩
  have HX1 := Lib.hid hX1
  have HF1 := Lib.hid ((Fr.of_ext (HE.out.trans HX0.out) _).trans hF1)
  have hR1 : c1.cell? ⟨R, 0, none⟩ = some (.pointer (some ⟨B, 0, none⟩)) := hF1.cell hBR hHeld
  have HBX1 := Lib.hid ((HBX.out.ext HX0.out).fr hF1 hXB)
  clear hX1 hF1
  cases p with
  | none =>
    subst hP
    go_wp2_with fail
    exact ⟨rfl, RdC.no HS1.out HX1.out HF1.out⟩
  | some kr =>
    obtain ⟨k, r⟩ := kr
    obtain ⟨kv, rfl, ⟨rfl, hk⟩, hRk⟩ := hP
    have HS2 : Hid (attrP bs = match textP 256 r with | none => none | some (v, r2) => some ((k, v), r2)) := HS1
    clear HS1
    refine hK.out _ _ hR1 (fun hHeld => ?_)
    clear hK K' hR1
    try simp only [Act.put, List.setIfInBounds_toArray, List.set_cons_zero, List.set_cons_succ]
    refine wpAnyH_ready (rs := [3]) (by kernel_rfl) (by simp) ?_
    refine AllReadyH.cons (o := ⟨_, _, _, _, _, _⟩) rfl (fun K' hK => ?_) (AllReadyH.nil)
    have hc := rtext_any 256 (by decide) r w0 c1 B hRk
    obtain ⟨p, hp⟩ : ∃ p, textP 256 r = p := ⟨_, rfl⟩
    rw [hp] at hc HS2
    clear hp hRk
    go_simp
    go_at_call 89
    refine hc.mono ?_
    clear hc
    rintro e c2 ⟨hX2, hF2, hP⟩
    have HX2 := Lib.hid hX2
    have HF2 := Lib.hid (HF1.out.trans hF2)
    have hR2 : c2.cell? ⟨R, 0, none⟩ = some (.pointer (some ⟨B, 0, none⟩)) := hF2.cell hBR hHeld
    have HBX2 := Lib.hid (HBX1.out.fr hF2 hXB)
    clear hX2 hF2 HF1 HBX1
    cases p with
    | none =>
      subst hP
      go_wp2_with fail
      exact ⟨rfl, RdC.no HS2.out HX2.out HF2.out⟩
    | some vr =>
      obtain ⟨v, r2⟩ := vr
      obtain ⟨vv, rfl, ⟨rfl, hv⟩, hRv⟩ := hP
      have HR2 := Lib.hid hRv
      have HKV := Lib.hid (And.intro hk hv)
      clear hRv hk hv
      refine hK.out _ _ hR2 (fun hHeld => ?_)
      clear hK K' hR2
      try simp only [Act.put, List.setIfInBounds_toArray, List.set_cons_zero, List.set_cons_succ]
      refine wpAnyH_take (i := 4) (oi := ⟨_, _, _, _, _, _⟩) (v := ?_) rfl (by kernel_rfl) (by kernel_rfl) (by kernel_rfl) (fun _ _ _ h => h) (Or.inl ⟨by rfl, ?_⟩) hHeld ?_
      rotate_left
      · intro w hSw
        try dsimp only at hSw
        go_simp
        all_goals (first | with_reducible rfl | rw [if_pos (by omega)])
      try simp only [Act.put, List.setIfInBounds_toArray, List.set_cons_zero, List.set_cons_succ]
      refine wpAnyH_ready (rs := [5]) (by kernel_rfl) (by simp) ?_
      refine AllReadyH.cons (o := ⟨_, _, _, _, _, _⟩) rfl (fun K' hK => ?_) (AllReadyH.nil)
      have x0 := HBX2.out.cell 0
      have x1 := HBX2.out.cell 1
      have xz := HBX2.out.frozen 0
      have xz1 := HBX2.out.frozen 1
      go_simp
      have F2 : Fr c2 ((c2.setCell ⟨X, 0, none⟩ (.string k)).setCell ⟨X, 1, none⟩ (.string v)) (fun i => i = X) := (Fr.setCell _ _ _ _).trans (Fr.setCell _ _ _ _)
      have HRX : R ≠ X := fun hh => by
        have := HBR.out
        rw [hh] at this
        exact (NBox.apart this HBX.out (by decide)) rfl
      refine hK.out _ _ (F2.cell HRX hHeld) (fun hHeld => ?_)
      clear hK K' x0 x1 xz xz1
      try simp only [Act.put, List.setIfInBounds_toArray, List.set_cons_zero, List.set_cons_succ]
      refine wpAnyH_done (by kernel_rfl) ?_ _
      clear hHeld
      go_wp2_with fail
      refine bodyPost_ret (results_st rfl _ rfl (HBX2.out.set2 _ _) Try.underlying78 rfl info78) rfl ?_
      have hX0' := Fr.ext HR2.out.ext F2 (fun i hi => by rw [hi]; exact hX0)
      obtain ⟨rv2, hbx2, hrd2⟩ := HR2.out.box
      exact RdC.yes HS2.out ⟨rfl, HKV.out⟩ ⟨hX0', HR2.out.hB, rv2, hbx2.fr F2 (fun hh => hXB hh.symm), hrd2⟩ (Fr.new ((HF2.out.mono fun i hi => .inl hi).trans (F2.mono fun i hi => .inr (by rw [hi, ← HX.out]; exact Nat.le_refl _))))
/-- What is read yet, behind what was read. -/
def goOnA {α : Type} (acc : List α) : Option (List α × List UInt8) → Option (List α × List UInt8)
  | none => none
  | some (l, r) => some (acc ++ l, r)
theorem many_stepA {α : Type} (f : Rd α) (acc : List α) (k : Nat) (b : List UInt8) : goOnA acc (manyP f (k + 1) b) = match f b with | none => none | some (y, r) => goOnA (acc ++ [y]) (manyP f k r) := by
  rw [manyP]
  rcases hm : f b with _ | ⟨y, r⟩
  · rfl
  · simp only
    rcases hm2 : manyP f k r with _ | ⟨l, r'⟩
    · rfl
    · simp [goOnA]
theorem row_go {α : Type} (most : Nat) (f : Rd α) (bs : List UInt8) : rowP most f bs = match smallP (most + 1) bs with | none => none | some (n, r) => goOnA [] (manyP f n r) := by
  unfold rowP
  rcases smallP (most + 1) bs with _ | ⟨n, r⟩
  · rfl
  · simp only
    rcases manyP f n r with _ | ⟨l, r'⟩ <;> rfl
theorem small_lt' {below : Nat} {b : List UInt8} {n : Nat} {r : List UInt8} (h : smallP below b = some (n, r)) : n < below := by
  unfold smallP at h
  split at h
  · cases h
  · split at h
    next h1 => cases h; exact h1
    next => cases h
theorem T29 : SliceT Try.prog 29 78 (.agg #[.string ⟨#[]⟩, .string ⟨#[]⟩]) 2 32 := SliceT.mk' Try.underlying29 (by kernel_rfl) rfl (by decide)
set_option maxRecDepth 100000 in
set_option maxHeartbeats 4000000 in
theorem gets90_any (R : World → Atr → Value → Prop) (V : Nat → Atr → Value → World → Prop) (f : Rd (Atr)) (fnc : FuncId) (cap : Array Value) (hfn : ∀ args W, (callFunc fnc args).run Try.prog W = .ok (.enter fnc args) W) (most : Nat) (hm : most ≤ 4096) (bs : List UInt8) (w0 w : World) (B : Nat) (h : RS w0 w B bs)
    (J : World → Prop) (hj : J w) (hJ : ∀ W W' S, J W → Fr W W' S → (∀ k, S k → k = B ∨ w.heap.size ≤ k) → J W')
    (hV : ∀ lo x v W, V lo x v W → ∃ c0 c1, v = .agg #[c0, c1] ∧ (c0.oneCell' = true ∧ c1.oneCell' = true) ∧ Late (old lo) (fun W => R W x (.agg #[c0, c1])) W)
    (hone : ∀ b W, RS w0 W B b → J W → w.heap.size ≤ W.heap.size → Calls Try.prog fnc cap W (RdC w0 W B (V W.heap.size) (f b))) :
    Calls Try.prog 90 #[.pointer (some ⟨B, 0, none⟩), .int .i64 (most : Int), .func (.func fnc) #[] cap] w (RdC w0 w B (rowV2 R 78 2 w.heap.size) (rowP most f bs)) := by
  have hc := rsmall_any (most + 1) (by omega) bs w0 w B h
  have HS : Hid (rowP most f bs = match smallP (most + 1) bs with | none => none | some (n, r) => goOnA [] (manyP f n r)) := Lib.hid (row_go most f bs)
  have HSM := Lib.hid (fun (n : Nat) (r : List UInt8) (hh : smallP (most + 1) bs = some (n, r)) => small_lt' hh)
  obtain ⟨p, hp⟩ : ∃ p, smallP (most + 1) bs = p := ⟨_, rfl⟩
  rw [hp] at hc HS HSM
  have q0 : (((most + 1 : Nat) : Int)) = (most : Int) + 1 := by omega
  rw [q0] at hc
  have HB0 := Lib.hid h.ext.size
  have HB1 : Hid (B < w.heap.size) := Lib.hid (by obtain ⟨rv0, hbx0, -⟩ := h.box; exact hbx0.lt)
  have HJ := Lib.hid hJ
  have HV := Lib.hid hV
  have HONE := Lib.hid hone
  have HJ0 := Lib.hid hj
  clear hp h hJ hV hone hj
  go_enter Try.func90, Try.ntmps90
  go_wp2_with fail
  refine hc.mono ?_
  clear hc
  rintro e w1 ⟨hX, hF, hP⟩
  cases p with
  | none =>
    subst hP
    have HX := Lib.hid hX
    have HF := Lib.hid hF
    clear hX hF
    go_wp2_with fail
    exact ⟨rfl, RdC.no HS.out HX.out HF.out⟩
  | some nr =>
    obtain ⟨n, r0⟩ := nr
    obtain ⟨v, rfl, hv, hR⟩ := hP
    unfold intV at hv
    subst hv
    have hn := HSM.out n r0 rfl
    have HR := Lib.hid hR
    have HF := Lib.hid hF
    have HJ1 := Lib.hid (HJ.out _ _ _ HJ0.out hF (fun k hk => .inl hk))
    clear hR hX hF
    go_wp2_with fail
    go_loopw [7, 12] (fun s7 s12 wr => ∃ (i : Nat) (acc : List (Atr)) (b : List UInt8), s12 = .int .i64 (i : Int) ∧ i ≤ n ∧ acc.length = i ∧ rowV2 R 78 2 w.heap.size acc s7 wr ∧ RS w0 wr B b ∧ J wr ∧ Fr w wr (isB B) ∧ Hid (rowP most f bs = goOnA acc (manyP f (n - i) b))) (fun _ i _ => n - (intOf i).toNat)
    case atStart => exact ⟨0, [], r0, rfl, Nat.zero_le _, rfl, ⟨[], ⟨rfl, .inl ⟨rfl, rfl⟩⟩, Late.all fun _ => rfl⟩, HR.out, HJ1.out, HF.out, HS⟩
    case round =>
      obtain ⟨i, acc, b, rfl, hi, hal, ⟨us, hO, hLT⟩, hR, hj, hF, HN⟩ := hrel
      have q1 : (0 : Int) ≤ (i : Int) := by omega
      rcases Nat.lt_or_ge i n with hlt | hlt
      · have q2 : (i : Int) < (n : Int) := by omega
        have hc := HONE.out b wr hR hj hF.size
        have HN2 := Lib.hid (HN.out.trans ((congrArg (fun m => goOnA acc (manyP f m b)) (show n - i = (n - (i + 1)) + 1 by omega)).trans (many_stepA f acc (n - (i + 1)) b)))
        obtain ⟨p, hp⟩ : ∃ p, f b = p := ⟨_, rfl⟩
        rw [hp] at hc HN2
        obtain ⟨rv, hbx, -⟩ := hR.box
        have hno := hbx.not_own hO (by decide)
        have HO := Lib.hid hO
        have HLT := Lib.hid hLT
        have HF := Lib.hid hF
        have HJR := Lib.hid hj
        have HAL : Hid (acc.length = i) := Lib.hid hal
        have hal2 : acc.length < n := by omega
        obtain ⟨vA, vC, rfl, -⟩ := RdS.of_owns hO
        clear hp hR hO hF HN hal hbx hj hLT
        go_wp2_with fail
        refine hc.mono ?_
        clear hc
        rintro e w2 ⟨hX2, hF2, hP⟩
        cases p with
        | none =>
          subst hP
          have HX := Lib.hid hX2
          have HF3 := Lib.hid (HF.out.trans hF2)
          clear hX2 hF2
          go_wp2_with fail
          exact ⟨rfl, RdC.no HN2.out HX.out HF3.out⟩
        | some yr =>
          obtain ⟨y, r⟩ := yr
          obtain ⟨v, rfl, hv, hR2⟩ := hP
          obtain ⟨c0, c1, rfl, ⟨o0, o1⟩, hLY⟩ := HV.out _ _ _ _ hv
          obtain ⟨w3, hw3⟩ : ∃ W, w2.alloc (.cells #[c0, c1] 78) = W := ⟨_, rfl⟩
          obtain ⟨S, hS⟩ : ∃ S, w2.heap.size = S := ⟨_, rfl⟩
          have X3 : Ext w2 w3 := by rw [← hw3]; exact (Ext.refl _).alloc _
          have HRD : Hid (RdS w3 2 1 [c0, c1] (.slice (some ⟨S, 0, none⟩) 1 1)) := Lib.hid (by rw [← hw3, ← hS]; exact RdS.one (cs := #[c0, c1]) rfl)
          have hO2 := owns_fr hF2 HO.out (fun g hg hk => hno (by rw [hg]; exact congrArg some hk))
          have HOO := Lib.hid (owns_ext X3 hO2)
          have HR3 := Lib.hid (hR2.more X3)
          have HF3 := Lib.hid ((HF.out.trans hF2).trans (Fr.of_ext X3 _))
          have HJ3 := Lib.hid (HJ.out _ _ _ (HJ.out _ _ _ HJR.out hF2 (fun k hk => .inl hk)) (Fr.of_ext X3 (fun _ => False)) (fun k hk => hk.elim))
          have HSZ := Lib.hid (Nat.le_trans (HF.out.trans hF2).size X3.size)
          have HL3 := Lib.hid (HLT.out.to (S' := rowS w.heap.size (.slice vA acc.length vC)) (hF2.trans (Fr.of_ext X3 _)) (fun k _ hh => hh.elim (fun hk => .inl (by rw [show k = B from hk]; exact HB1.out)) id))
          have HY3 := Lib.hid (hLY.ext X3)
          have HW3 := Lib.hid hw3
          have HSS := Lib.hid hS
          have HN3 : Hid (rowP most f bs = goOnA (acc ++ [y]) (manyP f (n - (i + 1)) r)) := HN2
          have HONES : Hid (∀ u ∈ [c0, c1], u.oneCell' = true) := Lib.hid (by simp [o0, o1])
          clear hX2 hF2 hR2 hw3 X3 hS hO2 hv hLY HN2 o0 o1
          go_wp2_with (first | (rw [HW3.out, HSS.out]; clear HW3 HSS) | (at_builtin; refine wpList_append_rd rfl rfl T29 (v := _) (by rfl) HOO.out (by rfl) HRD.out HONES.out (by omega) (by simp only [maxLen]; omega) HSZ.out ?_; intro v4 w4 O1 hg hat))
          refine ⟨⟨i + 1, acc ++ [y], r, by go_num, by omega, by rw [List.length_append, HAL.out]; rfl, rowV2.add HO.out HL3.out HY3.out rfl HF.out.size hg hat O1, HR3.out.fr (Fr.grown hg) (fun k hk => Nat.le_trans HB0.out (owns_base HOO.out k hk)) hno, HJ.out _ _ _ HJ3.out (Fr.grown hg) (fun k hk => .inr (owns_base HOO.out k hk)), Fr.new ((HF3.out.mono fun k hk => .inl hk).trans ((Fr.grown hg).mono fun k hk => .inr (owns_base HOO.out k hk))), HN3⟩, by simp [intOf]; omega⟩
      · have HP : Hid (rowP most f bs = some (acc, b)) := Lib.hid (by
          rw [HN.out, show n - i = 0 by omega]
          show some (acc ++ [], b) = _
          rw [List.append_nil])
        have HR2 := Lib.hid hR
        have HO := Lib.hid hO
        have HLT := Lib.hid hLT
        have HF := Lib.hid hF
        obtain ⟨vA, vC, rfl, -⟩ := RdS.of_owns hO
        clear hR hO hF hj HN hal hLT
        go_wp2_with fail
        go_ret
        exact RdC.yes HP.out ⟨us, HO.out, HLT.out⟩ HR2.out HF.out
end Go.Proofs.Ytoplaokimahdiaa.Wi
