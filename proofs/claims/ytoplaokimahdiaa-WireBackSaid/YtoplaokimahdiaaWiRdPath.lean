/- Chapter 17: a small number, a path are read. -/
import Derived.Test.YtoplaokimahdiaaWiRdNum
import Derived.Test.YtoplaokimahdiaaWiPutPN
import Derived.Test.YtoplaokimahdiaaWiPath
namespace Go.Proofs.Ytoplaokimahdiaa.Wi
open Go.RowKit Go.Proofs.Ytoplaokimahdiaa.Bw Go.Proofs.Ytoplaokimahdiaa.Bs

def intV (n : Nat) (v : Value) (_ : World) : Prop := v = .int .i64 (n : Int)
set_option maxRecDepth 100000 in
set_option maxHeartbeats 1000000 in
theorem rsmall_any (below : Nat) (hb : below ≤ 4611686018427387904) (bs : List UInt8) (w0 w : World) (B : Nat) (h : RS w0 w B bs) : Calls Try.prog 85 #[.pointer (some ⟨B, 0, none⟩), .int .i64 (below : Int)] w (RdC w0 w B intV (smallP below bs)) := by
  have hc := rnumber_any bs w0 w B h
  have HS : Hid (smallP below bs = match rdNum 0 0 bs with | none => none | some (n, r) => if n < below then some (n, r) else none) := Lib.hid (by unfold smallP; cases rdNum 0 0 bs <;> rfl)
  obtain ⟨p, hp⟩ : ∃ p, rdNum 0 0 bs = p := ⟨_, rfl⟩
  rw [hp] at hc HS
  clear hp h
  go_enter Try.func85, Try.ntmps85
  go_wp2_with fail
  refine hc.mono ?_
  clear hc
  rintro e w1 ⟨hX, hF, hP⟩
  have HX := Lib.hid hX
  have HF := Lib.hid hF
  clear hX hF
  cases p with
  | none =>
    subst hP
    go_wp2_with fail
    exact ⟨rfl, RdC.no HS.out HX.out HF.out⟩
  | some xr =>
    obtain ⟨n, r⟩ := xr
    obtain ⟨v, rfl, hv, hR⟩ := hP
    unfold natV at hv
    subst hv
    have HR := Lib.hid hR
    clear hR
    rcases Nat.lt_or_ge n below with hn | hn
    · have t1 : decide (n < below) = true := decide_eq_true hn
      have t1' : decide ((n : Int) < (below : Int)) = true := decide_eq_true (by omega)
      have hw := want_yes w1
      have HS2 : Hid (smallP below bs = some (n, r)) := Lib.hid (by rw [HS.out]; exact if_pos hn)
      go_wp2_with fail
      refine hw.mono ?_
      rintro e w2 ⟨rfl, rfl⟩
      go_wp2_with fail
      go_ret
      exact RdC.yes HS2.out rfl HR.out HF.out
    · have t1 : decide (n < below) = false := decide_eq_false (by omega)
      have t1' : decide ((n : Int) < (below : Int)) = false := decide_eq_false (by omega)
      have hw := want_no w1
      have HS2 : Hid (smallP below bs = none) := Lib.hid (by rw [HS.out]; exact if_neg (by omega))
      go_wp2_with fail
      refine hw.mono ?_
      rintro e w2 ⟨rfl, rfl⟩
      go_wp2_with fail
      exact ⟨rfl, RdC.no HS2.out HX.out HF.out⟩
theorem enters84 : ∀ args W, (callFunc 84 args).run Try.prog W = .ok (.enter 84 args) W := fun args W => by kernel_rfl
set_option maxRecDepth 100000 in
set_option maxHeartbeats 1000000 in
theorem rpath1_any (bs : List UInt8) (w0 w : World) (B R : Nat) (h : RS w0 w B bs) (bR : NBox w R 83 #[.pointer (some ⟨B, 0, none⟩)]) : Calls Try.prog 84 #[.pointer (some ⟨R, 0, none⟩)] w (RdC w0 w B intV (smallP 1048577 bs)) := by
  have hc := rsmall_any 1048577 (by decide) bs w0 w B h
  have r0 := bR.cell 0
  obtain ⟨p, hp⟩ : ∃ p, smallP 1048577 bs = p := ⟨_, rfl⟩
  rw [hp] at hc ⊢
  clear hp h bR
  go_enter Try.func84, Try.ntmps84
  go_wp2_with fail
  refine hc.mono ?_
  clear hc r0
  rintro e w1 ⟨hX, hF, hP⟩
  have HX := Lib.hid hX
  have HF := Lib.hid hF
  clear hX hF
  cases p with
  | none =>
    subst hP
    go_wp2_with fail
    exact ⟨rfl, RdC.no rfl HX.out HF.out⟩
  | some xr =>
    obtain ⟨n, r⟩ := xr
    obtain ⟨v, rfl, hv, hR⟩ := hP
    unfold intV at hv
    subst hv
    have HR := Lib.hid hR
    clear hR
    go_wp2_with fail
    go_ret
    exact RdC.yes rfl rfl HR.out HF.out
theorem T33 : SliceT Try.prog 33 3 (.int .i64 0) 1 8 := SliceT.mk' Try.underlying33 (by kernel_rfl) rfl (by decide)
/-- A row of ints that was read: it is the reader's own. -/
def rowV (w0 : World) (l : List Int) (v : Value) (W : World) : Prop := W.ownsRow w0.heap.size 3 1 v l.length (l.map (Value.int .i64))
theorem ints_one' (l : List Int) : ∀ u ∈ l.map (Value.int .i64), u.oneCell' = true := by
  intro u hu
  obtain ⟨x, _, rfl⟩ := List.mem_map.1 hu
  rfl
theorem RS.fr {w0 W W' : World} {B : Nat} {bs : List UInt8} {S : Nat → Prop} (h : RS w0 W B bs) (F : Fr W W' S) (h1 : ∀ k, S k → w0.heap.size ≤ k) (h2 : ¬ S B) : RS w0 W' B bs := by
  obtain ⟨rv, hb, hr⟩ := h.box
  exact ⟨Fr.ext h.ext F h1, h.hB, rv, hb.fr F h2, hr⟩
def oneI : Rd Int := fun b => (smallP 1048577 b).map fun (n, r) => ((n : Int), r)
/-- What is read yet, behind what was read. -/
def goOn (acc : List Int) : Option (List Int × List UInt8) → Option (List Int × List UInt8)
  | none => none
  | some (l, r) => some (acc ++ l, r)
theorem many_step (acc : List Int) (k : Nat) (b : List UInt8) : goOn acc (manyP oneI (k + 1) b) = match smallP 1048577 b with | none => none | some (y, r) => goOn (acc ++ [(y : Int)]) (manyP oneI k r) := by
  have e : manyP oneI (k + 1) b = match oneI b with | none => none | some (x, r) => (match manyP oneI k r with | none => none | some (l, r) => some (x :: l, r)) := by
    rw [manyP]
    cases oneI b with
    | none => rfl
    | some xr =>
      obtain ⟨x, r⟩ := xr
      rcases hm : manyP oneI k r with _ | ⟨l, r'⟩ <;> simp only [hm]
  have e2 : oneI b = (smallP 1048577 b).map fun (n, r) => ((n : Int), r) := rfl
  rw [e, e2]
  generalize manyP oneI k = M
  cases smallP 1048577 b with
  | none => rfl
  | some yr =>
    obtain ⟨y, r⟩ := yr
    show goOn acc (match M r with | none => none | some (l, r) => some ((y : Int) :: l, r)) = goOn (acc ++ [(y : Int)]) (M r)
    cases M r with
    | none => rfl
    | some lr =>
      obtain ⟨l, r'⟩ := lr
      simp [goOn]
set_option maxRecDepth 100000 in
set_option maxHeartbeats 2000000 in
theorem rgets_any (bs : List UInt8) (w0 w : World) (B R : Nat) (h : RS w0 w B bs) (bR : NBox w R 83 #[.pointer (some ⟨B, 0, none⟩)]) :
    Calls Try.prog 83 #[.pointer (some ⟨B, 0, none⟩), .int .i64 64, .func (.func 84) #[] #[.pointer (some ⟨R, 0, none⟩)]] w (RdC w0 w B (rowV w) (pathP bs)) := by
  have hfn := enters84
  have hc := rsmall_any 65 (by decide) bs w0 w B h
  have HS : Hid (pathP bs = match smallP 65 bs with | none => none | some (n, r) => goOn [] (manyP oneI n r)) := Lib.hid (by
    unfold pathP rowP
    show (match smallP 65 bs with | none => none | some (n, r) => manyP oneI n r) = _
    cases smallP 65 bs with
    | none => rfl
    | some nr =>
      obtain ⟨n, r⟩ := nr
      show manyP oneI n r = goOn [] (manyP oneI n r)
      cases manyP oneI n r <;> rfl)
  have HSM := Lib.hid (fun (n : Nat) (r : List UInt8) (hh : smallP 65 bs = some (n, r)) => ((small_inv 65 (by decide) bs n r).1 hh).1)
  obtain ⟨p, hp⟩ : ∃ p, smallP 65 bs = p := ⟨_, rfl⟩
  rw [hp] at hc HS HSM
  have HB0 := Lib.hid h.ext.size
  obtain ⟨rv0, hbx0, -⟩ := h.box
  have hBR : B ≠ R := NBox.apart hbx0 bR (by decide)
  have HBR := Lib.hid bR
  clear hp h hbx0 bR
  go_enter Try.func83, Try.ntmps83
  go_wp2_with fail
  refine hc.mono ?_
  clear hc
  rintro e w1 ⟨hX, hF, hP⟩
  cases p with
  | none =>
    subst hP
    have HX := Lib.hid hX
    have HF := Lib.hid hF
    clear hX hF
    go_wp2_with fail
    exact ⟨rfl, RdC.no HS.out HX.out HF.out⟩
  | some nr =>
    obtain ⟨n, r0⟩ := nr
    obtain ⟨v, rfl, hv, hR⟩ := hP
    unfold intV at hv
    subst hv
    have hn := HSM.out n r0 rfl
    have HR := Lib.hid hR
    have HF := Lib.hid hF
    have HBR1 := Lib.hid (HBR.out.fr hF (fun hh => hBR hh.symm))
    clear hR hX hF
    go_wp2_with fail
    go_loopw [7, 12] (fun s7 s12 wr => ∃ (i : Nat) (acc : List Int) (b : List UInt8), s12 = .int .i64 (i : Int) ∧ i ≤ n ∧ acc.length = i ∧ wr.ownsRow w.heap.size 3 1 s7 acc.length (acc.map (Value.int .i64)) ∧ RS w0 wr B b ∧ NBox wr R 83 #[.pointer (some ⟨B, 0, none⟩)] ∧ Fr w wr (isB B) ∧ Hid (pathP bs = goOn acc (manyP oneI (n - i) b))) (fun _ i _ => n - (intOf i).toNat)
    case atStart => exact ⟨0, [], r0, rfl, Nat.zero_le _, rfl, ⟨rfl, .inl ⟨rfl, rfl⟩⟩, HR.out, HBR1.out, HF.out, HS⟩
    case round =>
      obtain ⟨i, acc, b, rfl, hi, hal, hO, hR, hB, hF, HN⟩ := hrel
      have q1 : (0 : Int) ≤ (i : Int) := by omega
      rcases Nat.lt_or_ge i n with hlt | hlt
      · have q2 : (i : Int) < (n : Int) := by omega
        have hc := rpath1_any b w0 wr B R hR hB
        have HN2 := Lib.hid (HN.out.trans ((congrArg (fun m => goOn acc (manyP oneI m b)) (show n - i = (n - (i + 1)) + 1 by omega)).trans (many_step acc (n - (i + 1)) b)))
        obtain ⟨p, hp⟩ : ∃ p, smallP 1048577 b = p := ⟨_, rfl⟩
        rw [hp] at hc HN2
        obtain ⟨rv, hbx, -⟩ := hR.box
        have hbl := hbx.lt
        have hno := hbx.not_own hO (by decide)
        have hnoR := hB.not_own hO (by decide)
        have HBX := Lib.hid hB
        have HO := Lib.hid hO
        have HF := Lib.hid hF
        have HAL : Hid (acc.length = i) := Lib.hid hal
        have hal2 : acc.length ≤ 64 := by omega
        obtain ⟨vA, vC, rfl, -⟩ := RdS.of_owns hO
        clear hp hR hB hO hF HN hal hbx
        go_wp2_with fail
        refine hc.mono ?_
        clear hc
        rintro e w2 ⟨hX2, hF2, hP⟩
        cases p with
        | none =>
          subst hP
          have HX := Lib.hid hX2
          have HF3 := Lib.hid (HF.out.trans hF2)
          clear hX2 hF2
          go_wp2_with fail
          exact ⟨rfl, RdC.no HN2.out HX.out HF3.out⟩
        | some yr =>
          obtain ⟨y, r⟩ := yr
          obtain ⟨v, rfl, hv, hR2⟩ := hP
          unfold intV at hv
          subst hv
          obtain ⟨w3, hw3⟩ : ∃ W, w2.alloc (.cells #[.int .i64 (y : Int)] 3) = W := ⟨_, rfl⟩
          obtain ⟨S, hS⟩ : ∃ S, w2.heap.size = S := ⟨_, rfl⟩
          have X3 : Ext w2 w3 := by rw [← hw3]; exact (Ext.refl _).alloc _
          have HRD : Hid (RdS w3 1 1 [.int .i64 (y : Int)] (.slice (some ⟨S, 0, none⟩) 1 1)) := Lib.hid (by rw [← hw3, ← hS]; exact RdS.one (cs := #[.int .i64 (y : Int)]) rfl)
          have hO2 := owns_fr hF2 HO.out (fun g hg hk => hno (by rw [hg]; exact congrArg some hk))
          have HOO := Lib.hid (owns_ext X3 hO2)
          have HR3 := Lib.hid (hR2.more X3)
          have HB3 := Lib.hid ((HBX.out.fr hF2 (fun hh => hBR hh.symm)).ext X3)
          have HF3 := Lib.hid ((HF.out.trans hF2).trans (Fr.of_ext X3 _))
          have HSZ := Lib.hid (Nat.le_trans (HF.out.trans hF2).size X3.size)
          have HW3 := Lib.hid hw3
          have HSS := Lib.hid hS
          have HN3 : Hid (pathP bs = goOn (acc ++ [(y : Int)]) (manyP oneI (n - (i + 1)) r)) := HN2
          clear hX2 hF2 hR2 hw3 X3 hS hO2
          go_wp2_with (first | (rw [HW3.out, HSS.out]; clear HW3 HSS) | (at_builtin; refine wpList_append_rd rfl rfl T33 (v := _) (by rfl) HOO.out (by rfl) HRD.out (fun u hu => by rw [List.mem_singleton.1 hu]; rfl) (by omega) (by simp only [maxLen]; omega) HSZ.out ?_; intro v4 w4 O1 hg hat))
          refine ⟨⟨i + 1, acc ++ [(y : Int)], r, by go_num, by omega, by rw [List.length_append, HAL.out]; rfl, by rw [List.length_append, List.map_append]; exact O1, HR3.out.fr (Fr.grown hg) (fun k hk => Nat.le_trans HB0.out (owns_base HOO.out k hk)) hno, HB3.out.fr (Fr.grown hg) hnoR, Fr.new ((HF3.out.mono fun k hk => .inl hk).trans ((Fr.grown hg).mono fun k hk => .inr (owns_base HOO.out k hk))), HN3⟩, by simp [intOf]; omega⟩
      · have HP : Hid (pathP bs = some (acc, b)) := Lib.hid (by
          rw [HN.out, show n - i = 0 by omega]
          show some (acc ++ [], b) = _
          rw [List.append_nil])
        have HR2 := Lib.hid hR
        have HO := Lib.hid hO
        have HF := Lib.hid hF
        obtain ⟨vA, vC, rfl, -⟩ := RdS.of_owns hO
        clear hR hO hF hB HN hal
        go_wp2_with fail
        go_ret
        exact RdC.yes HP.out HO.out HR2.out HF.out
end Go.Proofs.Ytoplaokimahdiaa.Wi
