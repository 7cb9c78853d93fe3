/- Chapter 17: a tree is read: rows of nodes (92), the closure at a child (93), node (59). (Printed by gwrnode.py.) -/
import Derived.Test.YtoplaokimahdiaaWiRdAttr
namespace Go.Proofs.Ytoplaokimahdiaa.Wi
open Go.RowKit Go.Proofs.Ytoplaokimahdiaa.Bw Go.Proofs.Ytoplaokimahdiaa.Bs

theorem T30 : SliceT Try.prog 30 32 (.agg #[.int .u64 0, .bool false, .string ⟨#[]⟩, .slice none 0 0, .string ⟨#[]⟩, .slice none 0 0]) 6 96 := SliceT.mk' Try.underlying30 (by kernel_rfl) rfl (by decide)
set_option maxRecDepth 100000 in
set_option maxHeartbeats 4000000 in
theorem gets92_any (R : World → Nd → Value → Prop) (V : Nat → Nd → Value → World → Prop) (f : Rd (Nd)) (fnc : FuncId) (cap : Array Value) (hfn : ∀ args W, (callFunc fnc args).run Try.prog W = .ok (.enter fnc args) W) (most : Nat) (hm : most ≤ 4096) (bs : List UInt8) (w0 w : World) (B : Nat) (h : RS w0 w B bs)
    (J : World → Prop) (hj : J w) (hJ : ∀ W W' S, J W → Fr W W' S → (∀ k, S k → k = B ∨ w.heap.size ≤ k) → J W')
    (hV : ∀ lo x v W, V lo x v W → ∃ c0 c1 c2 c3 c4 c5, v = .agg #[c0, c1, c2, c3, c4, c5] ∧ (c0.oneCell' = true ∧ c1.oneCell' = true ∧ c2.oneCell' = true ∧ c3.oneCell' = true ∧ c4.oneCell' = true ∧ c5.oneCell' = true) ∧ Late (old lo) (fun W => R W x (.agg #[c0, c1, c2, c3, c4, c5])) W)
    (hone : ∀ b W, RS w0 W B b → J W → w.heap.size ≤ W.heap.size → Calls Try.prog fnc cap W (RdC w0 W B (V W.heap.size) (f b))) :
    Calls Try.prog 92 #[.pointer (some ⟨B, 0, none⟩), .int .i64 (most : Int), .func (.func fnc) #[] cap] w (RdC w0 w B (rowV2 R 32 6 w.heap.size) (rowP most f bs)) := by
  have hc := rsmall_any (most + 1) (by omega) bs w0 w B h
  have HS : Hid (rowP most f bs = match smallP (most + 1) bs with | none => none | some (n, r) => goOnA [] (manyP f n r)) := Lib.hid (row_go most f bs)
  have HSM := Lib.hid (fun (n : Nat) (r : List UInt8) (hh : smallP (most + 1) bs = some (n, r)) => small_lt' hh)
  obtain ⟨p, hp⟩ : ∃ p, smallP (most + 1) bs = p := ⟨_, rfl⟩
  rw [hp] at hc HS HSM
  have q0 : (((most + 1 : Nat) : Int)) = (most : Int) + 1 := by omega
  rw [q0] at hc
  have HB0 := Lib.hid h.ext.size
  have HB1 : Hid (B < w.heap.size) := Lib.hid (by obtain ⟨rv0, hbx0, -⟩ := h.box; exact hbx0.lt)
  have HJ := Lib.hid hJ
  have HV := Lib.hid hV
  have HONE := Lib.hid hone
  have HJ0 := Lib.hid hj
  clear hp h hJ hV hone hj
  go_enter Try.func92, Try.ntmps92
  go_wp2_with fail
  refine hc.mono ?_
  clear hc
  rintro e w1 ⟨hX, hF, hP⟩
  cases p with
  | none =>
    subst hP
    have HX := Lib.hid hX
    have HF := Lib.hid hF
    clear hX hF
    go_wp2_with fail
    exact ⟨rfl, RdC.no HS.out HX.out HF.out⟩
  | some nr =>
    obtain ⟨n, r0⟩ := nr
    obtain ⟨v, rfl, hv, hR⟩ := hP
    unfold intV at hv
    subst hv
    have hn := HSM.out n r0 rfl
    have HR := Lib.hid hR
    have HF := Lib.hid hF
    have HJ1 := Lib.hid (HJ.out _ _ _ HJ0.out hF (fun k hk => .inl hk))
    clear hR hX hF
    go_wp2_with fail
    go_loopw [7, 12] (fun s7 s12 wr => ∃ (i : Nat) (acc : List (Nd)) (b : List UInt8), s12 = .int .i64 (i : Int) ∧ i ≤ n ∧ acc.length = i ∧ rowV2 R 32 6 w.heap.size acc s7 wr ∧ RS w0 wr B b ∧ J wr ∧ Fr w wr (isB B) ∧ Hid (rowP most f bs = goOnA acc (manyP f (n - i) b))) (fun _ i _ => n - (intOf i).toNat)
    case atStart => exact ⟨0, [], r0, rfl, Nat.zero_le _, rfl, ⟨[], ⟨rfl, .inl ⟨rfl, rfl⟩⟩, Late.all fun _ => rfl⟩, HR.out, HJ1.out, HF.out, HS⟩
    case round =>
      obtain ⟨i, acc, b, rfl, hi, hal, ⟨us, hO, hLT⟩, hR, hj, hF, HN⟩ := hrel
      have q1 : (0 : Int) ≤ (i : Int) := by omega
      rcases Nat.lt_or_ge i n with hlt | hlt
      · have q2 : (i : Int) < (n : Int) := by omega
        have hc := HONE.out b wr hR hj hF.size
        have HN2 := Lib.hid (HN.out.trans ((congrArg (fun m => goOnA acc (manyP f m b)) (show n - i = (n - (i + 1)) + 1 by omega)).trans (many_stepA f acc (n - (i + 1)) b)))
        obtain ⟨p, hp⟩ : ∃ p, f b = p := ⟨_, rfl⟩
        rw [hp] at hc HN2
        obtain ⟨rv, hbx, -⟩ := hR.box
        have hno := hbx.not_own hO (by decide)
        have HO := Lib.hid hO
        have HLT := Lib.hid hLT
        have HF := Lib.hid hF
        have HJR := Lib.hid hj
        have HAL : Hid (acc.length = i) := Lib.hid hal
        have hal2 : acc.length < n := by omega
        obtain ⟨vA, vC, rfl, -⟩ := RdS.of_owns hO
        clear hp hR hO hF HN hal hbx hj hLT
        go_wp2_with fail
        refine hc.mono ?_
        clear hc
        rintro e w2 ⟨hX2, hF2, hP⟩
        cases p with
        | none =>
          subst hP
          have HX := Lib.hid hX2
          have HF3 := Lib.hid (HF.out.trans hF2)
          clear hX2 hF2
          go_wp2_with fail
          exact ⟨rfl, RdC.no HN2.out HX.out HF3.out⟩
        | some yr =>
          obtain ⟨y, r⟩ := yr
          obtain ⟨v, rfl, hv, hR2⟩ := hP
          obtain ⟨c0, c1, c2, c3, c4, c5, rfl, ⟨o0, o1, o2, o3, o4, o5⟩, hLY⟩ := HV.out _ _ _ _ hv
          obtain ⟨w3, hw3⟩ : ∃ W, w2.alloc (.cells #[c0, c1, c2, c3, c4, c5] 32) = W := ⟨_, rfl⟩
          obtain ⟨S, hS⟩ : ∃ S, w2.heap.size = S := ⟨_, rfl⟩
          have X3 : Ext w2 w3 := by rw [← hw3]; exact (Ext.refl _).alloc _
          have HRD : Hid (RdS w3 6 1 [c0, c1, c2, c3, c4, c5] (.slice (some ⟨S, 0, none⟩) 1 1)) := Lib.hid (by rw [← hw3, ← hS]; exact RdS.one (cs := #[c0, c1, c2, c3, c4, c5]) rfl)
          have hO2 := owns_fr hF2 HO.out (fun g hg hk => hno (by rw [hg]; exact congrArg some hk))
          have HOO := Lib.hid (owns_ext X3 hO2)
          have HR3 := Lib.hid (hR2.more X3)
          have HF3 := Lib.hid ((HF.out.trans hF2).trans (Fr.of_ext X3 _))
          have HJ3 := Lib.hid (HJ.out _ _ _ (HJ.out _ _ _ HJR.out hF2 (fun k hk => .inl hk)) (Fr.of_ext X3 (fun _ => False)) (fun k hk => hk.elim))
          have HSZ := Lib.hid (Nat.le_trans (HF.out.trans hF2).size X3.size)
          have HL3 := Lib.hid (HLT.out.to (S' := rowS w.heap.size (.slice vA acc.length vC)) (hF2.trans (Fr.of_ext X3 _)) (fun k _ hh => hh.elim (fun hk => .inl (by rw [show k = B from hk]; exact HB1.out)) id))
          have HY3 := Lib.hid (hLY.ext X3)
          have HW3 := Lib.hid hw3
          have HSS := Lib.hid hS
          have HN3 : Hid (rowP most f bs = goOnA (acc ++ [y]) (manyP f (n - (i + 1)) r)) := HN2
          have HONES : Hid (∀ u ∈ [c0, c1, c2, c3, c4, c5], u.oneCell' = true) := Lib.hid (by simp [o0, o1, o2, o3, o4, o5])
          clear hX2 hF2 hR2 hw3 X3 hS hO2 hv hLY HN2 o0 o1 o2 o3 o4 o5
          go_wp2_with (first | (rw [HW3.out, HSS.out]; clear HW3 HSS) | (at_builtin; refine wpList_append_rd rfl rfl T30 (v := _) (by rfl) HOO.out (by rfl) HRD.out HONES.out (by omega) (by simp only [maxLen]; omega) HSZ.out ?_; intro v4 w4 O1 hg hat))
          refine ⟨⟨i + 1, acc ++ [y], r, by go_num, by omega, by rw [List.length_append, HAL.out]; rfl, rowV2.add HO.out HL3.out HY3.out rfl HF.out.size hg hat O1, HR3.out.fr (Fr.grown hg) (fun k hk => Nat.le_trans HB0.out (owns_base HOO.out k hk)) hno, HJ.out _ _ _ HJ3.out (Fr.grown hg) (fun k hk => .inr (owns_base HOO.out k hk)), Fr.new ((HF3.out.mono fun k hk => .inl hk).trans ((Fr.grown hg).mono fun k hk => .inr (owns_base HOO.out k hk))), HN3⟩, by simp [intOf]; omega⟩
      · have HP : Hid (rowP most f bs = some (acc, b)) := Lib.hid (by
          rw [HN.out, show n - i = 0 by omega]
          show some (acc ++ [], b) = _
          rw [List.append_nil])
        have HR2 := Lib.hid hR
        have HO := Lib.hid hO
        have HLT := Lib.hid hLT
        have HF := Lib.hid hF
        obtain ⟨vA, vC, rfl, -⟩ := RdS.of_owns hO
        clear hR hO hF hj HN hal hLT
        go_wp2_with fail
        go_ret
        exact RdC.yes HP.out ⟨us, HO.out, HLT.out⟩ HR2.out HF.out
theorem info32 : (Try.prog.info? 32).map (·.size) = some 6 := by kernel_rfl
theorem NBox.six {W : World} {B : Nat} {t : TypeId} {x0 x1 x2 x3 x4 x5 : Value} (h : NBox W B t #[x0, x1, x2, x3, x4, x5]) (a b c d e f : Value) :
    NBox ((((((W.setCell ⟨B, 0, none⟩ a).setCell ⟨B, 1, none⟩ b).setCell ⟨B, 2, none⟩ c).setCell ⟨B, 3, none⟩ d).setCell ⟨B, 4, none⟩ e).setCell ⟨B, 5, none⟩ f) B t #[a, b, c, d, e, f] := by
  have := (((((h.set 0 a).set 1 b).set 2 c).set 3 d).set 4 e).set 5 f
  simpa using this
theorem Fr.six (W : World) (B : Nat) (a b c d e f : Value) : Fr W ((((((W.setCell ⟨B, 0, none⟩ a).setCell ⟨B, 1, none⟩ b).setCell ⟨B, 2, none⟩ c).setCell ⟨B, 3, none⟩ d).setCell ⟨B, 4, none⟩ e).setCell ⟨B, 5, none⟩ f) (isB B) :=
  (((((Fr.setCell _ _ _ _).trans (Fr.setCell _ _ _ _)).trans (Fr.setCell _ _ _ _)).trans (Fr.setCell _ _ _ _)).trans (Fr.setCell _ _ _ _)).trans (Fr.setCell _ _ _ _)
/-- What is read behind a label. -/
def nodeT (k : Nat) (i : Nat) (f : Bool) (l : ByteArray) (b : List UInt8) : Option (Nd × List UInt8) := match rowP 2048 attrP b with
  | none => none
  | some (a, r) => if f then (match textP 2048 r with | none => none | some (t, r) => some (.mk i f l a t [], r)) else (match rowP 512 (nodeP k) r with | none => none | some (c, r) => some (.mk i f l a ⟨#[]⟩ c, r))
theorem nodeP_eq (k : Nat) (b : List UInt8) : nodeP (k + 1) b = match rdNum 0 0 b with | none => none | some (i, r) => match flagP r with | none => none | some (f, r) => match textP 64 r with | none => none | some (l, r) => nodeT k i f l r := by
  unfold nodeP nodeT
  rcases rdNum 0 0 b with _ | ⟨i, r1⟩
  · rfl
  show (flagP r1).bind _ = _
  rcases h2 : flagP r1 with _ | ⟨f, r2⟩
  · simp [h2]
  show (textP 64 r2).bind _ = _
  rcases h3 : textP 64 r2 with _ | ⟨l, r3⟩
  · simp [h2, h3]
  show (rowP 2048 attrP r3).bind _ = _
  simp only [h2, h3]
  rcases h4 : rowP 2048 attrP r3 with _ | ⟨a, r4⟩
  · rfl
  show (if f = true then (textP 2048 r4).bind _ else (rowP 512 (nodeP k) r4).bind _) = _
  simp only
  cases f with
  | true =>
    rw [if_pos rfl, if_pos rfl]
    cases textP 2048 r4 <;> rfl
  | false =>
    rw [if_neg (by decide), if_neg (by decide)]
    cases rowP 512 (nodeP k) r4 <;> rfl
/-- The program's node reads so. -/
def NodeR (k : Nat) : Prop := ∀ (d : Nat) (bs : List UInt8) (w0 w : World) (B : Nat), d + k = 65 → RS w0 w B bs → Calls Try.prog 59 #[.pointer (some ⟨B, 0, none⟩), .int .i64 (d : Int)] w (RdC w0 w B (ndV w.heap.size) (nodeP k bs))
theorem enters93 : ∀ args W, (callFunc 93 args).run Try.prog W = .ok (.enter 93 args) W := fun args W => by kernel_rfl
theorem ndV.open {lo : Nat} {x : Nd} {v : Value} {W : World} (h : ndV lo x v W) : ∃ aA ac kA kc, v = .agg #[.int .u64 x.id, .bool x.leaf, .string x.label, .slice aA x.attrs.length ac, .string x.text, .slice kA x.kids.length kc] := by
  obtain ⟨av, kv, rfl, -, -, -, -, ⟨aA, ac, rfl, -⟩, ⟨kA, kc, rfl, -⟩⟩ := Nd.rd_open (Late.now h)
  exact ⟨aA, ac, kA, kc, rfl⟩
set_option maxRecDepth 100000 in
set_option maxHeartbeats 4000000 in
theorem rkid1_any (k : Nat) (ih : NodeR k) (d : Nat) (hd : d + 1 + k = 65) (bs : List UInt8) (w0 w : World) (B R P : Nat) (h : RS w0 w B bs) (bR : NBox w R 83 #[.pointer (some ⟨B, 0, none⟩)]) (bP : NBox w P 3 #[.int .i64 (d : Int)]) : Calls Try.prog 93 #[.pointer (some ⟨R, 0, none⟩), .pointer (some ⟨P, 0, none⟩)] w (RdC w0 w B (ndV w.heap.size) (nodeP k bs)) := by
  obtain ⟨w1, hw1⟩ : ∃ W, w.alloc (.cells #[.int .u64 0, .bool false, .string ⟨#[]⟩, .slice none 0 0, .string ⟨#[]⟩, .slice none 0 0] 32) = W := ⟨_, rfl⟩
  obtain ⟨Y, hY⟩ : ∃ Y, w.heap.size = Y := ⟨_, rfl⟩
  have E1 : Ext w w1 := by rw [← hw1]; exact (Ext.refl w).alloc _
  have bY : NBox w1 Y 32 #[.int .u64 0, .bool false, .string ⟨#[]⟩, .slice none 0 0, .string ⟨#[]⟩, .slice none 0 0] := by rw [← hw1, ← hY]; exact NBox.new _ _ _
  have hRS := h.more E1
  obtain ⟨rv0, hbx0, -⟩ := hRS.box
  have hYB : Y ≠ B := NBox.apart bY hbx0 (by decide)
  have hY0 : w0.heap.size ≤ Y := by rw [← hY]; exact h.ext.size
  have r0 := (bR.ext E1).cell 0
  have p0 := (bP.ext E1).cell 0
  have hc := ih (d + 1) bs w0 w1 B hd hRS
  rw [show ((d + 1 : Nat) : Int) = (d : Int) + 1 from by omega] at hc
  obtain ⟨p, hp⟩ : ∃ p, nodeP k bs = p := ⟨_, rfl⟩
  rw [hp] at hc ⊢
  have HE := Lib.hid E1
  have HW := Lib.hid hw1
  have HYY := Lib.hid hY
  have HBY := Lib.hid bY
  have hdd : d ≤ 64 := by omega
  clear hw1 hY bY hRS hbx0 bR bP h E1 hp ih
  go_enter Try.func93, Try.ntmps93
  go_upto_region 1 with fail
  rw [HW.out, HYY.out]
  go_wp2_with fail
  refine hc.mono ?_
  clear hc r0 p0
  rintro e w2 ⟨hX, hF, hP⟩
  have HX := Lib.hid hX
  have HF := Lib.hid ((Fr.of_ext HE.out _).trans hF)
  have HB2 := Lib.hid (HBY.out.fr hF hYB)
  clear hX hF
  cases p with
  | none =>
    subst hP
    go_wp2_with fail
    exact ⟨rfl, RdC.no rfl HX.out HF.out⟩
  | some xr =>
    obtain ⟨x, r⟩ := xr
    obtain ⟨v, rfl, hv, hR⟩ := hP
    obtain ⟨aA, ac, kA, kc, rfl⟩ := hv.open
    have HV := Lib.hid hv
    have HR := Lib.hid hR
    have y0 := HB2.out.cell 0
    have y1 := HB2.out.cell 1
    have y2 := HB2.out.cell 2
    have y3 := HB2.out.cell 3
    have y4 := HB2.out.cell 4
    have y5 := HB2.out.cell 5
    have z0 := HB2.out.frozen 0
    have z1 := HB2.out.frozen 1
    have z2 := HB2.out.frozen 2
    have z3 := HB2.out.frozen 3
    have z4 := HB2.out.frozen 4
    have z5 := HB2.out.frozen 5
    clear hv hR
    go_wp2_with fail
    refine bodyPost_ret (results_st rfl _ rfl (HB2.out.six _ _ _ _ _ _) Try.underlying32 rfl info32) rfl ?_
    have F2 := Fr.six w2 Y (.int .u64 x.id) (.bool x.leaf) (.string x.label) (.slice aA x.attrs.length ac) (.string x.text) (.slice kA x.kids.length kc)
    obtain ⟨rv2, hbx2, hrd2⟩ := HR.out.box
    have hlt : Y < w1.heap.size := HBY.out.lt
    refine RdC.yes rfl ?_ ⟨Fr.ext HR.out.ext F2 (fun i hi => by rw [hi]; exact hY0), HR.out.hB, rv2, hbx2.fr F2 (fun hh => hYB hh.symm), hrd2⟩ (Fr.new ((HF.out.mono fun i hi => .inl hi).trans (F2.mono fun i hi => .inr (by rw [hi, ← HYY.out]; exact Nat.le_refl _))))
    exact Late.low (Late.to HV.out F2 (fun i _ hh => hh.elim (fun h => by rw [show i = Y from h]; exact hlt) id)) HE.out.size
def RKeep (B R P : Nat) (d : Int) (W : World) : Prop := NBox W R 83 #[.pointer (some ⟨B, 0, none⟩)] ∧ NBox W P 3 #[.int .i64 d]
theorem RKeep.fr {B R P : Nat} {d : Int} {W W' : World} {S : Nat → Prop} (h : RKeep B R P d W) (F : Fr W W' S) (h1 : ¬ S R) (h2 : ¬ S P) : RKeep B R P d W' := ⟨h.1.fr F h1, h.2.fr F h2⟩
theorem ndV_gets (lo : Nat) (x : Nd) (v : Value) (W : World) (h : ndV lo x v W) : ∃ c0 c1 c2 c3 c4 c5, v = .agg #[c0, c1, c2, c3, c4, c5] ∧ (c0.oneCell' = true ∧ c1.oneCell' = true ∧ c2.oneCell' = true ∧ c3.oneCell' = true ∧ c4.oneCell' = true ∧ c5.oneCell' = true) ∧ Late (old lo) (fun W => RdNd W x (.agg #[c0, c1, c2, c3, c4, c5])) W := by
  obtain ⟨aA, ac, kA, kc, rfl⟩ := h.open
  exact ⟨_, _, _, _, _, _, rfl, ⟨rfl, rfl, rfl, rfl, rfl, rfl⟩, h⟩
theorem atrV_gets (lo : Nat) (x : Atr) (v : Value) (W : World) (h : atrV x v W) : ∃ c0 c1, v = .agg #[c0, c1] ∧ (c0.oneCell' = true ∧ c1.oneCell' = true) ∧ Late (old lo) (fun W => RdAtr W x (.agg #[c0, c1])) W := by
  obtain ⟨rfl, h1, h2⟩ := h
  exact ⟨_, _, rfl, ⟨rfl, rfl⟩, Late.all fun _ => ⟨rfl, h1, h2⟩⟩
/-- Where node's head was read. -/
def HeadN (w0 w2 : World) (B k : Nat) (bs : List UInt8) (Z : Nat) (W : World) : Prop := ∃ (i : Nat) (f : Bool) (l : ByteArray) (r : List UInt8), NBox W Z 32 #[.int .u64 (i : Int), .bool f, .string l, .slice none 0 0, .string ⟨#[]⟩, .slice none 0 0] ∧ w2.heap.size ≤ Z ∧ RS w0 W B r ∧ Fr w2 W (isB B) ∧ Hid (nodeP (k + 1) bs = nodeT k i f l r) ∧ okStr l ∧ i < 18446744073709551616
set_option maxRecDepth 100000 in
set_option maxHeartbeats 8000000 in
theorem node_rd (k : Nat) (ih : NodeR k) : NodeR (k + 1) := by
  intro d bs w0 w B hdk h
  have hd : d ≤ 64 := by omega
  obtain ⟨w1, hw1⟩ : ∃ W, ((w.alloc (.cells #[.pointer (some ⟨B, 0, none⟩)] 83)).alloc (.cells #[.int .i64 (d : Int)] 3)).alloc (.cells #[.int .u64 0, .bool false, .string ⟨#[]⟩, .slice none 0 0, .string ⟨#[]⟩, .slice none 0 0] 32) = W := ⟨_, rfl⟩
  obtain ⟨R, hR⟩ : ∃ R, w.heap.size = R := ⟨_, rfl⟩
  have s1 : (w.alloc (.cells #[.pointer (some ⟨B, 0, none⟩)] 83)).heap.size = R + 1 := by rw [World.size_alloc, hR]
  have s2 : ((w.alloc (.cells #[.pointer (some ⟨B, 0, none⟩)] 83)).alloc (.cells #[.int .i64 (d : Int)] 3)).heap.size = R + 1 + 1 := by rw [World.size_alloc, s1]
  have E1 : Ext w w1 := by rw [← hw1]; exact (((Ext.refl w).alloc _).alloc _).alloc _
  have bR : NBox w1 R 83 #[.pointer (some ⟨B, 0, none⟩)] := by rw [← hw1, ← hR]; exact (NBox.new w 83 _).ext (((Ext.refl _).alloc _).alloc _)
  have bP : NBox w1 (R + 1) 3 #[.int .i64 (d : Int)] := by rw [← hw1, ← s1]; exact (NBox.new _ 3 _).ext ((Ext.refl _).alloc _)
  have bY : NBox w1 (R + 1 + 1) 32 #[.int .u64 0, .bool false, .string ⟨#[]⟩, .slice none 0 0, .string ⟨#[]⟩, .slice none 0 0] := by rw [← hw1, ← s2]; exact NBox.new _ _ _
  have hRS := h.more E1
  obtain ⟨rv0, hbx0, -⟩ := h.box
  have hBR : B < R := by rw [← hR]; exact hbx0.lt
  have hB0 : w0.heap.size ≤ R := by rw [← hR]; exact h.ext.size
  have t1 : decide (d ≤ 64) = true := decide_eq_true hd
  have t1' : decide ((d : Int) ≤ 64) = true := decide_eq_true (by omega)
  have hwant := want_yes w1
  have r0 := bR.cell 0
  have p0 := bP.cell 0
  have HE := Lib.hid E1
  have HW := Lib.hid hw1
  have HRR := Lib.hid hR
  have HBR := Lib.hid bR
  have HBP := Lib.hid bP
  have HBY := Lib.hid bY
  have HRS := Lib.hid hRS
  have HKP := Lib.hid (show RKeep B R (R + 1) (d : Int) w1 from ⟨bR, bP⟩)
  have HIH := Lib.hid ih
  clear hw1 hR s1 s2 bR bP bY hRS hbx0 h E1 ih
  go_enter Try.func59, Try.ntmps59
  go_upto_region 1 with fail
  rw [HW.out, HRR.out]
  go_upto_region 2 with (refine hwant.mono ?_; clear hwant; rintro e w2 ⟨rfl, rfl⟩)
  go_cut [5] from 9 to 29 (fun s5 wx => ∃ Z : Nat, s5 = .pointer (some ⟨Z, 0, none⟩) ∧ HeadN w0 w1 B k bs Z wx)
  case first =>
    clear p0 t1 t1'
    have HS : Hid (nodeP (k + 1) bs = match rdNum 0 0 bs with | none => none | some (i, r) => match flagP r with | none => none | some (f, r) => match textP 64 r with | none => none | some (l, r) => nodeT k i f l r) := Lib.hid (nodeP_eq k bs)
    obtain ⟨c0, hc0⟩ : ∃ c0, w1.drew = c0 := ⟨_, rfl⟩
    have hH : c0.cell? ⟨R, 0, none⟩ = some (.pointer (some ⟨B, 0, none⟩)) := by rw [← hc0]; exact (Ext.refl _).drew.cell r0
    have HX0 : Ext w1 c0 := by rw [← hc0]; exact (Ext.refl _).drew
    have HFa := Lib.hid (Fr.of_ext HX0 (isB B))
    have HRa := Lib.hid (HRS.out.more HX0)
    clear HX0 r0
    refine wp_region_held_drew (S := fun W => W.cell? ⟨R, 0, none⟩ = some (.pointer (some ⟨B, 0, none⟩))) (by kernel_rfl) (by rw [hc0]; exact hH) (fun hHeld => ?_)
    rw [hc0] at hHeld ⊢
    clear hc0 hH
    refine wpAnyH_take (i := 0) (oi := ⟨_, _, _, _, _, _⟩) (v := ?_) rfl (by kernel_rfl) (by kernel_rfl) (by kernel_rfl) (fun _ _ _ h => h) (Or.inl ⟨by rfl, ?_⟩) hHeld ?_
    rotate_left
    · intro w hSw
      try dsimp only at hSw
      go_simp
      all_goals (first | with_reducible rfl | rw [if_pos (by omega)])
    try simp only [Act.put, List.setIfInBounds_toArray, List.set_cons_zero, List.set_cons_succ]
    refine wpAnyH_take (i := 2) (oi := ⟨_, _, _, _, _, _⟩) (v := ?_) rfl (by kernel_rfl) (by kernel_rfl) (by kernel_rfl) (fun _ _ _ h => h) (Or.inl ⟨by rfl, ?_⟩) hHeld ?_
    rotate_left
    · intro w hSw
      try dsimp only at hSw
      go_simp
      all_goals (first | with_reducible rfl | rw [if_pos (by omega)])
    try simp only [Act.put, List.setIfInBounds_toArray, List.set_cons_zero, List.set_cons_succ]
    refine wpAnyH_take (i := 4) (oi := ⟨_, _, _, _, _, _⟩) (v := ?_) rfl (by kernel_rfl) (by kernel_rfl) (by kernel_rfl) (fun _ _ _ h => h) (Or.inl ⟨by rfl, ?_⟩) hHeld ?_
    rotate_left
    · intro w hSw
      try dsimp only at hSw
      go_simp
      all_goals (first | with_reducible rfl | rw [if_pos (by omega)])
    try simp only [Act.put, List.setIfInBounds_toArray, List.set_cons_zero, List.set_cons_succ]
    refine wpAnyH_ready (rs := [1, 7]) (by kernel_rfl) (by simp) ?_
    refine AllReadyH.cons (o := ⟨_, _, _, _, _, _⟩) rfl (fun K' hK => ?_) (AllReadyH.cons (o := ⟨_, _, _, _, _, _⟩) rfl (fun K' hK => ?_) (AllReadyH.nil))
    · skip
      have hc := rnumber_any bs w0 c0 B HRa.out
      obtain ⟨p, hp⟩ : ∃ p, rdNum 0 0 bs = p := ⟨_, rfl⟩
      rw [hp] at hc HS
      have HI := Lib.hid (fun i r (hh : p = some (i, r)) => (num_get (hp.trans hh)).2)
      clear hp
      go_simp
      go_at_call 47
      refine hc.mono ?_
      clear hc
      rintro e c1 ⟨hX, hF, hP⟩
      have HX := Lib.hid hX
      have HFb := Lib.hid (HFa.out.trans hF)
      have hC : c1.cell? ⟨R, 0, none⟩ = some (.pointer (some ⟨B, 0, none⟩)) := hF.cell (by show ¬ R = B; omega) hHeld
      clear hX hF HFa HRa
      have HFa := HFb
      clear HFb
      cases p with
      | none =>
        subst hP
        go_wp2_with fail
        exact ⟨rfl, RdC.no HS.out HX.out ((Fr.of_ext HE.out _).trans HFa.out)⟩
      | some xr =>
        obtain ⟨i, r1⟩ := xr
        obtain ⟨v, rfl, hv, hR⟩ := hP
        unfold natV at hv
        subst hv
        have hil := HI.out _ _ rfl
        clear HI
        have HRa := Lib.hid hR
        have HS : Hid (nodeP (k + 1) bs = match flagP r1 with | none => none | some (f, r) => match textP 64 r with | none => none | some (l, r) => nodeT k i f l r) := HS
        refine hK.out _ _ hC (fun hHeld => ?_)
        clear hK K' hC hR HX
        try simp only [Act.put, List.setIfInBounds_toArray, List.set_cons_zero, List.set_cons_succ]
        refine wpAnyH_ready (rs := [3, 7]) (by kernel_rfl) (by simp) ?_
        refine AllReadyH.cons (o := ⟨_, _, _, _, _, _⟩) rfl (fun K' hK => ?_) (AllReadyH.cons (o := ⟨_, _, _, _, _, _⟩) rfl (fun K' hK => ?_) (AllReadyH.nil))
        · skip
          have hc := rflag_any r1 w0 c1 B HRa.out
          obtain ⟨p, hp⟩ : ∃ p, flagP r1 = p := ⟨_, rfl⟩
          rw [hp] at hc HS
          clear hp
          go_simp
          go_at_call 88
          refine hc.mono ?_
          clear hc
          rintro e c2 ⟨hX, hF, hP⟩
          have HX := Lib.hid hX
          have HFb := Lib.hid (HFa.out.trans hF)
          have hC : c2.cell? ⟨R, 0, none⟩ = some (.pointer (some ⟨B, 0, none⟩)) := hF.cell (by show ¬ R = B; omega) hHeld
          clear hX hF HFa HRa
          have HFa := HFb
          clear HFb
          cases p with
          | none =>
            subst hP
            go_wp2_with fail
            exact ⟨rfl, RdC.no HS.out HX.out ((Fr.of_ext HE.out _).trans HFa.out)⟩
          | some xr =>
            obtain ⟨f, r2⟩ := xr
            obtain ⟨v, rfl, hv, hR⟩ := hP
            unfold boolV at hv
            subst hv
            have HRa := Lib.hid hR
            have HS : Hid (nodeP (k + 1) bs = match textP 64 r2 with | none => none | some (l, r) => nodeT k i f l r) := HS
            refine hK.out _ _ hC (fun hHeld => ?_)
            clear hK K' hC hR HX
            try simp only [Act.put, List.setIfInBounds_toArray, List.set_cons_zero, List.set_cons_succ]
            refine wpAnyH_ready (rs := [5, 7]) (by kernel_rfl) (by simp) ?_
            refine AllReadyH.cons (o := ⟨_, _, _, _, _, _⟩) rfl (fun K' hK => ?_) (AllReadyH.cons (o := ⟨_, _, _, _, _, _⟩) rfl (fun K' hK => ?_) (AllReadyH.nil))
            · skip
              have hc := rtext_any 64 (by decide) r2 w0 c2 B HRa.out
              obtain ⟨p, hp⟩ : ∃ p, textP 64 r2 = p := ⟨_, rfl⟩
              rw [hp] at hc HS
              clear hp
              go_simp
              go_at_call 89
              refine hc.mono ?_
              clear hc
              rintro e c3 ⟨hX, hF, hP⟩
              have HX := Lib.hid hX
              have HFb := Lib.hid (HFa.out.trans hF)
              have hC : c3.cell? ⟨R, 0, none⟩ = some (.pointer (some ⟨B, 0, none⟩)) := hF.cell (by show ¬ R = B; omega) hHeld
              clear hX hF HFa HRa
              have HFa := HFb
              clear HFb
              cases p with
              | none =>
                subst hP
                go_wp2_with fail
                exact ⟨rfl, RdC.no HS.out HX.out ((Fr.of_ext HE.out _).trans HFa.out)⟩
              | some xr =>
                obtain ⟨l, r3⟩ := xr
                obtain ⟨v, rfl, hv, hR⟩ := hP
                obtain ⟨rfl, hl⟩ := hv
                have HRa := Lib.hid hR
                have HS : Hid (nodeP (k + 1) bs = nodeT k i f l r3) := HS
                refine hK.out _ _ hC (fun hHeld => ?_)
                clear hK K' hC hR HX
                try simp only [Act.put, List.setIfInBounds_toArray, List.set_cons_zero, List.set_cons_succ]
                refine wpAnyH_take (i := 6) (oi := ⟨_, _, _, _, _, _⟩) (v := ?_) rfl (by kernel_rfl) (by kernel_rfl) (by kernel_rfl) (fun _ _ _ h => h) (Or.inl ⟨by rfl, ?_⟩) hHeld ?_
                rotate_left
                · intro w hSw
                  try dsimp only at hSw
                  go_simp
                  all_goals (first | with_reducible rfl | rw [if_pos (by omega)])
                try simp only [Act.put, List.setIfInBounds_toArray, List.set_cons_zero, List.set_cons_succ]
                refine wpAnyH_ready (rs := [7]) (by kernel_rfl) (by simp) ?_
                refine AllReadyH.cons (o := ⟨_, _, _, _, _, _⟩) rfl (fun K' hK => ?_) (AllReadyH.nil)
                obtain ⟨c4, hw⟩ : ∃ W, c3.alloc (.cells #[.int .u64 0, .bool false, .string ⟨#[]⟩, .slice none 0 0, .string ⟨#[]⟩, .slice none 0 0] 32) = W := ⟨_, rfl⟩
                obtain ⟨Z, hZ⟩ : ∃ Z, c3.heap.size = Z := ⟨_, rfl⟩
                have X : Ext c3 c4 := by rw [← hw]; exact (Ext.refl _).alloc _
                have HZ := Lib.hid (show NBox c4 Z 32 #[.int .u64 0, .bool false, .string ⟨#[]⟩, .slice none 0 0, .string ⟨#[]⟩, .slice none 0 0] from by rw [← hw, ← hZ]; exact NBox.new _ _ _)
                have HRb := Lib.hid (HRa.out.more X)
                have HFb := Lib.hid (HFa.out.trans (Fr.of_ext X _))
                have hZ0 : w1.heap.size ≤ Z := by rw [← hZ]; exact HFa.out.size
                have hC : c4.cell? ⟨R, 0, none⟩ = some (.pointer (some ⟨B, 0, none⟩)) := X.cell hHeld
                have HWW := Lib.hid hw
                have HZZ := Lib.hid hZ
                clear hw hZ X HRa HFa
                have HRa := HRb
                have HFa := HFb
                clear HRb HFb
                go_simp
                rw [HWW.out, HZZ.out]
                refine hK.out _ _ hC (fun hHeld => ?_)
                clear hK K' hC HWW HZZ
                try simp only [Act.put, List.setIfInBounds_toArray, List.set_cons_zero, List.set_cons_succ]
                refine wpAnyH_ready (rs := [8]) (by kernel_rfl) (by simp) ?_
                refine AllReadyH.cons (o := ⟨_, _, _, _, _, _⟩) rfl (fun K' hK => ?_) (AllReadyH.nil)
                have y0 := HZ.out.cell 0
                have y1 := HZ.out.cell 1
                have y2 := HZ.out.cell 2
                have y3 := HZ.out.cell 3
                have y4 := HZ.out.cell 4
                have y5 := HZ.out.cell 5
                have z0 := HZ.out.frozen 0
                have z1 := HZ.out.frozen 1
                have z2 := HZ.out.frozen 2
                have z3 := HZ.out.frozen 3
                have z4 := HZ.out.frozen 4
                have z5 := HZ.out.frozen 5
                go_simp
                have F2 := Fr.six c4 Z (.int .u64 (i : Int)) (.bool f) (.string l) (.slice none 0 0) (.string ⟨#[]⟩) (.slice none 0 0)
                have hlt := HBR.out.lt
                refine hK.out _ _ (F2.cell (by show ¬ R = Z; omega) hHeld) (fun hHeld => ?_)
                clear hK K' y0 y1 y2 y3 y4 y5 z0 z1 z2 z3 z4 z5
                try simp only [Act.put, List.setIfInBounds_toArray, List.set_cons_zero, List.set_cons_succ]
                refine wpAnyH_done (by kernel_rfl) ?_ _
                clear hHeld
                go_wp2_with fail
                go_meet
                obtain ⟨rv2, hbx2, hrd2⟩ := HRa.out.box
                exact ⟨Z, rfl, i, f, l, _, HZ.out.six _ _ _ _ _ _, hZ0, ⟨Fr.ext HRa.out.ext F2 (fun q hq => by rw [hq]; omega), HRa.out.hB, rv2, hbx2.fr F2 (fun hh => by have : B = Z := hh; omega), hrd2⟩, Fr.new ((HFa.out.mono fun q hq => .inl hq).trans (F2.mono fun q hq => .inr (by rw [hq]; exact hZ0))), HS, hl, hil⟩
            · skip
              obtain ⟨c5, hw⟩ : ∃ W, c2.alloc (.cells #[.int .u64 0, .bool false, .string ⟨#[]⟩, .slice none 0 0, .string ⟨#[]⟩, .slice none 0 0] 32) = W := ⟨_, rfl⟩
              obtain ⟨Z, hZ⟩ : ∃ Z, c2.heap.size = Z := ⟨_, rfl⟩
              have X : Ext c2 c5 := by rw [← hw]; exact (Ext.refl _).alloc _
              have HZ := Lib.hid (show NBox c5 Z 32 #[.int .u64 0, .bool false, .string ⟨#[]⟩, .slice none 0 0, .string ⟨#[]⟩, .slice none 0 0] from by rw [← hw, ← hZ]; exact NBox.new _ _ _)
              have HRb := Lib.hid (HRa.out.more X)
              have HFb := Lib.hid (HFa.out.trans (Fr.of_ext X _))
              have hZ0 : w1.heap.size ≤ Z := by rw [← hZ]; exact HFa.out.size
              have hC : c5.cell? ⟨R, 0, none⟩ = some (.pointer (some ⟨B, 0, none⟩)) := X.cell hHeld
              have HWW := Lib.hid hw
              have HZZ := Lib.hid hZ
              clear hw hZ X HRa HFa
              have HRa := HRb
              have HFa := HFb
              clear HRb HFb
              go_simp
              rw [HWW.out, HZZ.out]
              refine hK.out _ _ hC (fun hHeld => ?_)
              clear hK K' hC HWW HZZ
              try simp only [Act.put, List.setIfInBounds_toArray, List.set_cons_zero, List.set_cons_succ]
              refine wpAnyH_ready (rs := [5]) (by kernel_rfl) (by simp) ?_
              refine AllReadyH.cons (o := ⟨_, _, _, _, _, _⟩) rfl (fun K' hK => ?_) (AllReadyH.nil)
              have hc := rtext_any 64 (by decide) r2 w0 c5 B HRa.out
              obtain ⟨p, hp⟩ : ∃ p, textP 64 r2 = p := ⟨_, rfl⟩
              rw [hp] at hc HS
              clear hp
              go_simp
              go_at_call 89
              refine hc.mono ?_
              clear hc
              rintro e c6 ⟨hX, hF, hP⟩
              have HX := Lib.hid hX
              have HFb := Lib.hid (HFa.out.trans hF)
              have hC : c6.cell? ⟨R, 0, none⟩ = some (.pointer (some ⟨B, 0, none⟩)) := hF.cell (by show ¬ R = B; omega) hHeld
              have HZb := Lib.hid (HZ.out.fr hF (by have := HBR.out.lt; show ¬ _ = B; omega))
              clear HZ
              have HZ := HZb
              clear HZb
              clear hX hF HFa HRa
              have HFa := HFb
              clear HFb
              cases p with
              | none =>
                subst hP
                go_wp2_with fail
                exact ⟨rfl, RdC.no HS.out HX.out ((Fr.of_ext HE.out _).trans HFa.out)⟩
              | some xr =>
                obtain ⟨l, r3⟩ := xr
                obtain ⟨v, rfl, hv, hR⟩ := hP
                obtain ⟨rfl, hl⟩ := hv
                have HRa := Lib.hid hR
                have HS : Hid (nodeP (k + 1) bs = nodeT k i f l r3) := HS
                refine hK.out _ _ hC (fun hHeld => ?_)
                clear hK K' hC hR HX
                try simp only [Act.put, List.setIfInBounds_toArray, List.set_cons_zero, List.set_cons_succ]
                refine wpAnyH_take (i := 6) (oi := ⟨_, _, _, _, _, _⟩) (v := ?_) rfl (by kernel_rfl) (by kernel_rfl) (by kernel_rfl) (fun _ _ _ h => h) (Or.inl ⟨by rfl, ?_⟩) hHeld ?_
                rotate_left
                · intro w hSw
                  try dsimp only at hSw
                  go_simp
                  all_goals (first | with_reducible rfl | rw [if_pos (by omega)])
                try simp only [Act.put, List.setIfInBounds_toArray, List.set_cons_zero, List.set_cons_succ]
                refine wpAnyH_ready (rs := [8]) (by kernel_rfl) (by simp) ?_
                refine AllReadyH.cons (o := ⟨_, _, _, _, _, _⟩) rfl (fun K' hK => ?_) (AllReadyH.nil)
                have y0 := HZ.out.cell 0
                have y1 := HZ.out.cell 1
                have y2 := HZ.out.cell 2
                have y3 := HZ.out.cell 3
                have y4 := HZ.out.cell 4
                have y5 := HZ.out.cell 5
                have z0 := HZ.out.frozen 0
                have z1 := HZ.out.frozen 1
                have z2 := HZ.out.frozen 2
                have z3 := HZ.out.frozen 3
                have z4 := HZ.out.frozen 4
                have z5 := HZ.out.frozen 5
                go_simp
                have F2 := Fr.six c6 Z (.int .u64 (i : Int)) (.bool f) (.string l) (.slice none 0 0) (.string ⟨#[]⟩) (.slice none 0 0)
                have hlt := HBR.out.lt
                refine hK.out _ _ (F2.cell (by show ¬ R = Z; omega) hHeld) (fun hHeld => ?_)
                clear hK K' y0 y1 y2 y3 y4 y5 z0 z1 z2 z3 z4 z5
                try simp only [Act.put, List.setIfInBounds_toArray, List.set_cons_zero, List.set_cons_succ]
                refine wpAnyH_done (by kernel_rfl) ?_ _
                clear hHeld
                go_wp2_with fail
                go_meet
                obtain ⟨rv2, hbx2, hrd2⟩ := HRa.out.box
                exact ⟨Z, rfl, i, f, l, _, HZ.out.six _ _ _ _ _ _, hZ0, ⟨Fr.ext HRa.out.ext F2 (fun q hq => by rw [hq]; omega), HRa.out.hB, rv2, hbx2.fr F2 (fun hh => by have : B = Z := hh; omega), hrd2⟩, Fr.new ((HFa.out.mono fun q hq => .inl hq).trans (F2.mono fun q hq => .inr (by rw [hq]; exact hZ0))), HS, hl, hil⟩
        · skip
          obtain ⟨c7, hw⟩ : ∃ W, c1.alloc (.cells #[.int .u64 0, .bool false, .string ⟨#[]⟩, .slice none 0 0, .string ⟨#[]⟩, .slice none 0 0] 32) = W := ⟨_, rfl⟩
          obtain ⟨Z, hZ⟩ : ∃ Z, c1.heap.size = Z := ⟨_, rfl⟩
          have X : Ext c1 c7 := by rw [← hw]; exact (Ext.refl _).alloc _
          have HZ := Lib.hid (show NBox c7 Z 32 #[.int .u64 0, .bool false, .string ⟨#[]⟩, .slice none 0 0, .string ⟨#[]⟩, .slice none 0 0] from by rw [← hw, ← hZ]; exact NBox.new _ _ _)
          have HRb := Lib.hid (HRa.out.more X)
          have HFb := Lib.hid (HFa.out.trans (Fr.of_ext X _))
          have hZ0 : w1.heap.size ≤ Z := by rw [← hZ]; exact HFa.out.size
          have hC : c7.cell? ⟨R, 0, none⟩ = some (.pointer (some ⟨B, 0, none⟩)) := X.cell hHeld
          have HWW := Lib.hid hw
          have HZZ := Lib.hid hZ
          clear hw hZ X HRa HFa
          have HRa := HRb
          have HFa := HFb
          clear HRb HFb
          go_simp
          rw [HWW.out, HZZ.out]
          refine hK.out _ _ hC (fun hHeld => ?_)
          clear hK K' hC HWW HZZ
          try simp only [Act.put, List.setIfInBounds_toArray, List.set_cons_zero, List.set_cons_succ]
          refine wpAnyH_ready (rs := [3]) (by kernel_rfl) (by simp) ?_
          refine AllReadyH.cons (o := ⟨_, _, _, _, _, _⟩) rfl (fun K' hK => ?_) (AllReadyH.nil)
          have hc := rflag_any r1 w0 c7 B HRa.out
          obtain ⟨p, hp⟩ : ∃ p, flagP r1 = p := ⟨_, rfl⟩
          rw [hp] at hc HS
          clear hp
          go_simp
          go_at_call 88
          refine hc.mono ?_
          clear hc
          rintro e c8 ⟨hX, hF, hP⟩
          have HX := Lib.hid hX
          have HFb := Lib.hid (HFa.out.trans hF)
          have hC : c8.cell? ⟨R, 0, none⟩ = some (.pointer (some ⟨B, 0, none⟩)) := hF.cell (by show ¬ R = B; omega) hHeld
          have HZb := Lib.hid (HZ.out.fr hF (by have := HBR.out.lt; show ¬ _ = B; omega))
          clear HZ
          have HZ := HZb
          clear HZb
          clear hX hF HFa HRa
          have HFa := HFb
          clear HFb
          cases p with
          | none =>
            subst hP
            go_wp2_with fail
            exact ⟨rfl, RdC.no HS.out HX.out ((Fr.of_ext HE.out _).trans HFa.out)⟩
          | some xr =>
            obtain ⟨f, r2⟩ := xr
            obtain ⟨v, rfl, hv, hR⟩ := hP
            unfold boolV at hv
            subst hv
            have HRa := Lib.hid hR
            have HS : Hid (nodeP (k + 1) bs = match textP 64 r2 with | none => none | some (l, r) => nodeT k i f l r) := HS
            refine hK.out _ _ hC (fun hHeld => ?_)
            clear hK K' hC hR HX
            try simp only [Act.put, List.setIfInBounds_toArray, List.set_cons_zero, List.set_cons_succ]
            refine wpAnyH_ready (rs := [5]) (by kernel_rfl) (by simp) ?_
            refine AllReadyH.cons (o := ⟨_, _, _, _, _, _⟩) rfl (fun K' hK => ?_) (AllReadyH.nil)
            have hc := rtext_any 64 (by decide) r2 w0 c8 B HRa.out
            obtain ⟨p, hp⟩ : ∃ p, textP 64 r2 = p := ⟨_, rfl⟩
            rw [hp] at hc HS
            clear hp
            go_simp
            go_at_call 89
            refine hc.mono ?_
            clear hc
            rintro e c9 ⟨hX, hF, hP⟩
            have HX := Lib.hid hX
            have HFb := Lib.hid (HFa.out.trans hF)
            have hC : c9.cell? ⟨R, 0, none⟩ = some (.pointer (some ⟨B, 0, none⟩)) := hF.cell (by show ¬ R = B; omega) hHeld
            have HZb := Lib.hid (HZ.out.fr hF (by have := HBR.out.lt; show ¬ _ = B; omega))
            clear HZ
            have HZ := HZb
            clear HZb
            clear hX hF HFa HRa
            have HFa := HFb
            clear HFb
            cases p with
            | none =>
              subst hP
              go_wp2_with fail
              exact ⟨rfl, RdC.no HS.out HX.out ((Fr.of_ext HE.out _).trans HFa.out)⟩
            | some xr =>
              obtain ⟨l, r3⟩ := xr
              obtain ⟨v, rfl, hv, hR⟩ := hP
              obtain ⟨rfl, hl⟩ := hv
              have HRa := Lib.hid hR
              have HS : Hid (nodeP (k + 1) bs = nodeT k i f l r3) := HS
              refine hK.out _ _ hC (fun hHeld => ?_)
              clear hK K' hC hR HX
              try simp only [Act.put, List.setIfInBounds_toArray, List.set_cons_zero, List.set_cons_succ]
              refine wpAnyH_take (i := 6) (oi := ⟨_, _, _, _, _, _⟩) (v := ?_) rfl (by kernel_rfl) (by kernel_rfl) (by kernel_rfl) (fun _ _ _ h => h) (Or.inl ⟨by rfl, ?_⟩) hHeld ?_
              rotate_left
              · intro w hSw
                try dsimp only at hSw
                go_simp
                all_goals (first | with_reducible rfl | rw [if_pos (by omega)])
              try simp only [Act.put, List.setIfInBounds_toArray, List.set_cons_zero, List.set_cons_succ]
              refine wpAnyH_ready (rs := [8]) (by kernel_rfl) (by simp) ?_
              refine AllReadyH.cons (o := ⟨_, _, _, _, _, _⟩) rfl (fun K' hK => ?_) (AllReadyH.nil)
              have y0 := HZ.out.cell 0
              have y1 := HZ.out.cell 1
              have y2 := HZ.out.cell 2
              have y3 := HZ.out.cell 3
              have y4 := HZ.out.cell 4
              have y5 := HZ.out.cell 5
              have z0 := HZ.out.frozen 0
              have z1 := HZ.out.frozen 1
              have z2 := HZ.out.frozen 2
              have z3 := HZ.out.frozen 3
              have z4 := HZ.out.frozen 4
              have z5 := HZ.out.frozen 5
              go_simp
              have F2 := Fr.six c9 Z (.int .u64 (i : Int)) (.bool f) (.string l) (.slice none 0 0) (.string ⟨#[]⟩) (.slice none 0 0)
              have hlt := HBR.out.lt
              refine hK.out _ _ (F2.cell (by show ¬ R = Z; omega) hHeld) (fun hHeld => ?_)
              clear hK K' y0 y1 y2 y3 y4 y5 z0 z1 z2 z3 z4 z5
              try simp only [Act.put, List.setIfInBounds_toArray, List.set_cons_zero, List.set_cons_succ]
              refine wpAnyH_done (by kernel_rfl) ?_ _
              clear hHeld
              go_wp2_with fail
              go_meet
              obtain ⟨rv2, hbx2, hrd2⟩ := HRa.out.box
              exact ⟨Z, rfl, i, f, l, _, HZ.out.six _ _ _ _ _ _, hZ0, ⟨Fr.ext HRa.out.ext F2 (fun q hq => by rw [hq]; omega), HRa.out.hB, rv2, hbx2.fr F2 (fun hh => by have : B = Z := hh; omega), hrd2⟩, Fr.new ((HFa.out.mono fun q hq => .inl hq).trans (F2.mono fun q hq => .inr (by rw [hq]; exact hZ0))), HS, hl, hil⟩
    · skip
      obtain ⟨c10, hw⟩ : ∃ W, c0.alloc (.cells #[.int .u64 0, .bool false, .string ⟨#[]⟩, .slice none 0 0, .string ⟨#[]⟩, .slice none 0 0] 32) = W := ⟨_, rfl⟩
      obtain ⟨Z, hZ⟩ : ∃ Z, c0.heap.size = Z := ⟨_, rfl⟩
      have X : Ext c0 c10 := by rw [← hw]; exact (Ext.refl _).alloc _
      have HZ := Lib.hid (show NBox c10 Z 32 #[.int .u64 0, .bool false, .string ⟨#[]⟩, .slice none 0 0, .string ⟨#[]⟩, .slice none 0 0] from by rw [← hw, ← hZ]; exact NBox.new _ _ _)
      have HRb := Lib.hid (HRa.out.more X)
      have HFb := Lib.hid (HFa.out.trans (Fr.of_ext X _))
      have hZ0 : w1.heap.size ≤ Z := by rw [← hZ]; exact HFa.out.size
      have hC : c10.cell? ⟨R, 0, none⟩ = some (.pointer (some ⟨B, 0, none⟩)) := X.cell hHeld
      have HWW := Lib.hid hw
      have HZZ := Lib.hid hZ
      clear hw hZ X HRa HFa
      have HRa := HRb
      have HFa := HFb
      clear HRb HFb
      go_simp
      rw [HWW.out, HZZ.out]
      refine hK.out _ _ hC (fun hHeld => ?_)
      clear hK K' hC HWW HZZ
      try simp only [Act.put, List.setIfInBounds_toArray, List.set_cons_zero, List.set_cons_succ]
      refine wpAnyH_ready (rs := [1]) (by kernel_rfl) (by simp) ?_
      refine AllReadyH.cons (o := ⟨_, _, _, _, _, _⟩) rfl (fun K' hK => ?_) (AllReadyH.nil)
      have hc := rnumber_any bs w0 c10 B HRa.out
      obtain ⟨p, hp⟩ : ∃ p, rdNum 0 0 bs = p := ⟨_, rfl⟩
      rw [hp] at hc HS
      have HI := Lib.hid (fun i r (hh : p = some (i, r)) => (num_get (hp.trans hh)).2)
      clear hp
      go_simp
      go_at_call 47
      refine hc.mono ?_
      clear hc
      rintro e c11 ⟨hX, hF, hP⟩
      have HX := Lib.hid hX
      have HFb := Lib.hid (HFa.out.trans hF)
      have hC : c11.cell? ⟨R, 0, none⟩ = some (.pointer (some ⟨B, 0, none⟩)) := hF.cell (by show ¬ R = B; omega) hHeld
      have HZb := Lib.hid (HZ.out.fr hF (by have := HBR.out.lt; show ¬ _ = B; omega))
      clear HZ
      have HZ := HZb
      clear HZb
      clear hX hF HFa HRa
      have HFa := HFb
      clear HFb
      cases p with
      | none =>
        subst hP
        go_wp2_with fail
        exact ⟨rfl, RdC.no HS.out HX.out ((Fr.of_ext HE.out _).trans HFa.out)⟩
      | some xr =>
        obtain ⟨i, r1⟩ := xr
        obtain ⟨v, rfl, hv, hR⟩ := hP
        unfold natV at hv
        subst hv
        have hil := HI.out _ _ rfl
        clear HI
        have HRa := Lib.hid hR
        have HS : Hid (nodeP (k + 1) bs = match flagP r1 with | none => none | some (f, r) => match textP 64 r with | none => none | some (l, r) => nodeT k i f l r) := HS
        refine hK.out _ _ hC (fun hHeld => ?_)
        clear hK K' hC hR HX
        try simp only [Act.put, List.setIfInBounds_toArray, List.set_cons_zero, List.set_cons_succ]
        refine wpAnyH_ready (rs := [3]) (by kernel_rfl) (by simp) ?_
        refine AllReadyH.cons (o := ⟨_, _, _, _, _, _⟩) rfl (fun K' hK => ?_) (AllReadyH.nil)
        have hc := rflag_any r1 w0 c11 B HRa.out
        obtain ⟨p, hp⟩ : ∃ p, flagP r1 = p := ⟨_, rfl⟩
        rw [hp] at hc HS
        clear hp
        go_simp
        go_at_call 88
        refine hc.mono ?_
        clear hc
        rintro e c12 ⟨hX, hF, hP⟩
        have HX := Lib.hid hX
        have HFb := Lib.hid (HFa.out.trans hF)
        have hC : c12.cell? ⟨R, 0, none⟩ = some (.pointer (some ⟨B, 0, none⟩)) := hF.cell (by show ¬ R = B; omega) hHeld
        have HZb := Lib.hid (HZ.out.fr hF (by have := HBR.out.lt; show ¬ _ = B; omega))
        clear HZ
        have HZ := HZb
        clear HZb
        clear hX hF HFa HRa
        have HFa := HFb
        clear HFb
        cases p with
        | none =>
          subst hP
          go_wp2_with fail
          exact ⟨rfl, RdC.no HS.out HX.out ((Fr.of_ext HE.out _).trans HFa.out)⟩
        | some xr =>
          obtain ⟨f, r2⟩ := xr
          obtain ⟨v, rfl, hv, hR⟩ := hP
          unfold boolV at hv
          subst hv
          have HRa := Lib.hid hR
          have HS : Hid (nodeP (k + 1) bs = match textP 64 r2 with | none => none | some (l, r) => nodeT k i f l r) := HS
          refine hK.out _ _ hC (fun hHeld => ?_)
          clear hK K' hC hR HX
          try simp only [Act.put, List.setIfInBounds_toArray, List.set_cons_zero, List.set_cons_succ]
          refine wpAnyH_ready (rs := [5]) (by kernel_rfl) (by simp) ?_
          refine AllReadyH.cons (o := ⟨_, _, _, _, _, _⟩) rfl (fun K' hK => ?_) (AllReadyH.nil)
          have hc := rtext_any 64 (by decide) r2 w0 c12 B HRa.out
          obtain ⟨p, hp⟩ : ∃ p, textP 64 r2 = p := ⟨_, rfl⟩
          rw [hp] at hc HS
          clear hp
          go_simp
          go_at_call 89
          refine hc.mono ?_
          clear hc
          rintro e c13 ⟨hX, hF, hP⟩
          have HX := Lib.hid hX
          have HFb := Lib.hid (HFa.out.trans hF)
          have hC : c13.cell? ⟨R, 0, none⟩ = some (.pointer (some ⟨B, 0, none⟩)) := hF.cell (by show ¬ R = B; omega) hHeld
          have HZb := Lib.hid (HZ.out.fr hF (by have := HBR.out.lt; show ¬ _ = B; omega))
          clear HZ
          have HZ := HZb
          clear HZb
          clear hX hF HFa HRa
          have HFa := HFb
          clear HFb
          cases p with
          | none =>
            subst hP
            go_wp2_with fail
            exact ⟨rfl, RdC.no HS.out HX.out ((Fr.of_ext HE.out _).trans HFa.out)⟩
          | some xr =>
            obtain ⟨l, r3⟩ := xr
            obtain ⟨v, rfl, hv, hR⟩ := hP
            obtain ⟨rfl, hl⟩ := hv
            have HRa := Lib.hid hR
            have HS : Hid (nodeP (k + 1) bs = nodeT k i f l r3) := HS
            refine hK.out _ _ hC (fun hHeld => ?_)
            clear hK K' hC hR HX
            try simp only [Act.put, List.setIfInBounds_toArray, List.set_cons_zero, List.set_cons_succ]
            refine wpAnyH_take (i := 6) (oi := ⟨_, _, _, _, _, _⟩) (v := ?_) rfl (by kernel_rfl) (by kernel_rfl) (by kernel_rfl) (fun _ _ _ h => h) (Or.inl ⟨by rfl, ?_⟩) hHeld ?_
            rotate_left
            · intro w hSw
              try dsimp only at hSw
              go_simp
              all_goals (first | with_reducible rfl | rw [if_pos (by omega)])
            try simp only [Act.put, List.setIfInBounds_toArray, List.set_cons_zero, List.set_cons_succ]
            refine wpAnyH_ready (rs := [8]) (by kernel_rfl) (by simp) ?_
            refine AllReadyH.cons (o := ⟨_, _, _, _, _, _⟩) rfl (fun K' hK => ?_) (AllReadyH.nil)
            have y0 := HZ.out.cell 0
            have y1 := HZ.out.cell 1
            have y2 := HZ.out.cell 2
            have y3 := HZ.out.cell 3
            have y4 := HZ.out.cell 4
            have y5 := HZ.out.cell 5
            have z0 := HZ.out.frozen 0
            have z1 := HZ.out.frozen 1
            have z2 := HZ.out.frozen 2
            have z3 := HZ.out.frozen 3
            have z4 := HZ.out.frozen 4
            have z5 := HZ.out.frozen 5
            go_simp
            have F2 := Fr.six c13 Z (.int .u64 (i : Int)) (.bool f) (.string l) (.slice none 0 0) (.string ⟨#[]⟩) (.slice none 0 0)
            have hlt := HBR.out.lt
            refine hK.out _ _ (F2.cell (by show ¬ R = Z; omega) hHeld) (fun hHeld => ?_)
            clear hK K' y0 y1 y2 y3 y4 y5 z0 z1 z2 z3 z4 z5
            try simp only [Act.put, List.setIfInBounds_toArray, List.set_cons_zero, List.set_cons_succ]
            refine wpAnyH_done (by kernel_rfl) ?_ _
            clear hHeld
            go_wp2_with fail
            go_meet
            obtain ⟨rv2, hbx2, hrd2⟩ := HRa.out.box
            exact ⟨Z, rfl, i, f, l, _, HZ.out.six _ _ _ _ _ _, hZ0, ⟨Fr.ext HRa.out.ext F2 (fun q hq => by rw [hq]; omega), HRa.out.hB, rv2, hbx2.fr F2 (fun hh => by have : B = Z := hh; omega), hrd2⟩, Fr.new ((HFa.out.mono fun q hq => .inl hq).trans (F2.mono fun q hq => .inr (by rw [hq]; exact hZ0))), HS, hl, hil⟩
  case rest =>
    obtain ⟨Z, rfl, i, f, l, r, hZ, hZ0, hR, hF, HS, hl, hil⟩ := hcut
    have hlt := HBY.out.lt
    have hlz := hZ.lt
    have HSZ := Lib.hid (show w1.heap.size ≤ wc.heap.size from hF.size)
    have hj : RKeep B R (R + 1) (d : Int) wc := HKP.out.fr hF (by show ¬ R = B; omega) (by show ¬ R + 1 = B; omega)
    have HJK := Lib.hid hj
    have hJ : ∀ W W' S, RKeep B R (R + 1) (d : Int) W → Fr W W' S → (∀ k, S k → k = B ∨ wc.heap.size ≤ k) → RKeep B R (R + 1) (d : Int) W' := fun W W' S h1 h2 h3 => h1.fr h2 (fun hs => by have := h3 _ hs; have := HSZ.out; omega) (fun hs => by have := h3 _ hs; have := HSZ.out; omega)
    have hc := gets90_any RdAtr (fun _ => atrV) attrP 91 #[.pointer (some ⟨R, 0, none⟩)] enters91 2048 (by decide) r w0 wc B hR (RKeep B R (R + 1) (d : Int)) hj hJ atrV_gets (fun b W hb hj _ => rattr1_any b w0 W B R hb hj.1)
    rw [show ((2048 : Nat) : Int) = 2048 from rfl] at hc
    have r0 := hj.1.cell 0
    have HFc := Lib.hid hF
    have HZc := Lib.hid hZ
    have HYc := Lib.hid (HBY.out.fr hF (by show ¬ R + 1 + 1 = B; omega))
    unfold nodeT at HS
    obtain ⟨p, hp⟩ : ∃ p, rowP 2048 attrP r = p := ⟨_, rfl⟩
    rw [hp] at hc HS
    clear hp hF hZ hj hJ hR p0 HBR HBP HRS HKP t1 t1'
    go_wp2_with fail
    refine hc.mono ?_
    clear hc r0
    rintro e w3 ⟨hX3, hF3, hP⟩
    have HX3 := Lib.hid hX3
    cases p with
    | none =>
      subst hP
      have HF := Lib.hid ((Fr.of_ext HE.out _).trans (HFc.out.trans hF3))
      clear hX3 hF3
      go_wp2_with fail
      exact ⟨rfl, RdC.no HS.out HX3.out HF.out⟩
    | some ar =>
      obtain ⟨a, r2⟩ := ar
      obtain ⟨av, rfl, hav, hR2⟩ := hP
      have HA0 := Lib.hid hav.atrs
      obtain ⟨us, hO, -⟩ := hav
      obtain ⟨aA, ac, rfl, -⟩ := RdS.of_owns hO
      have hZ3 := HZc.out.fr hF3 (by show ¬ Z = B; omega)
      have z3 := hZ3.cell 3
      have fz3 := hZ3.frozen 3
      obtain ⟨w4, hw4⟩ : ∃ W, w3.setCell ⟨Z, 3, none⟩ (.slice aA a.length ac) = W := ⟨_, rfl⟩
      have F4 : Fr w3 w4 (isB Z) := by rw [← hw4]; exact Fr.setCell _ _ _ _
      have HZ := Lib.hid (show NBox w4 Z 32 #[.int .u64 (i : Int), .bool f, .string l, .slice aA a.length ac, .string ⟨#[]⟩, .slice none 0 0] from by rw [← hw4]; exact hZ3.set 3 _)
      have HR4 := Lib.hid (hR2.fr F4 (fun q hq => by rw [show q = Z from hq]; omega) (by show ¬ B = Z; omega))
      have hJ4 : RKeep B R (R + 1) (d : Int) w4 := (HJK.out.fr hF3 (by show ¬ R = B; omega) (by show ¬ R + 1 = B; omega)).fr F4 (by show ¬ R = Z; omega) (by show ¬ R + 1 = Z; omega)
      have HY4 := Lib.hid ((HYc.out.fr hF3 (by show ¬ R + 1 + 1 = B; omega)).fr F4 (by show ¬ R + 1 + 1 = Z; omega))
      have HA4 := Lib.hid (HA0.out.to (S' := old wc.heap.size) F4 (fun q _ hh => hh.elim (fun h => by rw [show q = Z from h]; exact hlz) id))
      have HF4 := Lib.hid (show Fr w1 w4 (fun q => q = B ∨ w1.heap.size ≤ q) from ((HFc.out.trans hF3).mono fun q hq => .inl hq).trans (F4.mono fun q hq => .inr (by rw [show q = Z from hq]; exact hZ0)))
      have HSZ4 := Lib.hid (show wc.heap.size ≤ w4.heap.size from Nat.le_trans hF3.size F4.size)
      have HJ4 := Lib.hid hJ4
      have HW4 := Lib.hid hw4
      have r4 := hJ4.1.cell 0
      have zl := HZ.out.cell 1
      clear hX3 hF3 hR2 hO hZ3 hw4 F4 HJK HYc HZc HA0 HFc hJ4
      cases f with
      | true =>
        have HS : Hid (nodeP (k + 1) bs = match textP 2048 r2 with | none => none | some (t, r) => some (.mk i true l a t [], r)) := HS
        have hc := rtext_any 2048 (by decide) r2 w0 w4 B HR4.out
        rw [show ((2048 : Nat) : Int) = 2048 from rfl] at hc
        obtain ⟨p, hp⟩ : ∃ p, textP 2048 r2 = p := ⟨_, rfl⟩
        rw [hp] at hc HS
        clear hp
        go_wp2_with (rw [HW4.out]; clear HW4)
        refine hc.mono ?_
        clear hc r4 zl
        rintro e w5 ⟨hX5, hF5, hP⟩
        have HX5 := Lib.hid hX5
        cases p with
        | none =>
          subst hP
          have HF := Lib.hid (Fr.new (((Fr.of_ext HE.out _).trans (HF4.out.mono fun q hq => hq.imp id fun h => show w.heap.size ≤ q from Nat.le_trans HE.out.size h)).trans (hF5.mono fun q hq => .inl hq)))
          clear hX5 hF5
          go_wp2_with fail
          exact ⟨rfl, RdC.no HS.out HX5.out HF.out⟩
        | some tr =>
          obtain ⟨t, r3⟩ := tr
          obtain ⟨tv, rfl, ⟨rfl, htl⟩, hR5⟩ := hP
          have hZ5 := HZ.out.fr hF5 (by show ¬ Z = B; omega)
          have z4 := hZ5.cell 4
          have fz4 := hZ5.frozen 4
          obtain ⟨w6, hw6⟩ : ∃ W, w5.setCell ⟨Z, 4, none⟩ (.string t) = W := ⟨_, rfl⟩
          have F6 : Fr w5 w6 (isB Z) := by rw [← hw6]; exact Fr.setCell _ _ _ _
          have HZb := Lib.hid (show NBox w6 Z 32 #[.int .u64 (i : Int), .bool true, .string l, .slice aA a.length ac, .string t, .slice none 0 0] from by rw [← hw6]; exact hZ5.set 4 _)
          have HRw := Lib.hid (hR5.fr F6 (fun q hq => by rw [show q = Z from hq]; omega) (by show ¬ B = Z; omega))
          have HYW := Lib.hid ((HY4.out.fr hF5 (by show ¬ R + 1 + 1 = B; omega)).fr F6 (by show ¬ R + 1 + 1 = Z; omega))
          have HA := Lib.hid (HA4.out.to (S' := old wc.heap.size) (hF5.join F6 (U := fun q => q = B ∨ q = Z) (fun q _ h => h)) (fun q _ hh => hh.elim (fun h => h.elim (fun h => by rw [h]; show B < _; omega) (fun h => by rw [h]; exact hlz)) id))
          have HFw := Lib.hid (show Fr w1 w6 (fun q => q = B ∨ w1.heap.size ≤ q) from (HF4.out.trans (hF5.mono fun q hq => .inl hq)).trans (F6.mono fun q hq => .inr (by rw [show q = Z from hq]; exact hZ0)))
          have HW6 := Lib.hid hw6
          clear hX5 hF5 hR5 hZ5 hw6 F6 HY4 HZ HA4 HF4 HR4
          have HZ := HZb
          clear HZb
          go_upto_region 7 with fail
          rw [HW6.out]
          clear z4 fz4
          have y0 := HYW.out.cell 0
          have f0 := HYW.out.frozen 0
          have z0 := HZ.out.cell 0
          have y1 := HYW.out.cell 1
          have f1 := HYW.out.frozen 1
          have z1 := HZ.out.cell 1
          have y2 := HYW.out.cell 2
          have f2 := HYW.out.frozen 2
          have z2 := HZ.out.cell 2
          have y3 := HYW.out.cell 3
          have f3 := HYW.out.frozen 3
          have z3 := HZ.out.cell 3
          have y4 := HYW.out.cell 4
          have f4 := HYW.out.frozen 4
          have z4 := HZ.out.cell 4
          have y5 := HYW.out.cell 5
          have f5 := HYW.out.frozen 5
          have z5 := HZ.out.cell 5
          go_wp2_with fail
          refine bodyPost_ret (results_st rfl _ rfl (HYW.out.six _ _ _ _ _ _) Try.underlying32 rfl info32) rfl ?_
          have F2 := Fr.six w6 (R + 1 + 1) (.int .u64 (i : Int)) (.bool true) (.string l) (.slice aA a.length ac) (.string t) (.slice none 0 0)
          obtain ⟨rv2, hbx2, hrd2⟩ := HRw.out.box
          refine RdC.yes HS.out ?_ ⟨Fr.ext HRw.out.ext F2 (fun q hq => by rw [hq]; omega), HRw.out.hB, rv2, hbx2.fr F2 (fun hh => by have : B = R + 1 + 1 := hh; omega), hrd2⟩ (Fr.new (((Fr.of_ext HE.out _).trans (HFw.out.mono fun q hq => hq.imp id fun h => show w.heap.size ≤ q from Nat.le_trans HE.out.size h)).trans (F2.mono fun q hq => .inr (by rw [hq, HRR.out]; omega))))
          have hY1 := HBY.out.lt
          have a1 : Late (old w.heap.size) (fun W => RdA W a (.slice aA a.length ac)) _ := HA.out.to F2 (fun q hq hh => by
            rcases hh with hh | hh
            · rw [show q = R + 1 + 1 from hh]; exact Nat.lt_of_lt_of_le hY1 HSZ.out
            · exact Nat.lt_of_lt_of_le (show q < w.heap.size from hh) (Nat.le_trans HE.out.size HSZ.out))
          exact (a1.and (show Late (old w.heap.size) (fun W => RdK W [] (.slice none 0 0)) _ from Late.all fun W => ⟨none, 0, rfl, Nat.le_refl _, by decide, fun h => absurd rfl h⟩)).imp fun W ⟨h1, h2⟩ => Nd.rd_shut (t := .mk (i : Int) true l a t []) (Int.natCast_nonneg i) (by show (i : Int) ≤ _; omega) hl htl h1 h2
      | false =>
        have HS : Hid (nodeP (k + 1) bs = match rowP 512 (nodeP k) r2 with | none => none | some (c, r) => some (.mk i false l a ⟨#[]⟩ c, r)) := HS
        have hJ : ∀ W W' S, RKeep B R (R + 1) (d : Int) W → Fr W W' S → (∀ k, S k → k = B ∨ w4.heap.size ≤ k) → RKeep B R (R + 1) (d : Int) W' := fun W W' S h1 h2 h3 => h1.fr h2 (fun hs => by have := h3 _ hs; have := HSZ.out; have := HSZ4.out; omega) (fun hs => by have := h3 _ hs; have := HSZ.out; have := HSZ4.out; omega)
        have hc := gets92_any RdNd ndV (nodeP k) 93 #[.pointer (some ⟨R, 0, none⟩), .pointer (some ⟨R + 1, 0, none⟩)] enters93 512 (by decide) r2 w0 w4 B HR4.out (RKeep B R (R + 1) (d : Int)) HJ4.out hJ ndV_gets (fun b W hb hj _ => rkid1_any k HIH.out d (by omega) b w0 W B R (R + 1) hb hj.1 hj.2)
        rw [show ((512 : Nat) : Int) = 512 from rfl] at hc
        obtain ⟨p, hp⟩ : ∃ p, rowP 512 (nodeP k) r2 = p := ⟨_, rfl⟩
        rw [hp] at hc HS
        clear hp hJ
        go_wp2_with (rw [HW4.out]; clear HW4)
        refine hc.mono ?_
        clear hc r4 zl
        rintro e w5 ⟨hX5, hF5, hP⟩
        have HX5 := Lib.hid hX5
        cases p with
        | none =>
          subst hP
          have HF := Lib.hid (Fr.new (((Fr.of_ext HE.out _).trans (HF4.out.mono fun q hq => hq.imp id fun h => show w.heap.size ≤ q from Nat.le_trans HE.out.size h)).trans (hF5.mono fun q hq => .inl hq)))
          clear hX5 hF5
          go_wp2_with fail
          exact ⟨rfl, RdC.no HS.out HX5.out HF.out⟩
        | some tr =>
          obtain ⟨c, r3⟩ := tr
          obtain ⟨kv, rfl, hkv, hR5⟩ := hP
          have HK0 := Lib.hid hkv.kids
          obtain ⟨us, hO, -⟩ := hkv
          obtain ⟨kA, kc, rfl, -⟩ := RdS.of_owns hO
          have hZ5 := HZ.out.fr hF5 (by show ¬ Z = B; omega)
          have z5 := hZ5.cell 5
          have fz5 := hZ5.frozen 5
          obtain ⟨w6, hw6⟩ : ∃ W, w5.setCell ⟨Z, 5, none⟩ (.slice kA c.length kc) = W := ⟨_, rfl⟩
          have F6 : Fr w5 w6 (isB Z) := by rw [← hw6]; exact Fr.setCell _ _ _ _
          have HZb := Lib.hid (show NBox w6 Z 32 #[.int .u64 (i : Int), .bool false, .string l, .slice aA a.length ac, .string ⟨#[]⟩, .slice kA c.length kc] from by rw [← hw6]; exact hZ5.set 5 _)
          have HRw := Lib.hid (hR5.fr F6 (fun q hq => by rw [show q = Z from hq]; omega) (by show ¬ B = Z; omega))
          have HYW := Lib.hid ((HY4.out.fr hF5 (by show ¬ R + 1 + 1 = B; omega)).fr F6 (by show ¬ R + 1 + 1 = Z; omega))
          have HA := Lib.hid (HA4.out.to (S' := old wc.heap.size) (hF5.join F6 (U := fun q => q = B ∨ q = Z) (fun q _ h => h)) (fun q _ hh => hh.elim (fun h => h.elim (fun h => by rw [h]; show B < _; omega) (fun h => by rw [h]; exact hlz)) id))
          have HKd := Lib.hid (HK0.out.to (S' := old wc.heap.size) F6 (fun q _ hh => hh.elim (fun h => by rw [show q = Z from h]; exact Nat.lt_of_lt_of_le hlz HSZ4.out) (fun h => Nat.lt_of_lt_of_le h HSZ4.out)))
          have HFw := Lib.hid (show Fr w1 w6 (fun q => q = B ∨ w1.heap.size ≤ q) from (HF4.out.trans (hF5.mono fun q hq => .inl hq)).trans (F6.mono fun q hq => .inr (by rw [show q = Z from hq]; exact hZ0)))
          have HW6 := Lib.hid hw6
          clear hX5 hF5 hR5 hZ5 hw6 F6 HY4 HZ HA4 HF4 HR4 hO HK0
          have HZ := HZb
          clear HZb
          go_upto_region 7 with fail
          rw [HW6.out]
          clear z5 fz5
          have y0 := HYW.out.cell 0
          have f0 := HYW.out.frozen 0
          have z0 := HZ.out.cell 0
          have y1 := HYW.out.cell 1
          have f1 := HYW.out.frozen 1
          have z1 := HZ.out.cell 1
          have y2 := HYW.out.cell 2
          have f2 := HYW.out.frozen 2
          have z2 := HZ.out.cell 2
          have y3 := HYW.out.cell 3
          have f3 := HYW.out.frozen 3
          have z3 := HZ.out.cell 3
          have y4 := HYW.out.cell 4
          have f4 := HYW.out.frozen 4
          have z4 := HZ.out.cell 4
          have y5 := HYW.out.cell 5
          have f5 := HYW.out.frozen 5
          have z5 := HZ.out.cell 5
          go_wp2_with fail
          refine bodyPost_ret (results_st rfl _ rfl (HYW.out.six _ _ _ _ _ _) Try.underlying32 rfl info32) rfl ?_
          have F2 := Fr.six w6 (R + 1 + 1) (.int .u64 (i : Int)) (.bool false) (.string l) (.slice aA a.length ac) (.string ⟨#[]⟩) (.slice kA c.length kc)
          obtain ⟨rv2, hbx2, hrd2⟩ := HRw.out.box
          refine RdC.yes HS.out ?_ ⟨Fr.ext HRw.out.ext F2 (fun q hq => by rw [hq]; omega), HRw.out.hB, rv2, hbx2.fr F2 (fun hh => by have : B = R + 1 + 1 := hh; omega), hrd2⟩ (Fr.new (((Fr.of_ext HE.out _).trans (HFw.out.mono fun q hq => hq.imp id fun h => show w.heap.size ≤ q from Nat.le_trans HE.out.size h)).trans (F2.mono fun q hq => .inr (by rw [hq, HRR.out]; omega))))
          have hY1 := HBY.out.lt
          have a1 : Late (old w.heap.size) (fun W => RdA W a (.slice aA a.length ac)) _ := HA.out.to F2 (fun q hq hh => by
            rcases hh with hh | hh
            · rw [show q = R + 1 + 1 from hh]; exact Nat.lt_of_lt_of_le hY1 HSZ.out
            · exact Nat.lt_of_lt_of_le (show q < w.heap.size from hh) (Nat.le_trans HE.out.size HSZ.out))
          exact (a1.and (show Late (old w.heap.size) (fun W => RdK W c (.slice kA c.length kc)) _ from HKd.out.to F2 (fun q hq hh => by
            rcases hh with hh | hh
            · rw [show q = R + 1 + 1 from hh]; exact Nat.lt_of_lt_of_le hY1 HSZ.out
            · exact Nat.lt_of_lt_of_le (show q < w.heap.size from hh) (Nat.le_trans HE.out.size HSZ.out)))).imp fun W ⟨h1, h2⟩ => Nd.rd_shut (t := .mk (i : Int) false l a ⟨#[]⟩ c) (Int.natCast_nonneg i) (by show (i : Int) ≤ _; omega) hl (by show (0 : Nat) ≤ maxLen; decide) h1 h2
end Go.Proofs.Ytoplaokimahdiaa.Wi
