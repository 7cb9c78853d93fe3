/- Chapter 17: pieces are read: the closure at a piece (98), a row of pieces (97). (Printed by gwrdpc.py.) -/
import Derived.Test.YtoplaokimahdiaaWiRdNode
import Derived.Test.YtoplaokimahdiaaWiRead2
namespace Go.Proofs.Ytoplaokimahdiaa.Wi
open Go.RowKit Go.Proofs.Ytoplaokimahdiaa.Bw Go.Proofs.Ytoplaokimahdiaa.Bs

def pcVal (x : Pc) : Value := .agg #[.int .i64 x.keep, .int .i64 x.drop, .string x.put]
def RdPc (_ : World) (x : Pc) (v : Value) : Prop := v = pcVal x ∧ okStr x.put
def pcV (x : Pc) (v : Value) (W : World) : Prop := RdPc W x v
theorem pcV_gets (lo : Nat) (x : Pc) (v : Value) (W : World) (h : pcV x v W) : ∃ c0 c1 c2, v = .agg #[c0, c1, c2] ∧ (c0.oneCell' = true ∧ c1.oneCell' = true ∧ c2.oneCell' = true) ∧ Late (old lo) (fun W => RdPc W x (.agg #[c0, c1, c2])) W := by
  obtain ⟨rfl, h1⟩ := h
  exact ⟨_, _, _, rfl, ⟨rfl, rfl, rfl⟩, Late.all fun _ => ⟨rfl, h1⟩⟩
theorem rdPcs_of {W : World} {b : Nat} : ∀ (l : List Pc) (us : List Value) (off : Nat), rowCells RdPc 3 W l us → (∀ j u, us[j]? = some u → W.cell? ⟨b, off + j, none⟩ = some u) → rdPcs W b off l
  | [], _, _, _, _ => trivial
  | x :: l, us, off, h, hc => by
    obtain ⟨cs, us', h1, ⟨h2, h3⟩, rfl, h5⟩ := h
    unfold pcVal at h2
    simp only [Value.agg.injEq] at h2
    have h2' : cs = [.int .i64 x.keep, .int .i64 x.drop, .string x.put] := by
      have := congrArg Array.toList h2
      simpa using this
    subst h2'
    refine ⟨?_, hc 1 _ rfl, hc 2 _ rfl, h3, rdPcs_of l us' (off + 3) h5 (fun j u hj => ?_)⟩
    · have := hc 0 (.int .i64 x.keep) rfl
      simpa using this
    · have := hc (3 + j) u (by simpa [Nat.add_comm] using hj)
      rw [show off + 3 + j = off + (3 + j) by omega]
      exact this
theorem RdP.of_row {W : World} {base e : Nat} {v : Value} {l : List Pc} {us : List Value} (h : W.ownsRow base e 3 v l.length us) (hr : rowCells RdPc 3 W l us) : RdP W l v := by
  obtain ⟨A, c, rfl, h1, h2, h3⟩ := owns_cells h
  refine ⟨A, c, rfl, h1, h2, fun hl => ?_⟩
  obtain ⟨g, rfl, hc⟩ := h3 hl
  exact ⟨g, 0, rfl, rdPcs_of l us 0 hr hc⟩
theorem pc_cells {W : World} : ∀ (l : List Pc) (us : List Value), rowCells RdPc 3 W l us → ∀ W', rowCells RdPc 3 W' l us
  | [], us, h, _ => h
  | x :: l, us, h, W' => by
    obtain ⟨cs, us', h1, h2, rfl, h3⟩ := h
    exact ⟨cs, us', h1, h2, rfl, pc_cells l us' h3 W'⟩
theorem info69 : (Try.prog.info? 69).map (·.size) = some 3 := by kernel_rfl
theorem NBox.three {W : World} {B : Nat} {t : TypeId} {x0 x1 x2 : Value} (h : NBox W B t #[x0, x1, x2]) (a b c : Value) : NBox (((W.setCell ⟨B, 0, none⟩ a).setCell ⟨B, 1, none⟩ b).setCell ⟨B, 2, none⟩ c) B t #[a, b, c] := by
  have := ((h.set 0 a).set 1 b).set 2 c
  simpa using this
def pc2 (k d : Nat) (r : List UInt8) : Option (Pc × List UInt8) := (textP 1048576 r).bind fun q => some (⟨k, d, q.1⟩, q.2)
def pc1 (k : Nat) (r : List UInt8) : Option (Pc × List UInt8) := (smallP 1048577 r).bind fun q => pc2 k q.1 q.2
theorem piece_eq (b : List UInt8) : pieceP b = (smallP 1048577 b).bind fun q => pc1 q.1 q.2 := rfl
theorem enters98 : ∀ args W, (callFunc 98 args).run Try.prog W = .ok (.enter 98 args) W := fun args W => by kernel_rfl
set_option maxRecDepth 100000 in
set_option maxHeartbeats 4000000 in
theorem rpc1_any (bs : List UInt8) (w0 w : World) (B R : Nat) (h : RS w0 w B bs) (bR : NBox w R 83 #[.pointer (some ⟨B, 0, none⟩)]) : Calls Try.prog 98 #[.pointer (some ⟨R, 0, none⟩)] w (RdC w0 w B pcV (pieceP bs)) := by
  obtain ⟨w1, hw1⟩ : ∃ W, w.alloc (.cells #[.int .i64 0, .int .i64 0, .string ⟨#[]⟩] 69) = W := ⟨_, rfl⟩
  obtain ⟨X, hX⟩ : ∃ X, w.heap.size = X := ⟨_, rfl⟩
  have E1 : Ext w w1 := by rw [← hw1]; exact (Ext.refl w).alloc _
  have bX : NBox w1 X 69 #[.int .i64 0, .int .i64 0, .string ⟨#[]⟩] := by rw [← hw1, ← hX]; exact NBox.new _ _ _
  have hRS := h.more E1
  obtain ⟨rv0, hbx0, -⟩ := hRS.box
  have bR1 := bR.ext E1
  have hBR : R ≠ B := NBox.apart bR1 hbx0 (by decide)
  have hXB : X ≠ B := NBox.apart bX hbx0 (by decide)
  have hRX : R ≠ X := NBox.apart bR1 bX (by decide)
  have hX0 : w0.heap.size ≤ X := by rw [← hX]; exact h.ext.size
  have HE := Lib.hid E1
  have HS : Hid (pieceP bs = (smallP 1048577 bs).bind fun q => pc1 q.1 q.2) := Lib.hid rfl
  obtain ⟨FIN, hFIN⟩ : ∃ q, pieceP bs = q := ⟨_, rfl⟩
  rw [hFIN] at HS ⊢
  have HW := Lib.hid hw1
  have HX := Lib.hid hX
  have r0 := bR1.cell 0
  obtain ⟨c0, hc0⟩ : ∃ c0, w1.drew = c0 := ⟨_, rfl⟩
  have X0 : Ext w1 c0 := by rw [← hc0]; exact (Ext.refl _).drew
  have hH : c0.cell? ⟨R, 0, none⟩ = some (.pointer (some ⟨B, 0, none⟩)) := X0.cell r0
  have HRa := Lib.hid (hRS.more X0)
  have HFa := Lib.hid (Fr.of_ext (E1.trans X0) (isB B))
  have HZ := Lib.hid (bX.ext X0)
  clear hw1 hX bX bR1 hRS hbx0 bR h E1 X0 r0 hFIN
  go_enter Try.func98, Try.ntmps98
  go_upto_region 1 with fail
  rw [HW.out, HX.out]
  refine wp_region_held_drew (S := fun W => W.cell? ⟨R, 0, none⟩ = some (.pointer (some ⟨B, 0, none⟩))) (by kernel_rfl) (by rw [hc0]; exact hH) (fun hHeld => ?_)
  rw [hc0] at hHeld ⊢
  clear hc0 hH
  refine wpAnyH_take (i := 0) (oi := ⟨_, _, _, _, _, _⟩) (v := ?_) rfl (by kernel_rfl) (by kernel_rfl) (by kernel_rfl) (fun _ _ _ h => h) (Or.inl ⟨by rfl, ?_⟩) hHeld ?_
  rotate_left
  · intro w hSw
    try dsimp only at hSw
    go_simp
    all_goals (first | with_reducible rfl | rw [if_pos (by omega)])
  try simp only [Act.put, List.setIfInBounds_toArray, List.set_cons_zero, List.set_cons_succ]
  refine wpAnyH_take (i := 2) (oi := ⟨_, _, _, _, _, _⟩) (v := ?_) rfl (by kernel_rfl) (by kernel_rfl) (by kernel_rfl) (fun _ _ _ h => h) (Or.inl ⟨by rfl, ?_⟩) hHeld ?_
  rotate_left
  · intro w hSw
    try dsimp only at hSw
    go_simp
    all_goals (first | with_reducible rfl | rw [if_pos (by omega)])
  try simp only [Act.put, List.setIfInBounds_toArray, List.set_cons_zero, List.set_cons_succ]
  refine wpAnyH_take (i := 4) (oi := ⟨_, _, _, _, _, _⟩) (v := ?_) rfl (by kernel_rfl) (by kernel_rfl) (by kernel_rfl) (fun _ _ _ h => h) (Or.inl ⟨by rfl, ?_⟩) hHeld ?_
  rotate_left
  · intro w hSw
    try dsimp only at hSw
    go_simp
    all_goals (first | with_reducible rfl | rw [if_pos (by omega)])
  try simp only [Act.put, List.setIfInBounds_toArray, List.set_cons_zero, List.set_cons_succ]
  refine wpAnyH_ready (rs := [1]) (by kernel_rfl) (by simp) ?_
  refine AllReadyH.cons (o := ⟨_, _, _, _, _, _⟩) rfl (fun K' hK => ?_) (AllReadyH.nil)
  have hc := rsmall_any 1048577 (by decide) bs w0 c0 B HRa.out
  obtain ⟨p, hp⟩ : ∃ p, smallP 1048577 bs = p := ⟨_, rfl⟩
  rw [hp] at hc HS
  clear hp
  go_simp
  go_at_call 85
  refine hc.mono ?_
  clear hc
  rintro e c1 ⟨hX, hF, hP⟩
  have HX := Lib.hid hX
  have HFb := Lib.hid (HFa.out.trans hF)
  have hC : c1.cell? ⟨R, 0, none⟩ = some (.pointer (some ⟨B, 0, none⟩)) := hF.cell hBR hHeld
  have HZ' := Lib.hid (HZ.out.fr hF hXB)
  clear hX hF HFa HRa HZ
  have HZ := HZ'
  clear HZ'
  have HFa := HFb
  clear HFb
  cases p with
  | none =>
    subst hP
    go_wp2_with fail
    exact ⟨rfl, RdC.no HS.out HX.out HFa.out⟩
  | some xr =>
    obtain ⟨k, r⟩ := xr
    obtain ⟨v, rfl, hv, hR⟩ := hP
    unfold intV at hv
    subst hv
    have HRa := Lib.hid hR
    have HS : Hid (FIN = (smallP 1048577 r).bind fun q => pc2 k q.1 q.2) := HS
    refine hK.out _ _ hC (fun hHeld => ?_)
    clear hK K' hC hR HX
    try simp only [Act.put, List.setIfInBounds_toArray, List.set_cons_zero, List.set_cons_succ]
    refine wpAnyH_ready (rs := [3]) (by kernel_rfl) (by simp) ?_
    refine AllReadyH.cons (o := ⟨_, _, _, _, _, _⟩) rfl (fun K' hK => ?_) (AllReadyH.nil)
    have hc := rsmall_any 1048577 (by decide) r w0 c1 B HRa.out
    obtain ⟨p, hp⟩ : ∃ p, smallP 1048577 r = p := ⟨_, rfl⟩
    rw [hp] at hc HS
    clear hp
    go_simp
    go_at_call 85
    refine hc.mono ?_
    clear hc
    rintro e c2 ⟨hX, hF, hP⟩
    have HX := Lib.hid hX
    have HFb := Lib.hid (HFa.out.trans hF)
    have hC : c2.cell? ⟨R, 0, none⟩ = some (.pointer (some ⟨B, 0, none⟩)) := hF.cell hBR hHeld
    have HZ' := Lib.hid (HZ.out.fr hF hXB)
    clear hX hF HFa HRa HZ
    have HZ := HZ'
    clear HZ'
    have HFa := HFb
    clear HFb
    cases p with
    | none =>
      subst hP
      go_wp2_with fail
      exact ⟨rfl, RdC.no HS.out HX.out HFa.out⟩
    | some xr =>
      obtain ⟨d, r⟩ := xr
      obtain ⟨v, rfl, hv, hR⟩ := hP
      unfold intV at hv
      subst hv
      have HRa := Lib.hid hR
      have HS : Hid (FIN = (textP 1048576 r).bind fun q => some ((⟨k, d, q.1⟩ : Pc), q.2)) := HS
      refine hK.out _ _ hC (fun hHeld => ?_)
      clear hK K' hC hR HX
      try simp only [Act.put, List.setIfInBounds_toArray, List.set_cons_zero, List.set_cons_succ]
      refine wpAnyH_ready (rs := [5]) (by kernel_rfl) (by simp) ?_
      refine AllReadyH.cons (o := ⟨_, _, _, _, _, _⟩) rfl (fun K' hK => ?_) (AllReadyH.nil)
      have hc := rtext_any 1048576 (by decide) r w0 c2 B HRa.out
      obtain ⟨p, hp⟩ : ∃ p, textP 1048576 r = p := ⟨_, rfl⟩
      rw [hp] at hc HS
      clear hp
      go_simp
      go_at_call 89
      refine hc.mono ?_
      clear hc
      rintro e c3 ⟨hX, hF, hP⟩
      have HX := Lib.hid hX
      have HFb := Lib.hid (HFa.out.trans hF)
      have hC : c3.cell? ⟨R, 0, none⟩ = some (.pointer (some ⟨B, 0, none⟩)) := hF.cell hBR hHeld
      have HZ' := Lib.hid (HZ.out.fr hF hXB)
      clear hX hF HFa HRa HZ
      have HZ := HZ'
      clear HZ'
      have HFa := HFb
      clear HFb
      cases p with
      | none =>
        subst hP
        go_wp2_with fail
        exact ⟨rfl, RdC.no HS.out HX.out HFa.out⟩
      | some xr =>
        obtain ⟨t, r⟩ := xr
        obtain ⟨v, rfl, hv, hR⟩ := hP
        obtain ⟨rfl, htl⟩ := hv
        have HRa := Lib.hid hR
        have HS : Hid (FIN = some ((⟨k, d, t⟩ : Pc), r)) := HS
        refine hK.out _ _ hC (fun hHeld => ?_)
        clear hK K' hC hR HX
        try simp only [Act.put, List.setIfInBounds_toArray, List.set_cons_zero, List.set_cons_succ]
        refine wpAnyH_take (i := 6) (oi := ⟨_, _, _, _, _, _⟩) (v := ?_) rfl (by kernel_rfl) (by kernel_rfl) (by kernel_rfl) (fun _ _ _ h => h) (Or.inl ⟨by rfl, ?_⟩) hHeld ?_
        rotate_left
        · intro w hSw
          try dsimp only at hSw
          go_simp
          all_goals (first | with_reducible rfl | rw [if_pos (by omega)])
        try simp only [Act.put, List.setIfInBounds_toArray, List.set_cons_zero, List.set_cons_succ]
        refine wpAnyH_ready (rs := [7]) (by kernel_rfl) (by simp) ?_
        refine AllReadyH.cons (o := ⟨_, _, _, _, _, _⟩) rfl (fun K' hK => ?_) (AllReadyH.nil)
        have x0 := HZ.out.cell 0
        have x1 := HZ.out.cell 1
        have x2 := HZ.out.cell 2
        have y0 := HZ.out.frozen 0
        have y1 := HZ.out.frozen 1
        have y2 := HZ.out.frozen 2
        go_simp
        have F2 : Fr c3 (((c3.setCell ⟨X, 0, none⟩ (.int .i64 (k : Int))).setCell ⟨X, 1, none⟩ (.int .i64 (d : Int))).setCell ⟨X, 2, none⟩ (.string t)) (isB X) := ((Fr.setCell _ _ _ _).trans (Fr.setCell _ _ _ _)).trans (Fr.setCell _ _ _ _)
        refine hK.out _ _ (F2.cell hRX hHeld) (fun hHeld => ?_)
        clear hK K' x0 x1 x2 y0 y1 y2
        try simp only [Act.put, List.setIfInBounds_toArray, List.set_cons_zero, List.set_cons_succ]
        refine wpAnyH_done (by kernel_rfl) ?_ _
        clear hHeld
        go_wp2_with fail
        refine bodyPost_ret (results_st rfl _ rfl (HZ.out.three _ _ _) Try.underlying69 rfl info69) rfl ?_
        obtain ⟨rv2, hbx2, hrd2⟩ := HRa.out.box
        exact RdC.yes HS.out ⟨rfl, htl⟩ ⟨Fr.ext HRa.out.ext F2 (fun i hi => by rw [show i = X from hi]; exact hX0), HRa.out.hB, rv2, hbx2.fr F2 (fun hh => hXB (show B = X from hh).symm), hrd2⟩ (Fr.new ((HFa.out.mono fun i hi => .inl hi).trans (F2.mono fun i hi => .inr (by rw [show i = X from hi, ← HX.out]; exact Nat.le_refl _))))
theorem T64 : SliceT Try.prog 64 69 (.agg #[.int .i64 0, .int .i64 0, .string ⟨#[]⟩]) 3 32 := SliceT.mk' Try.underlying64 (by kernel_rfl) rfl (by decide)
set_option maxRecDepth 100000 in
set_option maxHeartbeats 4000000 in
theorem gets97_any (R : World → Pc → Value → Prop) (V : Nat → Pc → Value → World → Prop) (f : Rd (Pc)) (fnc : FuncId) (cap : Array Value) (hfn : ∀ args W, (callFunc fnc args).run Try.prog W = .ok (.enter fnc args) W) (most : Nat) (hm : most ≤ 4096) (bs : List UInt8) (w0 w : World) (B : Nat) (h : RS w0 w B bs)
    (J : World → Prop) (hj : J w) (hJ : ∀ W W' S, J W → Fr W W' S → (∀ k, S k → k = B ∨ w.heap.size ≤ k) → J W')
    (hV : ∀ lo x v W, V lo x v W → ∃ c0 c1 c2, v = .agg #[c0, c1, c2] ∧ (c0.oneCell' = true ∧ c1.oneCell' = true ∧ c2.oneCell' = true) ∧ Late (old lo) (fun W => R W x (.agg #[c0, c1, c2])) W)
    (hone : ∀ b W, RS w0 W B b → J W → w.heap.size ≤ W.heap.size → Calls Try.prog fnc cap W (RdC w0 W B (V W.heap.size) (f b))) :
    Calls Try.prog 97 #[.pointer (some ⟨B, 0, none⟩), .int .i64 (most : Int), .func (.func fnc) #[] cap] w (RdC w0 w B (rowV2 R 69 3 w.heap.size) (rowP most f bs)) := by
  have hc := rsmall_any (most + 1) (by omega) bs w0 w B h
  have HS : Hid (rowP most f bs = match smallP (most + 1) bs with | none => none | some (n, r) => goOnA [] (manyP f n r)) := Lib.hid (row_go most f bs)
  have HSM := Lib.hid (fun (n : Nat) (r : List UInt8) (hh : smallP (most + 1) bs = some (n, r)) => small_lt' hh)
  obtain ⟨p, hp⟩ : ∃ p, smallP (most + 1) bs = p := ⟨_, rfl⟩
  rw [hp] at hc HS HSM
  have q0 : (((most + 1 : Nat) : Int)) = (most : Int) + 1 := by omega
  rw [q0] at hc
  have HB0 := Lib.hid h.ext.size
  have HB1 : Hid (B < w.heap.size) := Lib.hid (by obtain ⟨rv0, hbx0, -⟩ := h.box; exact hbx0.lt)
  have HJ := Lib.hid hJ
  have HV := Lib.hid hV
  have HONE := Lib.hid hone
  have HJ0 := Lib.hid hj
  clear hp h hJ hV hone hj
  go_enter Try.func97, Try.ntmps97
  go_wp2_with fail
  refine hc.mono ?_
  clear hc
  rintro e w1 ⟨hX, hF, hP⟩
  cases p with
  | none =>
    subst hP
    have HX := Lib.hid hX
    have HF := Lib.hid hF
    clear hX hF
    go_wp2_with fail
    exact ⟨rfl, RdC.no HS.out HX.out HF.out⟩
  | some nr =>
    obtain ⟨n, r0⟩ := nr
    obtain ⟨v, rfl, hv, hR⟩ := hP
    unfold intV at hv
    subst hv
    have hn := HSM.out n r0 rfl
    have HR := Lib.hid hR
    have HF := Lib.hid hF
    have HJ1 := Lib.hid (HJ.out _ _ _ HJ0.out hF (fun k hk => .inl hk))
    clear hR hX hF
    go_wp2_with fail
    go_loopw [7, 12] (fun s7 s12 wr => ∃ (i : Nat) (acc : List (Pc)) (b : List UInt8), s12 = .int .i64 (i : Int) ∧ i ≤ n ∧ acc.length = i ∧ rowV2 R 69 3 w.heap.size acc s7 wr ∧ RS w0 wr B b ∧ J wr ∧ Fr w wr (isB B) ∧ Hid (rowP most f bs = goOnA acc (manyP f (n - i) b))) (fun _ i _ => n - (intOf i).toNat)
    case atStart => exact ⟨0, [], r0, rfl, Nat.zero_le _, rfl, ⟨[], ⟨rfl, .inl ⟨rfl, rfl⟩⟩, Late.all fun _ => rfl⟩, HR.out, HJ1.out, HF.out, HS⟩
    case round =>
      obtain ⟨i, acc, b, rfl, hi, hal, ⟨us, hO, hLT⟩, hR, hj, hF, HN⟩ := hrel
      have q1 : (0 : Int) ≤ (i : Int) := by omega
      rcases Nat.lt_or_ge i n with hlt | hlt
      · have q2 : (i : Int) < (n : Int) := by omega
        have hc := HONE.out b wr hR hj hF.size
        have HN2 := Lib.hid (HN.out.trans ((congrArg (fun m => goOnA acc (manyP f m b)) (show n - i = (n - (i + 1)) + 1 by omega)).trans (many_stepA f acc (n - (i + 1)) b)))
        obtain ⟨p, hp⟩ : ∃ p, f b = p := ⟨_, rfl⟩
        rw [hp] at hc HN2
        obtain ⟨rv, hbx, -⟩ := hR.box
        have hno := hbx.not_own hO (by decide)
        have HO := Lib.hid hO
        have HLT := Lib.hid hLT
        have HF := Lib.hid hF
        have HJR := Lib.hid hj
        have HAL : Hid (acc.length = i) := Lib.hid hal
        have hal2 : acc.length < n := by omega
        obtain ⟨vA, vC, rfl, -⟩ := RdS.of_owns hO
        clear hp hR hO hF HN hal hbx hj hLT
        go_wp2_with fail
        refine hc.mono ?_
        clear hc
        rintro e w2 ⟨hX2, hF2, hP⟩
        cases p with
        | none =>
          subst hP
          have HX := Lib.hid hX2
          have HF3 := Lib.hid (HF.out.trans hF2)
          clear hX2 hF2
          go_wp2_with fail
          exact ⟨rfl, RdC.no HN2.out HX.out HF3.out⟩
        | some yr =>
          obtain ⟨y, r⟩ := yr
          obtain ⟨v, rfl, hv, hR2⟩ := hP
          obtain ⟨c0, c1, c2, rfl, ⟨o0, o1, o2⟩, hLY⟩ := HV.out _ _ _ _ hv
          obtain ⟨w3, hw3⟩ : ∃ W, w2.alloc (.cells #[c0, c1, c2] 69) = W := ⟨_, rfl⟩
          obtain ⟨S, hS⟩ : ∃ S, w2.heap.size = S := ⟨_, rfl⟩
          have X3 : Ext w2 w3 := by rw [← hw3]; exact (Ext.refl _).alloc _
          have HRD : Hid (RdS w3 3 1 [c0, c1, c2] (.slice (some ⟨S, 0, none⟩) 1 1)) := Lib.hid (by rw [← hw3, ← hS]; exact RdS.one (cs := #[c0, c1, c2]) rfl)
          have hO2 := owns_fr hF2 HO.out (fun g hg hk => hno (by rw [hg]; exact congrArg some hk))
          have HOO := Lib.hid (owns_ext X3 hO2)
          have HR3 := Lib.hid (hR2.more X3)
          have HF3 := Lib.hid ((HF.out.trans hF2).trans (Fr.of_ext X3 _))
          have HJ3 := Lib.hid (HJ.out _ _ _ (HJ.out _ _ _ HJR.out hF2 (fun k hk => .inl hk)) (Fr.of_ext X3 (fun _ => False)) (fun k hk => hk.elim))
          have HSZ := Lib.hid (Nat.le_trans (HF.out.trans hF2).size X3.size)
          have HL3 := Lib.hid (HLT.out.to (S' := rowS w.heap.size (.slice vA acc.length vC)) (hF2.trans (Fr.of_ext X3 _)) (fun k _ hh => hh.elim (fun hk => .inl (by rw [show k = B from hk]; exact HB1.out)) id))
          have HY3 := Lib.hid (hLY.ext X3)
          have HW3 := Lib.hid hw3
          have HSS := Lib.hid hS
          have HN3 : Hid (rowP most f bs = goOnA (acc ++ [y]) (manyP f (n - (i + 1)) r)) := HN2
          have HONES : Hid (∀ u ∈ [c0, c1, c2], u.oneCell' = true) := Lib.hid (by simp [o0, o1, o2])
          clear hX2 hF2 hR2 hw3 X3 hS hO2 hv hLY HN2 o0 o1 o2
          go_wp2_with (first | (rw [HW3.out, HSS.out]; clear HW3 HSS) | (at_builtin; refine wpList_append_rd rfl rfl T64 (v := _) (by rfl) HOO.out (by rfl) HRD.out HONES.out (by omega) (by simp only [maxLen]; omega) HSZ.out ?_; intro v4 w4 O1 hg hat))
          refine ⟨⟨i + 1, acc ++ [y], r, by go_num, by omega, by rw [List.length_append, HAL.out]; rfl, rowV2.add HO.out HL3.out HY3.out rfl HF.out.size hg hat O1, HR3.out.fr (Fr.grown hg) (fun k hk => Nat.le_trans HB0.out (owns_base HOO.out k hk)) hno, HJ.out _ _ _ HJ3.out (Fr.grown hg) (fun k hk => .inr (owns_base HOO.out k hk)), Fr.new ((HF3.out.mono fun k hk => .inl hk).trans ((Fr.grown hg).mono fun k hk => .inr (owns_base HOO.out k hk))), HN3⟩, by simp [intOf]; omega⟩
      · have HP : Hid (rowP most f bs = some (acc, b)) := Lib.hid (by
          rw [HN.out, show n - i = 0 by omega]
          show some (acc ++ [], b) = _
          rw [List.append_nil])
        have HR2 := Lib.hid hR
        have HO := Lib.hid hO
        have HLT := Lib.hid hLT
        have HF := Lib.hid hF
        obtain ⟨vA, vC, rfl, -⟩ := RdS.of_owns hO
        clear hR hO hF hj HN hal hLT
        go_wp2_with fail
        go_ret
        exact RdC.yes HP.out ⟨us, HO.out, HLT.out⟩ HR2.out HF.out
end Go.Proofs.Ytoplaokimahdiaa.Wi
