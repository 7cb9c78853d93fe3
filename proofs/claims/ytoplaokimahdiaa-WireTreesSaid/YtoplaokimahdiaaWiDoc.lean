/- Chapter 17: the document's reader: number, path. -/
import Derived.Test.YtoplaokimahdiaaWiRdPath
import Derived.Test.YtoplaokimahdiaaWiRGet
import Derived.Deep.QuietTactic
import Derived.BigQuiet
namespace Go.Proofs.Ytoplaokimahdiaa.Wi
open Go.RowKit Go.Proofs.Ytoplaokimahdiaa.Bw Go.Proofs.Ytoplaokimahdiaa.Bs

/-- The document's reader: what it has yet; none: it met something bad. -/
structure DS (w0 W : World) (D : Nat) (bs : List UInt8) (bv : Value) (s : Option (List UInt8)) : Prop where
  ext : Ext w0 W
  hD : w0.heap.size ≤ D
  rd : RdS w0 1 bs.length (u8s bs) bv
  len : bs.length ≤ 100000000000
  box : ∃ (a : Nat) (x : Bool), NBox W D 96 #[bv, .int .i64 (a : Int), .bool x] ∧ a ≤ bs.length ∧ match s with
    | none => x = true
    | some r => x = false ∧ bs.drop a = r
theorem DS.more {w0 W W' : World} {D : Nat} {bs : List UInt8} {bv : Value} {s : Option (List UInt8)} (h : DS w0 W D bs bv s) (k : Ext W W') : DS w0 W' D bs bv s := by
  obtain ⟨a, x, hb, hr⟩ := h.box
  exact ⟨h.ext.trans k, h.hD, h.rd, h.len, a, x, hb.ext k, hr⟩
theorem DS.fr {w0 W W' : World} {D : Nat} {bs : List UInt8} {bv : Value} {s : Option (List UInt8)} {S : Nat → Prop} (h : DS w0 W D bs bv s) (F : Fr W W' S) (h1 : ∀ k, S k → w0.heap.size ≤ k) (h2 : ¬ S D) : DS w0 W' D bs bv s := by
  obtain ⟨a, x, hb, hr⟩ := h.box
  exact ⟨Fr.ext h.ext F h1, h.hD, h.rd, h.len, a, x, hb.fr F h2, hr⟩
/-- What a call of the document's that reads does. -/
def DocC {α : Type} (w0 w : World) (D : Nat) (bs : List UInt8) (bv : Value) (enc : α → Value → World → Prop) (p : Option (α × List UInt8)) (e : Ending) (W' : World) : Prop :=
  Fr w W' (isB D) ∧ match p with
  | none => ∃ x v, e = .returned v ∧ enc x v W' ∧ DS w0 W' D bs bv none
  | some (x, r) => ∃ v, e = .returned v ∧ enc x v W' ∧ DS w0 W' D bs bv (some r)
/-- A number that was read: none is 0. -/
def NumC (w0 w : World) (D : Nat) (bs : List UInt8) (bv : Value) (p : Option (Nat × List UInt8)) (e : Ending) (W' : World) : Prop :=
  Fr w W' (isB D) ∧ match p with
  | none => e = .returned (.int .u64 0) ∧ DS w0 W' D bs bv none
  | some (x, r) => e = .returned (.int .u64 (x : Int)) ∧ DS w0 W' D bs bv (some r)
theorem drop_rest {bs pre r : List UInt8} {a : Nat} (h : bs.drop a = pre ++ r) : r.length ≤ bs.length ∧ bs.drop (bs.length - r.length) = r := by
  have h1 : bs = (bs.take a ++ pre) ++ r := by rw [List.append_assoc, ← h, List.take_append_drop]
  have h2 : bs.length = (bs.take a ++ pre).length + r.length := by
    conv => lhs; rw [h1]
    rw [List.length_append]
  refine ⟨by omega, ?_⟩
  rw [show bs.length - r.length = (bs.take a ++ pre).length by omega]
  exact (congrArg (fun l => l.drop (bs.take a ++ pre).length) h1).trans List.drop_left
set_option maxRecDepth 100000 in
set_option maxHeartbeats 2000000 in
theorem dnumber_any (most : Nat) (bs : List UInt8) (bv : Value) (s : Option (List UInt8)) (w0 w : World) (D : Nat) (h : DS w0 w D bs bv s) : Calls Try.prog 86 #[.pointer (some ⟨D, 0, none⟩), .int .u64 (most : Int)] w (NumC w0 w D bs bv (s.bind (smallP (most + 1)))) := by
  obtain ⟨a, x, hb, ha, hs⟩ := h.box
  have b0 := hb.cell 0
  have b1 := hb.cell 1
  have b2 := hb.cell 2
  have f1 := hb.frozen 1
  have f2 := hb.frozen 2
  have HH := Lib.hid h
  have HB := Lib.hid hb
  have HRD := Lib.hid h.rd
  have HL := Lib.hid h.len
  have HRL := Lib.hid (RdS.ext h.ext h.rd)
  obtain ⟨A, c, rfl, -⟩ := h.rd
  clear hb h
  cases s with
  | none =>
    subst hs
    go_enter Try.func86, Try.ntmps86
    go_wp2_with fail
    go_ret
    exact ⟨Fr.refl _ _, rfl, HH.out⟩
  | some r =>
    obtain ⟨rfl, rfl⟩ := hs
    obtain ⟨p, hp⟩ : ∃ p, rdNum 0 0 (bs.drop a) = p := ⟨_, rfl⟩
    have HS : Hid (smallP (most + 1) (bs.drop a) = p.bind (fun nr => if nr.1 < most + 1 then some nr else none)) := Lib.hid (by rw [← hp]; unfold smallP; cases rdNum 0 0 (bs.drop a) <;> rfl)
    have HP := Lib.hid hp
    have HNO : Hid (∀ W, Ext w W → Fr w (W.setCell ⟨D, 2, none⟩ (.bool true)) (isB D) ∧ DS w0 (W.setCell ⟨D, 2, none⟩ (.bool true)) D bs (.slice A bs.length c) none) := Lib.hid (fun W hW => ⟨(Fr.of_ext hW _).trans (Fr.setCell _ _ _ _), Fr.ext (HH.out.ext.trans hW) (Fr.setCell _ _ _ _) (fun k hk => by rw [hk]; exact HH.out.hD), HH.out.hD, HH.out.rd, HH.out.len, a, true, (HB.out.ext hW).set 2 _, ha, rfl⟩)
    have HG : Hid (∀ n, Calls Try.prog 21 #[.slice A bs.length c, .int .i64 (a : Int)] (w.drewN n) fun e w' => e = .returned (getV bs.length p) ∧ w' = w.drewN n) := Lib.hid (fun n => by rw [← hp]; exact (getR_any bs _ a _ (RdS.ext ((Ext.refl _).drewN _) HRL.out) ha HL.out).mono fun _ _ ⟨h1, h2⟩ => ⟨h1, h2.symm⟩)
    clear hp
    cases p with
    | none =>
      unfold getV at HG
      go_enter Try.func86, Try.ntmps86
      go_wp2_with fail
      go_quiet ((go_at_call 21; exact Calls.quiet_of_same (HG.out _)))
      go_wp2_with fail
      go_ret
      obtain ⟨h1, h2⟩ := HNO.out _ ((Ext.refl w).drewN nq)
      refine ⟨h1, ?_⟩
      rw [show (some (bs.drop a)).bind (smallP (most + 1)) = none from HS.out]
      exact ⟨rfl, h2⟩
    | some nr =>
      obtain ⟨n, r⟩ := nr
      obtain ⟨hr1, hr2⟩ := drop_rest (num_get HP.out).1
      obtain ⟨a2, ha2⟩ : ∃ a2, bs.length - r.length = a2 := ⟨_, rfl⟩
      have hcast : (bs.length : Int) - (r.length : Int) = (a2 : Int) := by omega
      have hcast2 : getV bs.length (some (n, r)) = .tuple #[.int .u64 (n : Int), .int .i64 (a2 : Int)] := congrArg (fun z => Value.tuple #[.int .u64 (n : Int), .int .i64 z]) hcast
      rw [hcast2] at HG
      rw [ha2] at hr2
      have t0 : decide ((a2 : Int) < 0) = false := decide_eq_false (by omega)
      have ha3 := Lib.hid (show a2 ≤ bs.length by omega)
      have HR2 := Lib.hid hr2
      clear hr2 hr1 ha2 hcast hcast2
      rcases Nat.lt_or_ge most n with hlt | hlt
      · have t1 : decide (most < n) = true := decide_eq_true hlt
        have t1' : decide ((most : Int) < (n : Int)) = true := decide_eq_true (by omega)
        have HS2 : Hid (smallP (most + 1) (bs.drop a) = none) := Lib.hid (by rw [HS.out]; exact if_neg (by show ¬ n < most + 1; omega))
        clear HS
        go_enter Try.func86, Try.ntmps86
        go_wp2_with fail
        go_quiet ((go_at_call 21; exact Calls.quiet_of_same (HG.out _)))
        go_wp2_with fail
        go_ret
        obtain ⟨h1, h2⟩ := HNO.out _ ((Ext.refl w).drewN nq)
        refine ⟨h1, ?_⟩
        rw [show (some (bs.drop a)).bind (smallP (most + 1)) = none from HS2.out]
        exact ⟨rfl, h2⟩
      · have t1 : decide (most < n) = false := decide_eq_false (by omega)
        have t1' : decide ((most : Int) < (n : Int)) = false := decide_eq_false (by omega)
        have HS2 : Hid (smallP (most + 1) (bs.drop a) = some (n, r)) := Lib.hid (by rw [HS.out]; exact if_pos (by show n < most + 1; omega))
        clear HS HNO
        go_enter Try.func86, Try.ntmps86
        go_wp2_with fail
        go_quiet ((go_at_call 21; exact Calls.quiet_of_same (HG.out _)))
        go_wp2_with fail
        go_ret
        have hW := (Ext.refl w).drewN nq
        refine ⟨(Fr.of_ext hW _).trans (Fr.setCell _ _ _ _), ?_⟩
        rw [show (some (bs.drop a)).bind (smallP (most + 1)) = some (n, r) from HS2.out]
        exact ⟨rfl, Fr.ext (HH.out.ext.trans hW) (Fr.setCell _ _ _ _) (fun k hk => by rw [hk]; exact HH.out.hD), HH.out.hD, HH.out.rd, HH.out.len, a2, false, (HB.out.ext hW).set 1 _, ha3.out, rfl, HR2.out⟩
theorem small_lt {below : Nat} {b : List UInt8} {n : Nat} {r : List UInt8} (h : smallP below b = some (n, r)) : n < below := by
  unfold smallP at h
  split at h
  · cases h
  · split at h
    next h1 => cases h; exact h1
    next => cases h
/-- The document's path: what is read behind what was read. -/
def pathS (acc : List Int) (k : Nat) (s : Option (List UInt8)) : Option (List Int × List UInt8) := s.bind fun b => goOn acc (manyP oneI k b)
theorem pathS_none (acc : List Int) (k : Nat) : pathS acc k none = none := rfl
theorem pathS_step (acc : List Int) (k : Nat) (b : List UInt8) : pathS acc (k + 1) (some b) = match smallP 1048577 b with | none => none | some (y, r) => pathS (acc ++ [(y : Int)]) k (some r) := many_step acc k b
theorem pathP_S (bs : List UInt8) : pathP bs = match smallP 65 bs with | none => none | some (n, r) => pathS [] n (some r) := by
  unfold pathP rowP
  show (match smallP 65 bs with | none => none | some (n, r) => manyP oneI n r) = _
  cases smallP 65 bs with
  | none => rfl
  | some nr =>
    obtain ⟨n, r⟩ := nr
    show manyP oneI n r = goOn [] (manyP oneI n r)
    cases manyP oneI n r <;> rfl
set_option maxRecDepth 100000 in
set_option maxHeartbeats 2000000 in
theorem dpath_any (bs : List UInt8) (bv : Value) (s : Option (List UInt8)) (w0 w : World) (D : Nat) (h : DS w0 w D bs bv s) : Calls Try.prog 54 #[.pointer (some ⟨D, 0, none⟩)] w (DocC w0 w D bs bv (rowV w) (s.bind pathP)) := by
  have hc := dnumber_any 64 bs bv s w0 w D h
  have HB0 := Lib.hid (Nat.le_trans h.ext.size (Nat.le_refl _))
  have HS : Hid (s.bind pathP = match s.bind (smallP 65) with | none => none | some (n, r) => pathS [] n (some r)) := Lib.hid (by
    cases s with
    | none => rfl
    | some b => exact pathP_S b)
  have HLT : Hid (∀ n r, s.bind (smallP 65) = some (n, r) → n < 65) := Lib.hid (fun n r hh => by
    cases s with
    | none => cases hh
    | some b => exact small_lt hh)
  obtain ⟨p, hp⟩ : ∃ p, s.bind (smallP 65) = p := ⟨_, rfl⟩
  have hc2 : Calls Try.prog 86 #[.pointer (some ⟨D, 0, none⟩), .int .u64 64] w (NumC w0 w D bs bv p) := by rw [← hp]; exact hc
  rw [hp] at HS HLT
  clear hc hp h
  go_enter Try.func54, Try.ntmps54
  go_wp2_with fail
  refine hc2.mono ?_
  clear hc2
  rintro e w1 ⟨hF, hP⟩
  have HF := Lib.hid hF
  obtain ⟨n, st, rfl, hn, hD, HN⟩ : ∃ (n : Nat) (st : Option (List UInt8)), e = .returned (.int .u64 (n : Int)) ∧ n ≤ 64 ∧ DS w0 w1 D bs bv st ∧ Hid (s.bind pathP = pathS [] n st) := by
    cases p with
    | none => exact ⟨0, none, hP.1, by omega, hP.2, HS⟩
    | some nr =>
      obtain ⟨n, r⟩ := nr
      exact ⟨n, some r, hP.1, by have := HLT.out n r rfl; omega, hP.2, HS⟩
  have HD := Lib.hid hD
  clear hD hF hP HS HLT
  have q0 : (0 : Int) ≤ (n : Int) := by omega
  go_wp2_with fail
  go_loopw [3, 5] (fun s3 s5 wr => ∃ (i : Nat) (acc : List Int) (st : Option (List UInt8)), s5 = .int .i64 (i : Int) ∧ i ≤ n ∧ acc.length = i ∧ wr.ownsRow w.heap.size 3 1 s3 acc.length (acc.map (Value.int .i64)) ∧ DS w0 wr D bs bv st ∧ Fr w wr (isB D) ∧ Hid (s.bind pathP = pathS acc (n - i) st)) (fun _ i _ => n - (intOf i).toNat)
  case atStart => exact ⟨0, [], st, rfl, Nat.zero_le _, rfl, ⟨rfl, .inl ⟨rfl, rfl⟩⟩, HD.out, HF.out, HN⟩
  case round =>
    clear HD HF HN
    obtain ⟨i, acc, st, rfl, hi, hal, hO, hD, hF, HN⟩ := hrel
    have q1 : (0 : Int) ≤ (i : Int) := by omega
    obtain ⟨a, x, hb, ha, hs⟩ := hD.box
    have b2 := hb.cell 2
    have hno := hb.not_own hO (by decide)
    have HO := Lib.hid hO
    have HF := Lib.hid hF
    have HD := Lib.hid hD
    have HAL : Hid (acc.length = i) := Lib.hid hal
    have hal2 : acc.length ≤ 64 := by omega
    obtain ⟨vA, vC, rfl, -⟩ := RdS.of_owns hO
    clear hO hD hF hal hb
    rcases Nat.lt_or_ge i n with hlt | hlt
    · have q2 : (i : Int) < (n : Int) := by omega
      cases st with
      | none =>
        subst hs
        go_wp2_with fail
        go_ret
        refine ⟨HF.out, ?_⟩
        rw [HN.out]
        exact ⟨acc, _, rfl, HO.out, HD.out⟩
      | some b =>
        obtain ⟨rfl, -⟩ := hs
        have HN2 := Lib.hid (HN.out.trans ((congrArg (fun m => pathS acc m (some b)) (show n - i = (n - (i + 1)) + 1 by omega)).trans (pathS_step acc (n - (i + 1)) b)))
        have hc : Calls Try.prog 86 #[.pointer (some ⟨D, 0, none⟩), .int .u64 1048576] wr (NumC w0 wr D bs bv (smallP 1048577 b)) := dnumber_any 1048576 bs bv (some b) w0 wr D HD.out
        have HLT : Hid (∀ n r, smallP 1048577 b = some (n, r) → n < 1048577) := Lib.hid (fun n r hh => small_lt hh)
        obtain ⟨p, hp⟩ : ∃ p, smallP 1048577 b = p := ⟨_, rfl⟩
        rw [hp] at hc HN2 HLT
        clear hp HN
        go_wp2_with fail
        refine hc.mono ?_
        clear hc b2
        rintro e w2 ⟨hF2, hP⟩
        obtain ⟨y, st2, rfl, hy, hD2, HN3⟩ : ∃ (y : Nat) (st2 : Option (List UInt8)), e = .returned (.int .u64 (y : Int)) ∧ y ≤ 1048576 ∧ DS w0 w2 D bs bv st2 ∧ Hid (s.bind pathP = pathS (acc ++ [(y : Int)]) (n - (i + 1)) st2) := by
          cases p with
          | none => exact ⟨0, none, hP.1, by omega, hP.2, HN2⟩
          | some nr =>
            obtain ⟨y, r⟩ := nr
            exact ⟨y, some r, hP.1, by have := HLT.out y r rfl; omega, hP.2, HN2⟩
        obtain ⟨w3, hw3⟩ : ∃ W, w2.alloc (.cells #[.int .i64 (y : Int)] 3) = W := ⟨_, rfl⟩
        obtain ⟨S, hS⟩ : ∃ S, w2.heap.size = S := ⟨_, rfl⟩
        have X3 : Ext w2 w3 := by rw [← hw3]; exact (Ext.refl _).alloc _
        have HRD : Hid (RdS w3 1 1 [.int .i64 (y : Int)] (.slice (some ⟨S, 0, none⟩) 1 1)) := Lib.hid (by rw [← hw3, ← hS]; exact RdS.one (cs := #[.int .i64 (y : Int)]) rfl)
        have hO2 := owns_fr hF2 HO.out (fun g hg hk => hno (by rw [hg]; exact congrArg some hk))
        have HOO := Lib.hid (owns_ext X3 hO2)
        have HD3 := Lib.hid (hD2.more X3)
        have HF3 := Lib.hid ((HF.out.trans hF2).trans (Fr.of_ext X3 _))
        have HSZ := Lib.hid (Nat.le_trans (HF.out.trans hF2).size X3.size)
        have HW3 := Lib.hid hw3
        have HSS := Lib.hid hS
        have q3 : (0 : Int) ≤ (y : Int) := by omega
        have hno2 : Hid (Value.ownBlock (.slice vA acc.length vC) ≠ some D) := Lib.hid hno
        clear hF2 hD2 hw3 X3 hS hO2 HLT HN2 hP hno
        go_wp2_with (first | (rw [HW3.out, HSS.out]; clear HW3 HSS) | (at_builtin; refine wpList_append_rd rfl rfl T33 (v := _) (by rfl) HOO.out (by rfl) HRD.out (fun u hu => by rw [List.mem_singleton.1 hu]; rfl) (by omega) (by simp only [maxLen]; omega) HSZ.out ?_; intro v4 w4 O1 hg hat))
        refine ⟨⟨i + 1, acc ++ [(y : Int)], st2, by go_num, by omega, by rw [List.length_append, HAL.out]; rfl, by rw [List.length_append, List.map_append]; exact O1, HD3.out.fr (Fr.grown hg) (fun k hk => Nat.le_trans HB0.out (owns_base HOO.out k hk)) hno2.out, Fr.new ((HF3.out.mono fun k hk => .inl hk).trans ((Fr.grown hg).mono fun k hk => .inr (owns_base HOO.out k hk))), HN3⟩, by simp [intOf]; omega⟩
    · have q2 : (n : Int) ≤ (i : Int) := by omega
      have HP : Hid (s.bind pathP = pathS acc 0 st) := Lib.hid (by rw [HN.out, show n - i = 0 by omega])
      clear HN
      go_wp2_with fail
      go_ret
      refine ⟨HF.out, ?_⟩
      rw [HP.out]
      cases st with
      | none => exact ⟨acc, _, rfl, HO.out, HD.out⟩
      | some b =>
        show ∃ v, _ = _ ∧ rowV w (acc ++ []) v wr ∧ _
        rw [List.append_nil]
        exact ⟨_, rfl, HO.out, HD.out⟩
end Go.Proofs.Ytoplaokimahdiaa.Wi
