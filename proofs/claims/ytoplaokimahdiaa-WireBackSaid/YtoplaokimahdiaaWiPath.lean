/- Chapter 17: a row is put: how many, and each. -/
import Derived.Test.YtoplaokimahdiaaWiStr
namespace Go.Proofs.Ytoplaokimahdiaa.Wi
open Go.RowKit Go.Proofs.Ytoplaokimahdiaa.Bw Go.Proofs.Ytoplaokimahdiaa.Bs

theorem seqE_at {α : Type} {f : α → Option (List UInt8)} {l : List α} {i : Nat} {x : α} (h : l[i]? = some x) : seqE ((l.drop i).map f) = seqE (f x :: (l.drop (i + 1)).map f) := by
  rw [show l.drop i = x :: l.drop (i + 1) by
    have hlt := (List.getElem?_eq_some_iff.1 h).1
    have := (List.getElem?_eq_some_iff.1 h).2
    rw [← this, ← List.drop_eq_getElem_cons hlt]]
  rfl
/-- What is known of a row that is put: J holds at each element, and nothing that a writer changes turns it. -/
structure Keeps (w0 : World) (B : Nat) (J : Nat → World → Prop) : Prop where
  fr : ∀ i W W' v bs, J i W → St w0 W B v bs → Fr W W' (Chg B v none_) → J i W'
set_option maxRecDepth 100000 in
set_option maxHeartbeats 1000000 in
theorem puts77 (fn : FuncId) (cap : Array Value) (enc : Int → Option (List UInt8)) (l : List Int) (most M : Nat) (hmost : most ≤ 1048576) (E : Nat → Prop) (J : Nat → World → Prop) (w0 w : World) (B : Nat) (v lv : Value) (bs : List UInt8) (hlv : RdI w0 l lv)
    (h : St w0 w B v bs) (hl : bs.length + 10 + most * M ≤ 100000000000000) (K : Keeps w0 B J) (hJ : J 0 w)
    (hfn : ∀ args W, (callFunc fn args).run Try.prog W = .ok (.enter fn args) W)
    (hone : ∀ i x W v1 b1, l[i]? = some x → J i W → St w0 W B v1 b1 → b1.length + M ≤ 100000000000000 → Calls Try.prog fn (#[.int .i64 x] ++ cap) W fun e W' => PutC w0 W B v1 b1 E (enc x) e W' ∧ ∀ b, enc x = some b → b.length ≤ M ∧ J (i + 1) W') :
    Calls Try.prog 77 #[.pointer (some ⟨B, 0, none⟩), lv, .int .i64 (most : Int), .func (.func fn) #[] cap] w fun e W' => PutC w0 w B v bs E (rowE l most enc) e W' ∧ ∀ b, rowE l most enc = some b → J l.length W' := by
  obtain ⟨A, c, rfl, _, hc1, hc2, hcell⟩ := hlv
  unfold maxLen at hc2
  have hc := small_any (l.length : Int) ((most : Int) + 1) (by omega) w0 w B v bs h (by omega)
  by_cases h0 : l.length ≤ most
  · have e : smallE (l.length : Int) ((most : Int) + 1) = some (num l.length) := by
      unfold smallE
      rw [if_pos ⟨by omega, by omega⟩, Int.toNat_natCast]
    rw [e] at hc
    have hst := h
    clear e
    go_enter Try.func77, Try.ntmps77
    go_wp2_with fail
    refine hc.mono ?_
    clear hc
    rintro e w1 ⟨v1, rfl, hP⟩
    have J1 := K.fr 0 w w1 v bs hJ hst hP.fr
    have hnl := num_len (n := l.length) (by omega)
    go_wp2_with fail
    have hP1 : PutOk w0 w B v bs E (num l.length) w1 v1 := hP.any
    have HR : Hid (seqE (some (num l.length) :: (l.drop 0).map enc) = rowE l most enc) := Lib.hid (by unfold rowE; rw [if_pos h0, List.drop_zero])
    clear hP hst h K
    go_loopw [18] (fun s18 wr => ∃ (i : Nat) (acc : List UInt8) (vr : Value), s18 = .int .i64 i ∧ i ≤ l.length ∧ PutOk w0 w B v bs E acc wr vr ∧ J i wr ∧ acc.length ≤ 10 + i * M ∧ Hid (seqE (some acc :: (l.drop i).map enc) = rowE l most enc)) (fun i _ => l.length - (intOf i).toNat)
    case atStart => exact ⟨0, num l.length, v1, rfl, Nat.zero_le _, hP1, J1, by omega, HR⟩
    case round =>
      obtain ⟨i, acc, vr, rfl, hi, hPr, hJr, hal, HF⟩ := hrel
      clear hP1 J1 HR hnl
      rcases Nat.lt_or_ge i l.length with hlt | hlt
      · obtain ⟨x, hx⟩ : ∃ x, l[i]? = some x := ⟨_, List.getElem?_eq_getElem hlt⟩
        obtain ⟨b0, off, rfl, cells⟩ := hcell (by omega)
        have cx := hPr.st.ext.cell (cells i (.int .i64 x) (by rw [List.getElem?_map, hx]; rfl))
        have q1 : (0 : Int) ≤ (i : Int) := by omega
        have q2 : (i : Int) < (l.length : Int) := by omega
        have hmul : (i + 1) * M ≤ most * M := Nat.mul_le_mul_right M (by omega)
        have hmul2 : (i + 1) * M = i * M + M := Nat.succ_mul i M
        have hcall := hone i x wr vr (bs ++ acc) hx hJr hPr.st (by rw [List.length_append]; omega)
        have HX := Lib.hid ((congrArg (fun r => seqE (some acc :: r)) rfl).trans HF.out)
        have HS : Hid (seqE (some acc :: enc x :: (l.drop (i + 1)).map enc) = rowE l most enc) := Lib.hid (by
          rw [← HF.out, seqE_cons, seqE_cons, seqE_at hx])
        have HPR := Lib.hid hPr
        have HAL := Lib.hid hal
        have HM1 := Lib.hid hmul
        have HM2 := Lib.hid hmul2
        have HONE := Lib.hid hone
        clear cells hcell hx hJr hPr hal HF HX hmul hmul2 hone
        go_wp2_with fail
        refine hcall.mono ?_
        clear hcall
        rintro e w2 ⟨hC, hJn⟩
        cases hex : enc x with
        | none =>
          rw [hex] at hC
          obtain ⟨rfl, hNo⟩ := hC
          have hN : rowE l most enc = none := by rw [← HS.out, hex, seqE_cons]; rfl
          clear hJn hex
          go_wp2_with fail
          refine ⟨rfl, ?_⟩
          rw [hN]
          exact ⟨⟨rfl, HPR.out.no hNo⟩, fun b hb => by cases hb⟩
        | some b1 =>
          rw [hex] at hC
          obtain ⟨v2, rfl, hP2⟩ := hC
          obtain ⟨hbl, hJ2⟩ := hJn b1 hex
          have HP3 := Lib.hid (HPR.out.trans hP2)
          have HS2 : Hid (seqE (some (acc ++ b1) :: (l.drop (i + 1)).map enc) = rowE l most enc) := Lib.hid (by
            rw [← HS.out, hex, seqE_cons, seqE_cons, seqE_cons]
            cases seqE ((l.drop (i + 1)).map enc) <;> simp)
          clear hJn hex hP2
          go_wp2_with fail
          go_roundw
          case rel => exact ⟨i + 1, acc ++ b1, v2, by go_num, by omega, HP3.out, hJ2, by have := HAL.out; have := HM2.out; rw [List.length_append]; omega, HS2⟩
          case measure => simp [intOf]; omega
      · obtain rfl : i = l.length := by omega
        have hR : rowE l most enc = some acc := by
          rw [← HF.out, List.drop_length, seqE_cons]
          show some (acc ++ []) = some acc
          rw [List.append_nil]
        have HRR := Lib.hid hR
        have HPR := Lib.hid hPr
        clear hR HF hone hcell
        go_wp2_with fail
        go_end0
        rw [HRR.out]
        exact ⟨⟨_, rfl, HPR.out⟩, fun b _ => hJr⟩
  · have e : smallE (l.length : Int) ((most : Int) + 1) = none := if_neg (by omega)
    have e2 : rowE l most enc = none := if_neg h0
    rw [e] at hc
    rw [e2]
    clear h hone K hJ hcell
    go_enter Try.func77, Try.ntmps77
    go_wp2_with fail
    refine hc.mono ?_
    clear hc
    rintro e w1 ⟨rfl, hP⟩
    go_wp2_with fail
    exact ⟨rfl, ⟨rfl, hP.any⟩, fun b hb => by cases hb⟩
theorem enters78 : ∀ args W, (callFunc 78 args).run Try.prog W = .ok (.enter 78 args) W := fun args W => by
  kernel_rfl
end Go.Proofs.Ytoplaokimahdiaa.Wi
namespace Go.Proofs.Ytoplaokimahdiaa.Wi
open Go.RowKit Go.Proofs.Ytoplaokimahdiaa.Bw Go.Proofs.Ytoplaokimahdiaa.Bs

theorem PutC.from {w0 w w1 : World} {B : Nat} {v : Value} {bs : List UInt8} {E : Nat → Prop} {enc : Option (List UInt8)} {e : Ending} {W' : World} (he : Ext w w1) (h : PutC w0 w1 B v bs E enc e W') : PutC w0 w B v bs E enc e W' := by
  cases enc with
  | none => exact ⟨h.1, h.2.ext, (Fr.of_ext he _).trans h.2.fr⟩
  | some b =>
    obtain ⟨v', h1, h2⟩ := h
    exact ⟨v', h1, h2.st, (Fr.of_ext he _).trans h2.fr, fun k hk => (h2.ow k hk).imp_right (Nat.le_trans he.size)⟩
theorem PutC.any {w0 w : World} {B : Nat} {v : Value} {bs : List UInt8} {E : Nat → Prop} {enc : Option (List UInt8)} {e : Ending} {W' : World} (h : PutC w0 w B v bs none_ enc e W') : PutC w0 w B v bs E enc e W' := by
  cases enc with
  | none => exact ⟨h.1, h.2.any⟩
  | some b =>
    obtain ⟨v', h1, h2⟩ := h
    exact ⟨v', h1, h2.any⟩
theorem keepsBox (w0 : World) (B C : Nat) (t : TypeId) (cs : Array Value) (h1 : t ≠ 106) (h2 : t ≠ 5) : Keeps w0 B (fun _ W => NBox W C t cs) :=
  ⟨fun _ W W' v bs hJ hS hF => hJ.fr hF (fun hk => by
    rcases hk with hk | hk | hk
    · exact NBox.apart hJ hS.box h1 hk
    · exact hJ.not_own hS.own h2 hk
    · exact hk.elim)⟩
theorem smallE_len {n below : Int} {b : List UInt8} (hb : below ≤ 4611686018427387904) (h : smallE n below = some b) : b.length ≤ 10 := by
  unfold smallE at h
  split at h
  next h1 =>
    cases h
    exact num_len (by omega)
  next => cases h
theorem seqE_len {α : Type} {f : α → Option (List UInt8)} {M : Nat} (hf : ∀ x b, f x = some b → b.length ≤ M) : ∀ (l : List α) (b : List UInt8), seqE (l.map f) = some b → b.length ≤ l.length * M
  | [], b, h => by cases h; exact Nat.zero_le _
  | x :: l, b, h => by
    obtain ⟨a, c, h1, h2, rfl⟩ := seqE_cons_some (show seqE (f x :: l.map f) = some b from h)
    have := hf x a h1
    have := seqE_len hf l c h2
    rw [List.length_append, List.length_cons, Nat.succ_mul]
    omega
theorem rowE_len {α : Type} {f : α → Option (List UInt8)} {M : Nat} (hf : ∀ x b, f x = some b → b.length ≤ M) {l : List α} {most : Nat} (hm : most < 18446744073709551616) {b : List UInt8} (h : rowE l most f = some b) : b.length ≤ 10 + most * M := by
  unfold rowE at h
  split at h
  next h1 =>
    obtain ⟨a, c, h2, h3, rfl⟩ := seqE_cons_some h
    cases h2
    have := num_len (n := l.length) (by omega)
    have := seqE_len hf l c h3
    have : l.length * M ≤ most * M := Nat.mul_le_mul_right M h1
    rw [List.length_append]
    omega
  next => cases h
theorem pathE_len {p : List Int} {b : List UInt8} (h : pathE p = some b) : b.length ≤ 650 := rowE_len (M := 10) (fun _ _ hb => smallE_len (by decide) hb) (by decide) h
set_option maxRecDepth 100000 in
set_option maxHeartbeats 1000000 in
theorem path1_any (x : Int) (C : Nat) (w0 w : World) (B : Nat) (v : Value) (bs : List UInt8) (h : St w0 w B v bs) (hC : NBox w C 73 #[.pointer (some ⟨B, 0, none⟩)]) (hl : bs.length ≤ 100000000000000) : Calls Try.prog 78 #[.int .i64 x, .pointer (some ⟨C, 0, none⟩)] w (PutC w0 w B v bs none_ (smallE x 1048577)) := by
  have hc := small_any x 1048577 (by decide) w0 w B v bs h hl
  have c0 := hC.cell 0
  obtain ⟨r, hr⟩ : ∃ r, smallE x 1048577 = r := ⟨_, rfl⟩
  rw [hr] at hc ⊢
  clear hr h hC
  go_enter Try.func78, Try.ntmps78
  go_wp2_with fail
  refine hc.mono ?_
  clear hc
  intro e W' hP
  cases r with
  | none =>
    obtain ⟨rfl, hN⟩ := hP
    go_wp2_with fail
    exact ⟨rfl, rfl, hN⟩
  | some b =>
    obtain ⟨v', rfl, hP⟩ := hP
    go_wp2_with fail
    go_end0
    exact ⟨_, rfl, hP⟩
set_option maxRecDepth 100000 in
set_option maxHeartbeats 1000000 in
theorem path_any (l : List Int) (lv : Value) (w0 w : World) (B : Nat) (v : Value) (bs : List UInt8) (hlv : RdI w0 l lv) (h : St w0 w B v bs) (hl : bs.length + 650 ≤ 100000000000000) : Calls Try.prog 44 #[.pointer (some ⟨B, 0, none⟩), lv] w (PutC w0 w B v bs none_ (pathE l)) := by
  have hmf : ∀ (fn : Fn) (first cap : Array Value) (w : World), (Instr.makeFunc fn first cap).run Try.prog w = .ok (.func fn first cap) w := fun _ _ _ _ => rfl
  obtain ⟨w1, hw1⟩ : ∃ W, w.alloc (.cells #[.pointer (some ⟨B, 0, none⟩)] 73) = W := ⟨_, rfl⟩
  have E1 : Ext w w1 := by rw [← hw1]; exact (Ext.refl w).alloc _
  have hC : NBox w1 w.heap.size 73 #[.pointer (some ⟨B, 0, none⟩)] := by rw [← hw1]; exact NBox.new _ _ _
  obtain ⟨C, hCC⟩ : ∃ C, w.heap.size = C := ⟨_, rfl⟩
  rw [hCC] at hC
  have c0 := hC.cell 0
  have hc := puts77 78 #[.pointer (some ⟨C, 0, none⟩)] (fun n => smallE n 1048577) l 64 10 (by decide) none_ (fun _ W => NBox W C 73 #[.pointer (some ⟨B, 0, none⟩)]) w0 w1 B v lv bs hlv (h.more E1) (by omega) (keepsBox w0 B C 73 _ (by decide) (by decide)) hC enters78
    (fun i x W v1 b1 hx hJ hS hb => (path1_any x C w0 W B v1 b1 hS hJ (by omega)).mono fun e W' hP => ⟨hP, fun b hbb => ⟨smallE_len (by decide) hbb, by
      have hbb : smallE x 1048577 = some b := hbb
      rw [hbb] at hP
      obtain ⟨v', _, hP⟩ := hP
      exact (keepsBox w0 B C 73 _ (by decide) (by decide)).fr 0 W W' v1 b1 hJ hS hP.fr⟩⟩)
  have HC := Lib.hid hc
  have HW := Lib.hid hw1
  have HCC := Lib.hid hCC
  have HE := Lib.hid E1
  obtain ⟨A, c, rfl, -⟩ := hlv
  clear hc hw1 hCC hC h E1
  go_enter Try.func44, Try.ntmps44
  go_wp2_with fail
  rw [HW.out, HCC.out]
  go_wp2_with fail
  refine HC.out.mono ?_
  clear HC HW HCC c0
  rintro e W' ⟨hQ, -⟩
  have hP : PutC w0 w B v bs none_ (pathE l) e W' := PutC.from HE.out hQ
  clear hQ
  obtain ⟨r, hr⟩ : ∃ r, pathE l = r := ⟨_, rfl⟩
  rw [hr] at hP
  have HR := Lib.hid hr
  clear hr
  cases r with
  | none =>
    obtain ⟨rfl, hN⟩ := hP
    go_wp2_with fail
    refine ⟨rfl, ?_⟩
    rw [HR.out]
    exact ⟨rfl, hN⟩
  | some b =>
    obtain ⟨v', rfl, hP⟩ := hP
    go_wp2_with fail
    go_end0
    rw [HR.out]
    exact ⟨_, rfl, hP⟩
end Go.Proofs.Ytoplaokimahdiaa.Wi
