/- Chapter 17: want, number, small, flag, text, walked. -/
import Derived.Test.YtoplaokimahdiaaWiOpenB
namespace Go.Proofs.Ytoplaokimahdiaa.Wi
open Go.RowKit Go.Proofs.Ytoplaokimahdiaa.Bw Go.Proofs.Ytoplaokimahdiaa.Bs

theorem T25 : SliceT Try.prog 25 5 (.int .u8 0) 1 1 := SliceT.mk' Try.underlying25 (by kernel_rfl) rfl (by decide)
theorem want_yes (w : World) : Calls Try.prog 67 #[.bool true] w fun e w' => e = .returned (.tuple #[]) ∧ w = w' := by
  go_enter Try.func67, Try.ntmps67
  go_wp2_with fail
  go_end0
  exact ⟨rfl, rfl⟩
theorem want_no (w : World) : Calls Try.prog 67 #[.bool false] w fun e w' => e = .panicked WR ∧ w = w' := by
  go_enter Try.func67, Try.ntmps67
  go_wp2_with fail
  exact ⟨rfl, rfl, rfl⟩

/-! ### number -/
set_option maxRecDepth 100000 in
theorem bits_all : ∀ x : Fin 256, bits BinOp.or IntKind.u8 ((x.val : Nat) : Int) 128 = ((x.val % 128 + 128 : Nat) : Int) := by decide
theorem bits_or (m : Nat) : bits BinOp.or IntKind.u8 ((m : Int) % 256) 128 = (((UInt8.ofNat (m % 128 + 128)).toNat : Nat) : Int) := by
  have h := bits_all ⟨m % 256, by omega⟩
  rw [toNat_ofNat (by omega)]
  simp only at h
  rw [show ((m % 256 : Nat) : Int) = (m : Int) % 256 by omega, show m % 256 % 128 = m % 128 by omega] at h
  exact h
/-- One byte, in a block that was just made for it. -/
theorem rd_byte (W : World) (c : UInt8) : RdS (W.alloc (.cells #[.int .u8 c.toNat] 5)) 1 1 (u8s [c]) (.slice (some ⟨W.heap.size, 0, none⟩) 1 1) := RdS.one (cs := #[.int .u8 c.toNat]) rfl
set_option maxRecDepth 100000 in
set_option maxHeartbeats 1000000 in
theorem number_any (n : Nat) (hn : n < 18446744073709551616) (w0 w : World) (B : Nat) (v : Value) (bs : List UInt8) (h : St w0 w B v bs) (hl : bs.length ≤ 100000000000000) : Calls Try.prog 50 #[.pointer (some ⟨B, 0, none⟩), .int .u64 (n : Int)] w (PutC w0 w B v bs none_ (some (num n))) := by
  go_enter Try.func50, Try.ntmps50
  go_wp2_with fail
  go_loopw [1] (fun s1 wr => ∃ (m k : Nat) (acc : List UInt8) (vr : Value), s1 = .int .u64 (m : Int) ∧ m < 18446744073709551616 ∧ PutOk w0 w B v bs none_ acc wr vr ∧ Hid (acc ++ num m = num n) ∧ acc.length + (num m).length ≤ 10) (fun m _ => (intOf m).toNat)
  case atStart => exact ⟨n, 0, [], v, rfl, hn, PutOk.refl _ h, Lib.hid rfl, by have := num_len hn; simpa using this⟩
  case round =>
    obtain ⟨m, k, acc, vr, rfl, hm, hP, HN, hal⟩ := hrel
    have b0 := hP.st.box.cell 0
    have b1 := hP.st.box.frozen 0
    have hO := hP.st.own
    obtain ⟨N, hN⟩ : ∃ N, (bs ++ acc).length = N := ⟨_, rfl⟩
    have hNl : N ≤ 100000000000010 := by rw [← hN, List.length_append]; omega
    rw [hN] at hO
    have HN2 := Lib.hid hN
    clear hN
    rcases Nat.lt_or_ge m 128 with hlt | hlt
    · have t1 : decide ((128 : Int) ≤ (m : Int)) = false := decide_eq_false (by omega)
      have hc : ((UInt8.ofNat m).toNat : Int) = (m : Int) := by rw [toNat_ofNat (by omega)]
      have hrd := rd_byte wr (UInt8.ofNat m)
      have hoo := owns_ext ((Ext.refl wr).alloc (.cells #[.int .u8 (UInt8.ofNat m).toNat] 5)) hO
      have hsz := Nat.le_trans hP.st.ext.size ((Ext.refl wr).alloc (.cells #[.int .u8 (UInt8.ofNat m).toNat] 5)).size
      rw [hc] at hrd hoo hsz
      have HRD := Lib.hid hrd
      have HOO := Lib.hid hoo
      have HSZ := Lib.hid hsz
      have HPP := Lib.hid hP
      have hbl := hP.st.box.lt
      have hne := hP.st.box.not_own hO (by decide)
      have HNE := Lib.hid hne
      have hbx := Lib.hid hP.st.box
      obtain ⟨vA, vC, rfl, -⟩ := RdS.of_owns hO
      clear hrd hoo hsz hO hP hne h hc
      go_wp2_with (at_builtin; refine wpList_append_rd rfl rfl T25 (v := _) (by rfl) HOO.out (by rfl) HRD.out (u8s_one _) (by omega) (by simp only [maxLen]; omega) HSZ.out ?_)
      intro v1 w1 O1 hg hat
      have P2 := HPP.out.st.put none_ ((Ext.refl wr).alloc _) HN2.out (n := 1) (b := [UInt8.ofNat m]) rfl rfl O1 hg (ow_of hat (by omega))
      have c1 := ((hbx.out.ext ((Ext.refl wr).alloc (.cells #[.int .u8 (m : Int)] 5))).fr (Fr.grown hg) (fun hk => HNE.out hk))
      have c2 := c1.cell 0
      have c3 := c1.frozen 0
      have HP2 := Lib.hid P2
      obtain ⟨vA1, vC1, rfl, -⟩ := RdS.of_owns O1
      clear P2 c1 O1 hg hat b0 b1 hbx
      go_wp2_with fail
      go_end0
      have := HPP.out.trans HP2.out
      rw [show acc ++ [UInt8.ofNat m] = num n by rw [← HN.out, num_small hlt]] at this
      exact ⟨_, rfl, this⟩
    · have t1 : decide ((128 : Int) ≤ (m : Int)) = true := decide_eq_true (by omega)
      have hcb := bits_or m
      obtain ⟨c, hcc⟩ : ∃ c, UInt8.ofNat (m % 128 + 128) = c := ⟨_, rfl⟩
      rw [hcc] at hcb
      have hrd := rd_byte wr c
      have hoo := owns_ext ((Ext.refl wr).alloc (.cells #[.int .u8 c.toNat] 5)) hO
      have hsz := Nat.le_trans hP.st.ext.size ((Ext.refl wr).alloc (.cells #[.int .u8 c.toNat] 5)).size
      rw [← hcb] at hrd hoo hsz
      have hud : u8s [c] = [.int .u8 (bits BinOp.or IntKind.u8 ((m : Int) % 256) 128)] := by rw [hcb]; rfl
      have HRD := Lib.hid hrd
      have HOO := Lib.hid hoo
      have HSZ := Lib.hid hsz
      have HPP := Lib.hid hP
      have HCC := Lib.hid hcc
      have hbl := hP.st.box.lt
      have hne := hP.st.box.not_own hO (by decide)
      have HNE := Lib.hid hne
      have hbx := Lib.hid hP.st.box
      obtain ⟨vA, vC, rfl, -⟩ := RdS.of_owns hO
      clear hrd hoo hsz hO hP hne h hcc hcb hud
      have q1 : (0 : Int) ≤ (m : Int) := by omega
      go_wp2_with (at_builtin; refine wpList_append_rd rfl rfl T25 (v := _) (by rfl) HOO.out (by rfl) HRD.out (u8s_one _) (by omega) (by simp only [maxLen]; omega) HSZ.out ?_)
      intro v1 w1 O1 hg hat
      have P2 := HPP.out.st.put none_ ((Ext.refl wr).alloc _) HN2.out (n := 1) (b := [c]) rfl rfl O1 hg (ow_of hat (by omega))
      have c1 := ((hbx.out.ext ((Ext.refl wr).alloc _)).fr (Fr.grown hg) (fun hk => HNE.out hk))
      have c2 := c1.cell 0
      have c3 := c1.frozen 0
      have P3 := HPP.out.trans P2
      have HP2 := Lib.hid P3
      obtain ⟨vA1, vC1, rfl, -⟩ := RdS.of_owns O1
      clear P2 P3 c1 O1 hg hat b0 b1 hbx
      go_wp2_with fail
      go_roundw
      case rel => exact ⟨m / 128, k, acc ++ [c], _, by go_num, by omega, HP2.out, Lib.hid (by rw [← HN.out, num_big hlt, ← HCC.out, List.append_assoc]; rfl), by
        rw [num_big hlt] at hal
        simp only [List.length_append, List.length_cons, List.length_nil] at hal ⊢; omega⟩
      case measure => simp [intOf]; omega

/-! ### small, flag, text -/
set_option maxRecDepth 100000 in
set_option maxHeartbeats 1000000 in
theorem small_any (n below : Int) (hb : below ≤ 4611686018427387904) (w0 w : World) (B : Nat) (v : Value) (bs : List UInt8) (h : St w0 w B v bs) (hl : bs.length ≤ 100000000000000) : Calls Try.prog 66 #[.pointer (some ⟨B, 0, none⟩), .int .i64 n, .int .i64 below] w (PutC w0 w B v bs none_ (smallE n below)) := by
  have ex := h.ext
  rcases Int.lt_or_le n 0 with h0 | h0
  · have t1 : decide ((0 : Int) ≤ n) = false := decide_eq_false (by omega)
    have e : smallE n below = none := if_neg (by omega)
    rw [e]
    have hw := want_no w
    clear h
    go_enter Try.func66, Try.ntmps66
    go_wp2_with fail
    refine hw.mono ?_
    rintro e w' ⟨rfl, rfl⟩
    go_wp2_with fail
    exact ⟨rfl, rfl, ex, Fr.refl _ _⟩
  · have t1 : decide ((0 : Int) ≤ n) = true := decide_eq_true h0
    rcases Int.lt_or_le n below with h1 | h1
    · have t2 : decide (n < below) = true := decide_eq_true h1
      obtain ⟨k, rfl⟩ : ∃ k : Nat, n = k := ⟨n.toNat, by omega⟩
      have e : smallE (k : Int) below = some (num k) := by
        unfold smallE
        rw [if_pos ⟨h0, h1⟩, Int.toNat_natCast]
      rw [e]
      have hw := want_yes w
      have hn := number_any k (by omega) w0 w B v bs h hl
      clear h
      go_enter Try.func66, Try.ntmps66
      go_wp2_with fail
      refine hw.mono ?_
      rintro e w' ⟨rfl, rfl⟩
      go_wp2_with fail
      refine hn.mono ?_
      clear hn
      rintro e w' ⟨v', rfl, hP⟩
      go_wp2_with fail
      go_end0
      exact ⟨_, rfl, hP⟩
    · have t2 : decide (n < below) = false := decide_eq_false (by omega)
      have e : smallE n below = none := if_neg (by omega)
      rw [e]
      have hw := want_no w
      clear h
      go_enter Try.func66, Try.ntmps66
      go_wp2_with fail
      refine hw.mono ?_
      rintro e w' ⟨rfl, rfl⟩
      go_wp2_with fail
      exact ⟨rfl, rfl, ex, Fr.refl _ _⟩
set_option maxRecDepth 100000 in
set_option maxHeartbeats 1000000 in
theorem flag_any (f : Bool) (w0 w : World) (B : Nat) (v : Value) (bs : List UInt8) (h : St w0 w B v bs) (hl : bs.length ≤ 100000000000010) : Calls Try.prog 69 #[.pointer (some ⟨B, 0, none⟩), .bool f] w (PutC w0 w B v bs none_ (some (flagE f))) := by
  have b0 := h.box.cell 0
  have b1 := h.box.frozen 0
  have hO := h.own
  obtain ⟨N, hN⟩ : ∃ N, bs.length = N := ⟨_, rfl⟩
  rw [hN] at hO hl
  have HN2 := Lib.hid hN
  clear hN
  have HPP := Lib.hid h
  have hbl := h.box.lt
  have HNE := Lib.hid (h.box.not_own hO (by decide))
  have hbx := Lib.hid h.box
  have ex := Lib.hid h.ext
  cases f with
  | true =>
    have HRD := Lib.hid (rd_byte w 1)
    have HOO := Lib.hid (owns_ext ((Ext.refl w).alloc (.cells #[.int .u8 (1 : UInt8).toNat] 5)) hO)
    have HSZ := Lib.hid (Nat.le_trans h.ext.size ((Ext.refl w).alloc (.cells #[.int .u8 (1 : UInt8).toNat] 5)).size)
    obtain ⟨vA, vC, rfl, -⟩ := RdS.of_owns hO
    clear hO h
    go_enter Try.func69, Try.ntmps69
    go_wp2_with (at_builtin; refine wpList_append_rd rfl rfl T25 (v := _) (by rfl) HOO.out (by rfl) HRD.out (u8s_one _) (by omega) (by simp only [maxLen]; omega) HSZ.out ?_)
    intro v1 w1 O1 hg hat
    have P2 := HPP.out.put none_ ((Ext.refl w).alloc _) HN2.out (n := 1) (b := [1]) rfl rfl O1 hg (ow_of hat (by omega))
    have c1 := ((hbx.out.ext ((Ext.refl w).alloc (.cells #[.int .u8 (1 : UInt8).toNat] 5))).fr (Fr.grown hg) (fun hk => HNE.out hk))
    have c2 := c1.cell 0
    have c3 := c1.frozen 0
    have HP2 := Lib.hid P2
    obtain ⟨vA1, vC1, rfl, -⟩ := RdS.of_owns O1
    clear P2 c1 O1 hg hat b0 b1 hbx
    go_wp2_with fail
    go_end0
    exact ⟨_, rfl, HP2.out⟩
  | false =>
    have HRD := Lib.hid (rd_byte w 0)
    have HOO := Lib.hid (owns_ext ((Ext.refl w).alloc (.cells #[.int .u8 (0 : UInt8).toNat] 5)) hO)
    have HSZ := Lib.hid (Nat.le_trans h.ext.size ((Ext.refl w).alloc (.cells #[.int .u8 (0 : UInt8).toNat] 5)).size)
    obtain ⟨vA, vC, rfl, -⟩ := RdS.of_owns hO
    clear hO h
    go_enter Try.func69, Try.ntmps69
    go_wp2_with (at_builtin; refine wpList_append_rd rfl rfl T25 (v := _) (by rfl) HOO.out (by rfl) HRD.out (u8s_one _) (by omega) (by simp only [maxLen]; omega) HSZ.out ?_)
    intro v1 w1 O1 hg hat
    have P2 := HPP.out.put none_ ((Ext.refl w).alloc _) HN2.out (n := 1) (b := [0]) rfl rfl O1 hg (ow_of hat (by omega))
    have c1 := ((hbx.out.ext ((Ext.refl w).alloc (.cells #[.int .u8 (0 : UInt8).toNat] 5))).fr (Fr.grown hg) (fun hk => HNE.out hk))
    have c2 := c1.cell 0
    have c3 := c1.frozen 0
    have HP2 := Lib.hid P2
    obtain ⟨vA1, vC1, rfl, -⟩ := RdS.of_owns O1
    clear P2 c1 O1 hg hat b0 b1 hbx
    go_wp2_with fail
    go_end0
    exact ⟨_, rfl, HP2.out⟩
end Go.Proofs.Ytoplaokimahdiaa.Wi
