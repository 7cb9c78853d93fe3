/- Chapter 17: the document's Number, text, Path, walked. (Printed by gwrn.py.) -/
import Derived.Test.YtoplaokimahdiaaWiRNum
namespace Go.Proofs.Ytoplaokimahdiaa.Wi
open Go.RowKit Go.Proofs.Ytoplaokimahdiaa.Bw Go.Proofs.Ytoplaokimahdiaa.Bs

set_option maxRecDepth 100000 in
set_option maxHeartbeats 1000000 in
theorem numberR_any (n : Nat) (hn : n < 18446744073709551616) (w : World) : Calls Try.prog 23 #[.int .u64 (n : Int)] w (PutR w (some (num n))) := by
  go_enter Try.func23, Try.ntmps23
  go_wp2_with fail
  go_loopw [0, 3] (fun s0 s3 wr => ∃ (m : Nat) (acc : List UInt8), s0 = .int .u64 (m : Int) ∧ m < 18446744073709551616 ∧ New w wr s3 acc ∧ Hid (acc ++ num m = num n) ∧ acc.length + (num m).length ≤ 10) (fun m _ _ => (intOf m).toNat)
  case atStart => exact ⟨n, [], rfl, hn, New.nil _, Lib.hid rfl, by have := num_len hn; simpa using this⟩
  case round =>
    obtain ⟨m, acc, rfl, hm, hN, HN, hal⟩ := hrel
    have hO := hN.own
    have HNN := Lib.hid hN
    have q1 : (0 : Int) ≤ (m : Int) := by omega
    rcases Nat.lt_or_ge m 128 with hlt | hlt
    · have t1 : decide ((128 : Int) ≤ (m : Int)) = false := decide_eq_false (by omega)
      have hcb : ((UInt8.ofNat m).toNat : Int) = (m : Int) := by rw [toNat_ofNat (by omega)]
      obtain ⟨vA, vC, rfl, -⟩ := RdS.of_owns hO
      clear hO hN
      have hX : Ext wr (wr.alloc (.cells #[.int .u8 ((m : Int))] 5)) := (Ext.refl _).alloc _
      have hrd := rd_byte wr (UInt8.ofNat m)
      rw [show ((UInt8.ofNat m).toNat : Int) = (m : Int) from hcb] at hrd
      have HRD := Lib.hid hrd
      have HOO := Lib.hid (owns_ext hX HNN.out.own)
      have HSZ := Lib.hid (Nat.le_trans HNN.out.ext.size hX.size)
      have HNA := Lib.hid (HNN.out.more hX)
      clear hX hrd hcb
      go_wp2_with (at_builtin; refine wpList_append_rd rfl rfl T25 (v := _) (by rfl) HOO.out (by rfl) HRD.out (u8s_one _) (by omega) (by simp only [maxLen]; omega) HSZ.out ?_)
      intro v1 w1 O1 hg hat
      have N1 := HNA.out.app (b := [UInt8.ofNat m]) O1 hg
      have HN1 := Lib.hid N1
      obtain ⟨vA1, vC1, rfl, -⟩ := RdS.of_owns O1
      clear N1 O1 hg hat
      go_wp2_with fail
      go_ret
      have := HN1.out
      rw [show acc ++ [UInt8.ofNat m] = num n by rw [← HN.out, num_small hlt]] at this
      exact this.putR
    · have t1 : decide ((128 : Int) ≤ (m : Int)) = true := decide_eq_true (by omega)
      have hcb : ((UInt8.ofNat (m % 128 + 128)).toNat : Int) = (m : Int) % 128 + 128 := by rw [toNat_ofNat (by omega)]; omega
      obtain ⟨c, hcc⟩ : ∃ c, UInt8.ofNat (m % 128 + 128) = c := ⟨_, rfl⟩
      rw [hcc] at hcb
      have HCC := Lib.hid hcc
      obtain ⟨vA, vC, rfl, -⟩ := RdS.of_owns hO
      clear hO hN hcc
      have hX : Ext wr (wr.alloc (.cells #[.int .u8 ((m : Int) % 128 + 128)] 5)) := (Ext.refl _).alloc _
      have hrd := rd_byte wr (c)
      rw [show ((c).toNat : Int) = (m : Int) % 128 + 128 from hcb] at hrd
      have HRD := Lib.hid hrd
      have HOO := Lib.hid (owns_ext hX HNN.out.own)
      have HSZ := Lib.hid (Nat.le_trans HNN.out.ext.size hX.size)
      have HNA := Lib.hid (HNN.out.more hX)
      clear hX hrd hcb
      go_wp2_with (at_builtin; refine wpList_append_rd rfl rfl T25 (v := _) (by rfl) HOO.out (by rfl) HRD.out (u8s_one _) (by omega) (by simp only [maxLen]; omega) HSZ.out ?_)
      intro v1 w1 O1 hg hat
      have N1 := HNA.out.app (b := [c]) O1 hg
      have HN1 := Lib.hid N1
      obtain ⟨vA1, vC1, rfl, -⟩ := RdS.of_owns O1
      clear N1 O1 hg hat
      go_wp2_with fail
      go_roundw
      case rel => exact ⟨m / 128, acc ++ [c], by go_num, by omega, HN1.out, Lib.hid (by rw [← HN.out, num_big hlt, ← HCC.out, List.append_assoc]; rfl), by
        rw [num_big hlt] at hal
        simp only [List.length_append, List.length_cons, List.length_nil] at hal ⊢; omega⟩
      case measure => simp [intOf]; omega
/-- A row that was just told is put behind another one. -/
theorem PutR.rd {w W : World} {b : List UInt8} {e : Ending} (h : PutR w (some b) e W) : ∃ v, e = .returned v ∧ New w W v b := by
  obtain ⟨hX, v, he, hO⟩ := h
  exact ⟨v, he, hX, hO⟩
set_option maxRecDepth 100000 in
set_option maxHeartbeats 1000000 in
theorem textR_any (s : ByteArray) (hs : s.size ≤ 100000000000000) (w : World) : Calls Try.prog 56 #[.string s] w (PutR w (some (textB s))) := by
  have hc := numberR_any s.size (by omega) w
  go_enter Try.func56, Try.ntmps56
  go_wp2_with fail
  refine hc.mono ?_
  clear hc
  rintro e w1 hP
  obtain ⟨v1, rfl, hN⟩ := PutR.rd hP
  have hnl := num_len (n := s.size) (by omega)
  have HN := Lib.hid hN
  have HSZ := Lib.hid hN.ext.size
  have HOO := Lib.hid hN.own
  obtain ⟨vA, vC, rfl, -⟩ := RdS.of_owns hN.own
  obtain ⟨i0, hi, hz0, hz1, hz2⟩ := info_parts (show (Try.prog.info? 5).map (fun i => (i.zero, i.size, i.bytes)) = some (some (.int .u8 0), 1, 1) by kernel_rfl)
  have HI := Lib.hid hi
  have HZ0 := Lib.hid hz0
  have HZ1 := Lib.hid hz1
  have HZ2 := Lib.hid hz2
  clear hP hN hi hz0 hz1 hz2
  go_wp2_with (at_builtin; refine wpList_append_str rfl rfl Try.underlying25 Try.underlying9 HI.out HZ0.out HZ1.out HZ2.out (v := _) (by rfl) HOO.out (by rfl) (by omega) HSZ.out ?_)
  intro v2 w2 O1 hg hat
  have N1 := HN.out.app (b := bl s) (by rw [bl_len]; exact O1) hg
  have HN1 := Lib.hid N1
  obtain ⟨vA1, vC1, rfl, -⟩ := RdS.of_owns O1
  clear N1 O1 hg hat
  go_wp2_with fail
  go_ret
  exact HN1.out.putR
theorem numsB_at {p : List Int} {i : Nat} {x : Int} (h : p[i]? = some x) : numsB (p.drop i) = num x.toNat ++ numsB (p.drop (i + 1)) := by
  rw [drop_at h]; rfl
set_option maxRecDepth 100000 in
set_option maxHeartbeats 1000000 in
theorem pathR_any (p : List Int) (pv : Value) (w : World) (hp : RdI w p pv) (hm : mayP p = true) : Calls Try.prog 25 #[pv] w (PutR w (some (pathB p))) := by
  obtain ⟨A, c, rfl, _, a1, a2, hcell⟩ := hp
  unfold maxLen at a2
  unfold mayP at hm
  simp only [Bool.and_eq_true, decide_eq_true_eq] at hm
  obtain ⟨hm1, hm2⟩ := hm
  have HSM : Hid (∀ (i : Nat) (x : Int), p[i]? = some x → 0 ≤ x ∧ x ≤ 1048576) := Lib.hid (fun i x hx => by
    have := List.all_eq_true.1 hm2 x (List.mem_of_getElem? hx)
    simpa [smallB] using this)
  have hc := numberR_any p.length (by omega) w
  clear hm2
  go_enter Try.func25, Try.ntmps25
  go_wp2_with fail
  refine hc.mono ?_
  clear hc
  rintro e w1 hP
  obtain ⟨v1, rfl, hN⟩ := PutR.rd hP
  have hnl := num_len (n := p.length) (by omega)
  have HN := Lib.hid hN
  clear hP hN
  go_wp2_with fail
  go_loopw [3, 4] (fun s3 s4 wr => ∃ (i : Nat) (acc : List UInt8), s4 = .int .i64 (i : Int) ∧ i ≤ p.length ∧ New w wr s3 acc ∧ Hid (acc ++ numsB (p.drop i) = pathB p) ∧ acc.length ≤ 10 + i * 10) (fun _ i _ => p.length - (intOf i).toNat)
  case atStart => exact ⟨0, _, rfl, Nat.zero_le _, HN.out, Lib.hid rfl, by omega⟩
  case round =>
    obtain ⟨i, acc, rfl, hi, hN, HF, hal⟩ := hrel
    have HNN := Lib.hid hN
    have q1 : (0 : Int) ≤ (i : Int) := by omega
    rcases Nat.lt_or_ge i p.length with hlt | hlt
    · have q2 : (i : Int) < (p.length : Int) := by omega
      obtain ⟨x, hx⟩ : ∃ x, p[i]? = some x := ⟨_, List.getElem?_eq_getElem hlt⟩
      obtain ⟨b0, off, rfl, cells⟩ := hcell (by omega)
      have cx := hN.ext.cell (cells i (.int .i64 x) (by rw [List.getElem?_map, hx]; rfl))
      obtain ⟨hx0, hx1⟩ := HSM.out i x hx
      obtain ⟨y, rfl⟩ : ∃ y : Nat, x = (y : Int) := ⟨x.toNat, by omega⟩
      have hc := numberR_any y (by omega) wr
      have hyl := num_len (n := y) (by omega)
      have HF2 : Hid ((acc ++ num y) ++ numsB (p.drop (i + 1)) = pathB p) := Lib.hid (by rw [← HF.out, numsB_at hx, Int.toNat_natCast, List.append_assoc])
      obtain ⟨vA, vC, rfl, -⟩ := RdS.of_owns hN.own
      clear hcell cells hx hN HF HN
      go_wp2_with fail
      refine hc.mono ?_
      clear hc
      rintro e w2 hP
      obtain ⟨v2, rfl, hN2⟩ := PutR.rd hP
      have HOO := Lib.hid (owns_ext hN2.ext HNN.out.own)
      have HSZ := Lib.hid (HNN.out.more hN2.ext).ext.size
      have HRD := Lib.hid (RdS.of_owns hN2.own)
      have HNA := Lib.hid (HNN.out.more hN2.ext)
      obtain ⟨vA2, vC2, rfl, -⟩ := RdS.of_owns hN2.own
      clear hP hN2 cx
      go_wp2_with (at_builtin; refine wpList_append_rd rfl rfl T25 (v := _) (by rfl) HOO.out (by rfl) HRD.out (u8s_one _) (by omega) (by simp only [maxLen]; omega) HSZ.out ?_)
      intro v3 w3 O1 hg hat
      have N1 := HNA.out.app (b := num y) O1 hg
      have HN1 := Lib.hid N1
      obtain ⟨vA1, vC1, rfl, -⟩ := RdS.of_owns O1
      clear N1 O1 hg hat
      go_wp2_with fail
      go_roundw
      case rel => exact ⟨i + 1, acc ++ num y, by go_num, by omega, HN1.out, HF2, by rw [List.length_append]; omega⟩
      case measure => simp [intOf]; omega
    · have hR : acc = pathB p := by rw [← HF.out, List.drop_eq_nil_of_le hlt]; simp [numsB]
      subst hR
      obtain ⟨vA, vC, rfl, -⟩ := RdS.of_owns hN.own
      clear hN HF hcell HN
      go_wp2_with fail
      go_ret
      exact HNN.out.putR
end Go.Proofs.Ytoplaokimahdiaa.Wi
