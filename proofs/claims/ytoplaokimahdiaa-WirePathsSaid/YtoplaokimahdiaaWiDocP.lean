/- Chapter 17: the document's GetPath. -/
import Derived.Test.YtoplaokimahdiaaWiDoc
import Derived.Test.YtoplaokimahdiaaWiGotP
namespace Go.Proofs.Ytoplaokimahdiaa.Wi
open Go.RowKit Go.Proofs.Ytoplaokimahdiaa.Bw Go.Proofs.Ytoplaokimahdiaa.Bs

/-- What the document's Get.. tells. -/
def DocR {α : Type} (V : World → α → Value → World → Prop) (w : World) (zero : Value) (o : Option α) (e : Ending) (W' : World) : Prop :=
  Ext w W' ∧ match o with
  | none => e = .returned (.tuple #[zero, .bool false])
  | some x => ∃ v, e = .returned (.tuple #[v, .bool true]) ∧ V w x v W'
theorem whole_no {α : Type} {x : α} {r : List UInt8} (h : r ≠ []) : whole (some (x, r)) = none := by
  cases r with
  | nil => exact absurd rfl h
  | cons y r => rfl
set_option maxRecDepth 100000 in
set_option maxHeartbeats 2000000 in
theorem getPathR_any (bs : List UInt8) (bv : Value) (w : World) (h : RdS w 1 bs.length (u8s bs) bv) (hl : bs.length ≤ 100000000000) : Calls Try.prog 27 #[bv] w (DocR rowV w (.slice none 0 0) (whole (pathP bs))) := by
  obtain ⟨w1, hw1⟩ : ∃ W, w.alloc (.cells #[bv, .int .i64 0, .bool false] 96) = W := ⟨_, rfl⟩
  obtain ⟨D, hDD⟩ : ∃ D, w.heap.size = D := ⟨_, rfl⟩
  have E1 : Ext w w1 := by rw [← hw1]; exact (Ext.refl w).alloc _
  have bD : NBox w1 D 96 #[bv, .int .i64 0, .bool false] := by rw [← hw1, ← hDD]; exact NBox.new _ _ _
  have hDS : DS w w1 D bs bv (some bs) := ⟨E1, by omega, h, hl, 0, false, bD, Nat.zero_le _, rfl, List.drop_zero⟩
  have hc : Calls Try.prog 54 #[.pointer (some ⟨D, 0, none⟩)] w1 (DocC w w1 D bs bv (rowV w1) (pathP bs)) := dpath_any bs bv (some bs) w w1 D hDS
  obtain ⟨p, hp⟩ : ∃ p, pathP bs = p := ⟨_, rfl⟩
  rw [hp] at hc ⊢
  have HW := Lib.hid hw1
  have HD := Lib.hid hDD
  have HE1 := Lib.hid E1
  obtain ⟨A, c, rfl, -⟩ := h
  clear hw1 hDD bD hDS hp
  go_enter Try.func27, Try.ntmps27
  go_wp2_with fail
  rw [HW.out, HD.out]
  refine hc.mono ?_
  clear hc
  rintro e W' ⟨-, hP⟩
  cases p with
  | none =>
    obtain ⟨x, v, rfl, hv, hDS⟩ := hP
    obtain ⟨a, y, hb, -, rfl⟩ := hDS.box
    have b2 := hb.cell 2
    have HX := Lib.hid hDS.ext
    obtain ⟨vA, vC, rfl, -⟩ := RdS.of_owns hv
    clear hv hDS hb
    go_wp2_with fail
    go_ret2
    exact ⟨HX.out, rfl⟩
  | some xr =>
    obtain ⟨x, r⟩ := xr
    obtain ⟨v, rfl, hv, hDS⟩ := hP
    obtain ⟨a, y, hb, ha, rfl, hr⟩ := hDS.box
    have b1 := hb.cell 1
    have b2 := hb.cell 2
    have HX := Lib.hid hDS.ext
    have HV := Lib.hid (rowV.from HE1.out x v hv)
    obtain ⟨vA, vC, rfl, -⟩ := RdS.of_owns hv
    have hrl : r.length = bs.length - a := by rw [← hr, List.length_drop]
    clear hv hDS hb
    by_cases h0 : r = []
    · subst h0
      have t1 : ((a : Int) != (bs.length : Int)) = false := by rw [bne_eq_false_iff_eq]; simp only [List.length_nil] at hrl; omega
      have t2 : (a != bs.length) = false := by rw [bne_eq_false_iff_eq]; simp only [List.length_nil] at hrl; omega
      clear hr hrl
      go_wp2_with fail
      go_ret2
      exact ⟨HX.out, _, rfl, HV.out⟩
    · have hpos : 0 < r.length := List.length_pos_iff.2 h0
      have t1 : ((a : Int) != (bs.length : Int)) = true := by rw [bne_iff_ne]; omega
      have t2 : (a != bs.length) = true := by rw [bne_iff_ne]; omega
      have HN := Lib.hid (whole_no (x := x) h0)
      clear hr hrl h0
      go_wp2_with fail
      go_ret2
      rw [HN.out]
      exact ⟨HX.out, rfl⟩
end Go.Proofs.Ytoplaokimahdiaa.Wi
