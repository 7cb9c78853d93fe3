/- Chapter 17: a reader in memory; byte. -/
import Derived.Test.YtoplaokimahdiaaWiWorks
import Derived.WalkKit
namespace Go.Proofs.Ytoplaokimahdiaa.Wi
open Go.RowKit Go.Proofs.Ytoplaokimahdiaa.Bw Go.Proofs.Ytoplaokimahdiaa.Bs

/-- A reader: its box, and the bytes that it has yet: they stand in memory that was there before. -/
structure RS (w0 W : World) (B : Nat) (bs : List UInt8) : Prop where
  ext : Ext w0 W
  hB : w0.heap.size ≤ B
  box : ∃ rv, NBox W B 85 #[rv] ∧ RdS w0 1 bs.length (u8s bs) rv
def isB (B : Nat) : Nat → Prop := fun k => k = B
theorem RS.more {w0 W W' : World} {B : Nat} {bs : List UInt8} (h : RS w0 W B bs) (k : Ext W W') : RS w0 W' B bs := by
  obtain ⟨rv, hb, hr⟩ := h.box
  exact ⟨h.ext.trans k, h.hB, rv, hb.ext k, hr⟩
theorem RdS.len_le {w : World} {n : Nat} {xs : List Value} {v : Value} (h : RdS w 1 n xs v) : n ≤ maxLen := by
  obtain ⟨A, c, _, _, h1, h2, _⟩ := h
  omega
/-- What stands behind the first one. -/
theorem RdS.tail1 {w : World} {n : Nat} {x : Value} {xs : List Value} {b off c : Nat} (h : RdS w 1 (n + 1) (x :: xs) (.slice (some ⟨b, off, none⟩) (n + 1) c)) (A : Option Addr) (hA : A = if c = 1 then some ⟨b, off, none⟩ else some ⟨b, off + 1, none⟩) : RdS w 1 n xs (.slice A n (c - 1)) := by
  obtain ⟨A0, c0, he, hl, h1, h2, hc⟩ := h
  simp only [Value.slice.injEq, true_and] at he
  obtain ⟨rfl, rfl⟩ := he
  refine ⟨_, _, rfl, by simpa using hl, by omega, by omega, fun h0 => ?_⟩
  obtain ⟨b1, o1, e1, hcell⟩ := hc (by omega)
  simp only [Option.some.injEq, Addr.mk.injEq, and_true] at e1
  obtain ⟨rfl, rfl⟩ := e1
  rw [if_neg (by omega)] at hA
  refine ⟨b, off + 1, hA, fun j u hj => ?_⟩
  have := hcell (j + 1) u (by simpa using hj)
  rw [show off + 1 + j = off + (j + 1) by omega]
  exact this
set_option maxRecDepth 100000 in
theorem byte_no (w0 w : World) (B : Nat) (h : RS w0 w B []) : Calls Try.prog 80 #[.pointer (some ⟨B, 0, none⟩)] w fun e W' => e = .panicked WR ∧ w = W' := by
  obtain ⟨rv, hb, A, c, rfl, -⟩ := h.box
  have b0 := hb.cell 0
  have hw := want_no w
  clear hb h
  go_enter Try.func80, Try.ntmps80
  go_wp2_with fail
  refine hw.mono ?_
  rintro e w' ⟨rfl, rfl⟩
  go_wp2_with fail
  exact ⟨rfl, rfl, rfl⟩
set_option maxRecDepth 100000 in
set_option maxHeartbeats 1000000 in
theorem byte_yes (x : UInt8) (r : List UInt8) (w0 w : World) (B : Nat) (h : RS w0 w B (x :: r)) : Calls Try.prog 80 #[.pointer (some ⟨B, 0, none⟩)] w fun e W' => e = .returned (.int .u8 x.toNat) ∧ RS w0 W' B r ∧ Fr w W' (isB B) := by
  obtain ⟨rv, hb, hr⟩ := h.box
  have HR := Lib.hid hr
  obtain ⟨A, c, rfl, -, hc1, hc2, hcell⟩ := hr
  unfold maxLen at hc2
  simp only [List.length_cons] at hc1 hcell
  obtain ⟨b, off, rfl, cells⟩ := hcell (by omega)
  have z0 := h.ext.cell (cells 0 (.int .u8 x.toNat) rfl)
  rw [Nat.add_zero] at z0
  have b0 := hb.cell 0
  have b1 := hb.frozen 0
  have hw := want_yes w
  have HB := Lib.hid hb
  have HH := Lib.hid h
  have hcp : 1 ≤ c := by omega
  have hlen : (x :: r).length = r.length + 1 := rfl
  rw [hlen] at b0
  clear hb h hcell cells hlen
  go_enter Try.func80, Try.ntmps80
  go_wp2_with fail
  refine hw.mono ?_
  clear hw
  rintro e w' ⟨rfl, rfl⟩
  go_wp2_with fail
  · go_ret
    refine ⟨rfl, ⟨Fr.ext HH.out.ext (Fr.setCell _ _ _ _) (fun k hk => by rw [hk]; exact HH.out.hB), HH.out.hB, _, HB.out.set 0 _, ?_⟩, Fr.setCell _ _ _ _⟩
    have hc1' : c = 1 := by assumption
    have := RdS.tail1 (x := .int .u8 x.toNat) HR.out (some ⟨b, off, none⟩) (if_pos hc1').symm
    rw [hc1'] at this
    exact this
  · go_ret
    have hc1' : ¬ c = 1 := by assumption
    exact ⟨rfl, ⟨Fr.ext HH.out.ext (Fr.setCell _ _ _ _) (fun k hk => by rw [hk]; exact HH.out.hB), HH.out.hB, _, HB.out.set 0 _, RdS.tail1 (x := .int .u8 x.toNat) HR.out _ (if_neg hc1').symm⟩, Fr.setCell _ _ _ _⟩
end Go.Proofs.Ytoplaokimahdiaa.Wi
