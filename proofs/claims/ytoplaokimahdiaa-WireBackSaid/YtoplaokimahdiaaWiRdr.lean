/- Chapter 17: a list, a number, a leaf: the examples hold. -/
import Derived.Test.YtoplaokimahdiaaWiPutL
import Derived.Laws.BytesArg
import Derived.WalkKit
namespace Go.Proofs.Ytoplaokimahdiaa.Wi
open Go.RowKit Go.Proofs.Ytoplaokimahdiaa.Bw Go.Proofs.Ytoplaokimahdiaa.Bs

/-- Bytes, as a string. -/
def Sb (bs : List UInt8) : ByteArray := ⟨bs.toArray⟩
theorem bl_Sb (bs : List UInt8) : bl (Sb bs) = bs := rfl
theorem Sb_size (bs : List UInt8) : (Sb bs).size = bs.length := rfl
theorem sb_nums (bs : List UInt8) : strOfNums (bs.map fun c => (c.toNat : Int)) = Sb bs := by
  unfold strOfNums Sb
  congr 1
  rw [List.map_map]
  congr 1
  rw [List.map_congr_left (g := id) (fun c _ => by show UInt8.ofNat ((c.toNat : Int).toNat) = c; rw [Int.toNat_natCast, UInt8.ofNat_toNat]), List.map_id]
theorem conv_own {W : World} {base : Nat} {v : Value} {bs : List UInt8} (h : W.ownsRow base 5 1 v bs.length (u8s bs)) : (convert 25 9 v).run Try.prog W = .ok (.string (Sb bs)) W := by
  rcases h.2 with ⟨rfl, hn⟩ | ⟨g, cap, cur, rfl, -⟩
  · have : bs = [] := by
      have h1 := h.1
      simp only [Nat.mul_one] at h1
      rw [hn] at h1
      exact List.length_eq_zero_iff.1 (by rw [← u8s_len]; simpa using h1)
    subst this
    exact run_convert_bytes_nil W 25 5 Try.underlying25 Try.underlying5 0 0 9 Try.underlying9
  · rw [← sb_nums]
    refine run_convert_bytes_arg W 25 5 Try.underlying25 Try.underlying5 g 0 bs.length cap (bs.map fun c => (c.toNat : Int)) (by simp) (fun i hi => ?_) 9 Try.underlying9
    have := h.cells (g := g) rfl i (.int .u8 ((bs.map fun c => (c.toNat : Int)).getD i 0)) (by
      unfold u8s
      rw [List.getElem?_map, List.getElem?_eq_getElem hi]
      simp [List.getD, List.getElem?_eq_getElem hi])
    rw [Addr.add_lit, Nat.zero_add] at this
    rw [Nat.zero_add]
    exact this
def op3 : OpD := ⟨2, [3], 0, [], 0, false, ⟨#[]⟩, ⟨#[]⟩, ⟨#[]⟩, false, []⟩
def leaf5 : Nd := .mk 5 true ⟨#[97]⟩ [] ⟨#[120]⟩ []
theorem Sb_toList (bs : List UInt8) : (Sb bs).toList = bs := by rw [ByteArray.toList_eq]; rfl
theorem works1 : (Sb (num 300)).toList = [172, 2] := (Sb_toList _).trans (by decide)
theorem works2 : listE [op3] = some [1, 2, 1, 3] := by decide +kernel
theorem works3 : treeE leaf5 = some [5, 1, 1, 97, 0, 1, 120] := by decide +kernel
set_option maxRecDepth 100000 in
set_option maxHeartbeats 1000000 in
theorem works_any (w : World) : Calls Try.prog 10 #[] w fun e w' => e = .returned (.bool true) ∧ Ext w w' := by
  have hc := putNumber_any 300 (by decide) w
  go_enter Try.func10, Try.ntmps10
  go_wp2_with fail
  refine hc.mono ?_
  clear hc
  rintro e w1 ⟨hX1, v1, rfl, hO⟩
  have kc := conv_own hO
  have HX1 := Lib.hid hX1
  have st := works1
  obtain ⟨s1, hs1⟩ : ∃ s, Sb (num 300) = s := ⟨_, rfl⟩
  rw [show bytesOf (some (num 300)) = num 300 from rfl, hs1] at kc
  rw [hs1] at st
  obtain ⟨vA, vC, rfl, -⟩ := RdS.of_owns hO
  obtain ⟨w2, hw2⟩ : ∃ W, w1.alloc (.cells #[.int .i64 3] 3) = W := ⟨_, rfl⟩
  obtain ⟨N, hN⟩ : ∃ N, w1.heap.size = N := ⟨_, rfl⟩
  have E2 : Ext w1 w2 := by rw [← hw2]; exact (Ext.refl _).alloc _
  have hp : RdI w2 [3] (.slice (some ⟨N, 0, none⟩) 1 1) := by rw [← hw2, ← hN]; exact RdS.one (cs := #[.int .i64 3]) rfl
  obtain ⟨w3, hw3⟩ : ∃ W, w2.alloc (.cells #[.int .u8 2, .slice (some ⟨N, 0, none⟩) 1 1, .int .i64 0, .slice none 0 0, .int .u64 0, .bool false, .string ⟨#[]⟩, .string ⟨#[]⟩, .string ⟨#[]⟩, .bool false, .slice none 0 0] 66) = W := ⟨_, rfl⟩
  have s2 : w2.heap.size = N + 1 := by rw [← hw2, World.size_alloc, hN]
  have E3 : Ext w2 w3 := by rw [← hw3]; exact (Ext.refl _).alloc _
  have bx : NBox w3 (N + 1) 66 #[.int .u8 2, .slice (some ⟨N, 0, none⟩) 1 1, .int .i64 0, .slice none 0 0, .int .u64 0, .bool false, .string ⟨#[]⟩, .string ⟨#[]⟩, .string ⟨#[]⟩, .bool false, .slice none 0 0] := by rw [← hw3, ← s2]; exact NBox.new _ _ _
  have hrl : RdL w3 [op3] (.slice (some ⟨N + 1, 0, none⟩) 1 1) := ⟨_, 1, rfl, Nat.le_refl _, by decide, fun _ => ⟨N + 1, 0, rfl, ⟨_, _, _, bx.cell 0, bx.cell 1, bx.cell 2, bx.cell 3, bx.cell 4, bx.cell 5, bx.cell 6, bx.cell 7, bx.cell 8, bx.cell 9, bx.cell 10, ⟨_, _, _, rfl, RdS.ext E3 hp, RdS.nil_ _ _, ⟨none, 0, rfl, by decide, by decide, fun h => absurd h (by decide)⟩, Nat.zero_le _, Nat.zero_le _, Nat.zero_le _, by decide, by decide⟩⟩, trivial⟩⟩
  have hc := putList_any [op3] _ w3 hrl
  rw [works2] at hc
  have HW2 := Lib.hid hw2
  have HW3 := Lib.hid hw3
  have HN := Lib.hid hN
  have HE3 := Lib.hid (hX1.trans (E2.trans E3))
  clear hO hX1 hs1 hw2 hw3 hN E2 E3 bx hrl hp s2
  go_wp2_with fail
  rw [HW2.out, HN.out, HW3.out]
  clear HW2 HW3 HN
  refine hc.mono ?_
  clear hc kc st
  rintro e w4 ⟨hX4, v4, rfl, hO⟩
  have kc := conv_own hO
  have HE4 := Lib.hid (HE3.out.trans hX4)
  have st : (Sb (bytesOf (some [1, 2, 1, 3]))).toList = [1, 2, 1, 3] := Sb_toList _
  obtain ⟨s1, hs1⟩ : ∃ s, Sb (bytesOf (some [1, 2, 1, 3])) = s := ⟨_, rfl⟩
  rw [hs1] at kc st
  obtain ⟨vA, vC, rfl, -⟩ := RdS.of_owns hO
  have hc := putNode_any leaf5 (.agg #[.int .u64 5, .bool true, .string ⟨#[97]⟩, .slice none 0 0, .string ⟨#[120]⟩, .slice none 0 0]) w4 (by
    unfold leaf5 Nd.rd
    exact ⟨_, _, _, rfl, by decide, (show (1 : Nat) ≤ maxLen by decide), (show (1 : Nat) ≤ maxLen by decide), ⟨none, 0, rfl, by decide, by decide, fun h => absurd rfl h⟩, by decide, by decide, fun h => absurd rfl h⟩)
  rw [works3] at hc
  clear hO hX4 hs1
  go_wp2_with fail
  refine hc.mono ?_
  clear hc kc st
  rintro e w5 ⟨hX5, v5, rfl, hO⟩
  have kc := conv_own hO
  have HE5 := Lib.hid (HE4.out.trans hX5)
  have st : (Sb (bytesOf (some [5, 1, 1, 97, 0, 1, 120]))).toList = [5, 1, 1, 97, 0, 1, 120] := Sb_toList _
  obtain ⟨s1, hs1⟩ : ∃ s, Sb (bytesOf (some [5, 1, 1, 97, 0, 1, 120])) = s := ⟨_, rfl⟩
  rw [hs1] at kc st
  obtain ⟨vA, vC, rfl, -⟩ := RdS.of_owns hO
  clear hO hX5 hs1
  go_wp2_with fail
  go_ret
  exact ⟨rfl, HE5.out⟩
end Go.Proofs.Ytoplaokimahdiaa.Wi
namespace Go.Proofs.Ytoplaokimahdiaa.Wi
open Go.RowKit Go.Proofs.Ytoplaokimahdiaa.Bw Go.Proofs.Ytoplaokimahdiaa.Bs

/-- A reader: its box, and the bytes that it has yet: they stand in memory that was there before. -/
structure RS (w0 W : World) (B : Nat) (bs : List UInt8) : Prop where
  ext : Ext w0 W
  hB : w0.heap.size ≤ B
  box : ∃ rv, NBox W B 85 #[rv] ∧ RdS w0 1 bs.length (u8s bs) rv
def isB (B : Nat) : Nat → Prop := fun k => k = B
theorem RS.more {w0 W W' : World} {B : Nat} {bs : List UInt8} (h : RS w0 W B bs) (k : Ext W W') : RS w0 W' B bs := by
  obtain ⟨rv, hb, hr⟩ := h.box
  exact ⟨h.ext.trans k, h.hB, rv, hb.ext k, hr⟩
theorem RdS.len_le {w : World} {n : Nat} {xs : List Value} {v : Value} (h : RdS w 1 n xs v) : n ≤ maxLen := by
  obtain ⟨A, c, _, _, h1, h2, _⟩ := h
  omega
/-- What stands behind the first one. -/
theorem RdS.tail1 {w : World} {n : Nat} {x : Value} {xs : List Value} {b off c : Nat} (h : RdS w 1 (n + 1) (x :: xs) (.slice (some ⟨b, off, none⟩) (n + 1) c)) (A : Option Addr) (hA : A = if c = 1 then some ⟨b, off, none⟩ else some ⟨b, off + 1, none⟩) : RdS w 1 n xs (.slice A n (c - 1)) := by
  obtain ⟨A0, c0, he, hl, h1, h2, hc⟩ := h
  simp only [Value.slice.injEq, true_and] at he
  obtain ⟨rfl, rfl⟩ := he
  refine ⟨_, _, rfl, by simpa using hl, by omega, by omega, fun h0 => ?_⟩
  obtain ⟨b1, o1, e1, hcell⟩ := hc (by omega)
  simp only [Option.some.injEq, Addr.mk.injEq, and_true] at e1
  obtain ⟨rfl, rfl⟩ := e1
  rw [if_neg (by omega)] at hA
  refine ⟨b, off + 1, hA, fun j u hj => ?_⟩
  have := hcell (j + 1) u (by simpa using hj)
  rw [show off + 1 + j = off + (j + 1) by omega]
  exact this
set_option maxRecDepth 100000 in
theorem byte_no (w0 w : World) (B : Nat) (h : RS w0 w B []) : Calls Try.prog 80 #[.pointer (some ⟨B, 0, none⟩)] w fun e W' => e = .panicked WR ∧ w = W' := by
  obtain ⟨rv, hb, A, c, rfl, -⟩ := h.box
  have b0 := hb.cell 0
  have hw := want_no w
  clear hb h
  go_enter Try.func80, Try.ntmps80
  go_wp2_with fail
  refine hw.mono ?_
  rintro e w' ⟨rfl, rfl⟩
  go_wp2_with fail
  exact ⟨rfl, rfl, rfl⟩
set_option maxRecDepth 100000 in
set_option maxHeartbeats 1000000 in
theorem byte_yes (x : UInt8) (r : List UInt8) (w0 w : World) (B : Nat) (h : RS w0 w B (x :: r)) : Calls Try.prog 80 #[.pointer (some ⟨B, 0, none⟩)] w fun e W' => e = .returned (.int .u8 x.toNat) ∧ RS w0 W' B r ∧ Fr w W' (isB B) := by
  obtain ⟨rv, hb, hr⟩ := h.box
  have HR := Lib.hid hr
  obtain ⟨A, c, rfl, -, hc1, hc2, hcell⟩ := hr
  unfold maxLen at hc2
  simp only [List.length_cons] at hc1 hcell
  obtain ⟨b, off, rfl, cells⟩ := hcell (by omega)
  have z0 := h.ext.cell (cells 0 (.int .u8 x.toNat) rfl)
  rw [Nat.add_zero] at z0
  have b0 := hb.cell 0
  have b1 := hb.frozen 0
  have hw := want_yes w
  have HB := Lib.hid hb
  have HH := Lib.hid h
  have hcp : 1 ≤ c := by omega
  have hlen : (x :: r).length = r.length + 1 := rfl
  rw [hlen] at b0
  clear hb h hcell cells hlen
  go_enter Try.func80, Try.ntmps80
  go_wp2_with fail
  refine hw.mono ?_
  clear hw
  rintro e w' ⟨rfl, rfl⟩
  go_wp2_with fail
  · go_ret
    refine ⟨rfl, ⟨Fr.ext HH.out.ext (Fr.setCell _ _ _ _) (fun k hk => by rw [hk]; exact HH.out.hB), HH.out.hB, _, HB.out.set 0 _, ?_⟩, Fr.setCell _ _ _ _⟩
    have hc1' : c = 1 := by assumption
    have := RdS.tail1 (x := .int .u8 x.toNat) HR.out (some ⟨b, off, none⟩) (if_pos hc1').symm
    rw [hc1'] at this
    exact this
  · go_ret
    have hc1' : ¬ c = 1 := by assumption
    exact ⟨rfl, ⟨Fr.ext HH.out.ext (Fr.setCell _ _ _ _) (fun k hk => by rw [hk]; exact HH.out.hB), HH.out.hB, _, HB.out.set 0 _, RdS.tail1 (x := .int .u8 x.toNat) HR.out _ (if_neg hc1').symm⟩, Fr.setCell _ _ _ _⟩
end Go.Proofs.Ytoplaokimahdiaa.Wi
