/- Chapter 17: PutNode. -/
import Derived.Test.YtoplaokimahdiaaWiNode
import Derived.Test.YtoplaokimahdiaaWiPutPN
import Derived.Test.YtoplaokimahdiaaWiOp
import Derived.Laws.BytesArg
import Derived.WalkKit
namespace Go.Proofs.Ytoplaokimahdiaa.Wi
open Go.RowKit Go.Proofs.Ytoplaokimahdiaa.Bw Go.Proofs.Ytoplaokimahdiaa.Bs

theorem enters41 : ∀ args W, (callFunc 41 args).run Try.prog W = .ok (.enter 41 args) W := fun args W => by kernel_rfl
set_option maxRecDepth 100000 in
set_option maxHeartbeats 1000000 in
theorem tree1_any (t : Nd) (tv : Value) (w0 W : World) (B C LB : Nat) (v : Value) (bs : List UInt8) (ht : t.rd w0 tv) (hC : NBox W C 32 tv.cells) (hL : NBox W LB 3 #[.int .i64 512]) (hL0 : w0.heap.size ≤ LB) (h : St w0 W B v bs) (hl : bs.length + 20000000000000 ≤ 100000000000000) :
    Calls Try.prog 41 #[.pointer (some ⟨B, 0, none⟩), .pointer (some ⟨C, 0, none⟩), .pointer (some ⟨LB, 0, none⟩)] W (PutC w0 W B v bs (fun k => k = LB) (treeE t)) := by
  have hc := (node_any t tv 0 512 LB w0 W B v bs ht (by decide) (by decide) (by decide) h hL hL0 (by omega)).mono (fun e W' hC => hC.1)
  rw [nodeC_tree] at hc
  obtain ⟨id, leaf, lb, ats, tx, ks⟩ := t
  unfold Nd.rd at ht
  obtain ⟨av, A, cc, rfl, -, -, -, ⟨aA, ac, rfl, -⟩, -⟩ := ht
  have d0 := hC.cell 0
  have d1 := hC.cell 1
  have d2 := hC.cell 2
  have d3 := hC.cell 3
  have d4 := hC.cell 4
  have d5 := hC.cell 5
  obtain ⟨r, hr⟩ : ∃ r, treeE (.mk id leaf lb ats tx ks) = r := ⟨_, rfl⟩
  rw [hr] at hc ⊢
  clear hC hL h hr
  go_enter Try.func41, Try.ntmps41
  go_wp2_with fail
  refine hc.mono ?_
  clear hc
  intro e W' hP
  cases r with
  | none =>
    obtain ⟨rfl, hN⟩ := hP
    go_wp2_with fail
    exact ⟨rfl, rfl, hN⟩
  | some b =>
    obtain ⟨v', rfl, hP⟩ := hP
    go_wp2_with fail
    go_end0
    exact ⟨_, rfl, hP⟩
set_option maxRecDepth 100000 in
set_option maxHeartbeats 1000000 in
theorem putNode_any (t : Nd) (tv : Value) (w : World) (ht : t.rd w tv) : Calls Try.prog 16 #[tv] w (PutR w (treeE t)) := by
  have hmf : ∀ (fn : Fn) (first cap : Array Value) (w : World), (Instr.makeFunc fn first cap).run Try.prog w = .ok (.func fn first cap) w := fun _ _ _ _ => rfl
  obtain ⟨w1, hw1⟩ : ∃ W, (w.alloc (.cells tv.cells 32)).alloc (.cells #[.int .i64 512] 3) = W := ⟨_, rfl⟩
  obtain ⟨N, hN⟩ : ∃ N, w.heap.size = N := ⟨_, rfl⟩
  have s1 : (w.alloc (.cells tv.cells 32)).heap.size = N + 1 := by rw [World.size_alloc, hN]
  have E1 : Ext w w1 := by rw [← hw1]; exact ((Ext.refl w).alloc _).alloc _
  have bN : NBox w1 N 32 tv.cells := by rw [← hw1, ← hN]; exact (NBox.new w 32 _).ext ((Ext.refl _).alloc _)
  have bL : NBox w1 (N + 1) 3 #[.int .i64 512] := by rw [← hw1, ← s1]; exact NBox.new _ 3 _
  have hsz := bL.lt
  have hc := put_any 41 #[.pointer (some ⟨N, 0, none⟩), .pointer (some ⟨N + 1, 0, none⟩)] enters41 (treeE t) (fun k => k = N + 1) w w1 E1 (fun k hk => by omega)
    (fun W B hW hB hS => tree1_any t tv w W B N (N + 1) (.slice none 0 0) [] ht (bN.ext hW) (bL.ext hW) (by omega) hS (by decide))
  have HW := Lib.hid hw1
  have HN := Lib.hid hN
  obtain ⟨r, hr⟩ : ∃ r, treeE t = r := ⟨_, rfl⟩
  rw [hr] at hc ⊢
  clear bN bL E1 s1 hsz hN hw1 hr
  obtain ⟨id, leaf, lb, ats, tx, ks⟩ := t
  unfold Nd.rd at ht
  obtain ⟨av, A, cc, rfl, -, -, -, ⟨aA, ac, rfl, -⟩, -⟩ := ht
  go_enter Try.func16, Try.ntmps16
  go_upto_region 2 with fail
  have e1 : (w.alloc (.cells #[.int .u64 id, .bool leaf, .string lb, .slice aA ats.length ac, .string tx, .slice A ks.length cc] 32)).alloc (.cells #[.int .i64 512] 3) = w1 := HW.out
  rw [e1, HN.out]
  clear e1 HW HN
  go_wp2_with fail
  refine hc.mono ?_
  clear hc
  rintro e W' ⟨hX, v', rfl, hO⟩
  have HO := Lib.hid hO
  have HX := Lib.hid hX
  obtain ⟨vA, vC, rfl, -⟩ := RdS.of_owns hO
  clear hO hX
  go_wp2_with fail
  go_ret
  exact ⟨HX.out, _, rfl, HO.out⟩
end Go.Proofs.Ytoplaokimahdiaa.Wi
namespace Go.Proofs.Ytoplaokimahdiaa.Wi
open Go.RowKit Go.Proofs.Ytoplaokimahdiaa.Bw Go.Proofs.Ytoplaokimahdiaa.Bs

theorem enters37 : ∀ args W, (callFunc 37 args).run Try.prog W = .ok (.enter 37 args) W := fun args W => by kernel_rfl
theorem enters39 : ∀ args W, (callFunc 39 args).run Try.prog W = .ok (.enter 39 args) W := fun args W => by kernel_rfl
theorem keepsTrue (w0 : World) (B : Nat) : Keeps w0 B (fun _ _ => True) := ⟨fun _ _ _ _ _ _ _ _ => trivial⟩
theorem OpD.rd_id {w : World} {o : OpD} {v : Value} (h : o.rd w v) : o.id ≤ 18446744073709551615 := by
  obtain ⟨pv, tv, cv, rfl, hP, hT, hC, hlb, hky, hvv, hid, hkd⟩ := h
  exact hid.2
theorem op_any (o : OpD) (xv : Value) (w0 w : World) (B : Nat) (v : Value) (bs : List UInt8) (h : St w0 w B v bs) (ho : o.rd w0 xv) (hl : bs.length + 4295200000 ≤ 100000000000000) :
    Calls Try.prog 39 #[.pointer (some ⟨B, 0, none⟩), xv] w (PutC w0 w B v bs none_ (opE o)) := by
  obtain ⟨k, p, a, t, i, lf, lb, ky, vv, g, c⟩ := o
  exact op_head k p a t i lf lb ky vv g c xv w0 w B v bs h ho hl
set_option maxRecDepth 100000 in
set_option maxHeartbeats 1000000 in
theorem list1_any (l : List OpD) (lv : Value) (w0 W : World) (B C : Nat) (v : Value) (bs : List UInt8) (hlv : RdL w0 l lv) (hC : NBox W C 22 #[lv]) (h : St w0 W B v bs) (hl : bs.length + 20000000000000 ≤ 100000000000000) :
    Calls Try.prog 37 #[.pointer (some ⟨B, 0, none⟩), .pointer (some ⟨C, 0, none⟩)] W (PutC w0 W B v bs none_ (listE l)) := by
  have hmf : ∀ (fn : Fn) (first cap : Array Value) (w : World), (Instr.makeFunc fn first cap).run Try.prog w = .ok (.func fn first cap) w := fun _ _ _ _ => rfl
  have c0 := hC.cell 0
  have hc := puts38 39 opE l 4096 4295200000 (by decide) none_ (fun _ _ => True) w0 W B v lv bs hlv h (by omega) (keepsTrue _ _) trivial enters39 (fun i x xv W v1 b1 hx hrd hJ hS hlen => (op_any x xv w0 W B v1 b1 hS hrd (by omega)).mono fun e W' hC => ⟨hC, fun b hb => ⟨Nat.le_trans (opE_len (OpD.rd_id hrd) hb) (by decide), trivial⟩⟩)
  replace hc := hc.mono (fun e W' h => h.1)
  obtain ⟨A, c, rfl, -⟩ := hlv
  obtain ⟨r, hr⟩ : ∃ r, rowE l 4096 opE = r := ⟨_, rfl⟩
  have HR : Hid (listE l = r) := Lib.hid hr
  rw [hr] at hc
  rw [HR.out]
  clear hC h hr HR
  go_enter Try.func37, Try.ntmps37
  go_wp2_with fail
  refine hc.mono ?_
  clear hc
  intro e W' hP
  cases r with
  | none =>
    obtain ⟨rfl, hN⟩ := hP
    go_wp2_with fail
    exact ⟨rfl, rfl, hN⟩
  | some b =>
    obtain ⟨v', rfl, hP⟩ := hP
    go_wp2_with fail
    go_end0
    exact ⟨_, rfl, hP⟩
set_option maxRecDepth 100000 in
set_option maxHeartbeats 1000000 in
theorem putList_any (l : List OpD) (lv : Value) (w : World) (hlv : RdL w l lv) : Calls Try.prog 12 #[lv] w (PutR w (listE l)) := by
  have hmf : ∀ (fn : Fn) (first cap : Array Value) (w : World), (Instr.makeFunc fn first cap).run Try.prog w = .ok (.func fn first cap) w := fun _ _ _ _ => rfl
  have E1 : Ext w (w.alloc (.cells #[lv] 22)) := (Ext.refl w).alloc _
  have hb := NBox.new w 22 #[lv]
  have hc := put_any 37 #[.pointer (some ⟨w.heap.size, 0, none⟩)] enters37 (listE l) none_ w (w.alloc (.cells #[lv] 22)) E1 (fun k hk => hk.elim)
    (fun W B hW hB hS => list1_any l lv w W B w.heap.size (.slice none 0 0) [] hlv (hb.ext hW) hS (by decide))
  clear hb E1
  obtain ⟨A, c, rfl, -⟩ := hlv
  go_enter Try.func12, Try.ntmps12
  go_wp2_with fail
  refine hc.mono ?_
  clear hc
  rintro e W' ⟨hX, v', rfl, hO⟩
  have HO := Lib.hid hO
  have HX := Lib.hid hX
  obtain ⟨vA, vC, rfl, -⟩ := RdS.of_owns hO
  clear hO hX
  go_wp2_with fail
  go_ret
  exact ⟨HX.out, _, rfl, HO.out⟩
end Go.Proofs.Ytoplaokimahdiaa.Wi
namespace Go.Proofs.Ytoplaokimahdiaa.Wi
open Go.RowKit Go.Proofs.Ytoplaokimahdiaa.Bw Go.Proofs.Ytoplaokimahdiaa.Bs

/-- Bytes, as a string. -/
def Sb (bs : List UInt8) : ByteArray := ⟨bs.toArray⟩
theorem bl_Sb (bs : List UInt8) : bl (Sb bs) = bs := rfl
theorem Sb_size (bs : List UInt8) : (Sb bs).size = bs.length := rfl
theorem sb_nums (bs : List UInt8) : strOfNums (bs.map fun c => (c.toNat : Int)) = Sb bs := by
  unfold strOfNums Sb
  congr 1
  rw [List.map_map]
  congr 1
  rw [List.map_congr_left (g := id) (fun c _ => by show UInt8.ofNat ((c.toNat : Int).toNat) = c; rw [Int.toNat_natCast, UInt8.ofNat_toNat]), List.map_id]
theorem conv_own {W : World} {base : Nat} {v : Value} {bs : List UInt8} (h : W.ownsRow base 5 1 v bs.length (u8s bs)) : (convert 25 9 v).run Try.prog W = .ok (.string (Sb bs)) W := by
  rcases h.2 with ⟨rfl, hn⟩ | ⟨g, cap, cur, rfl, -⟩
  · have : bs = [] := by
      have h1 := h.1
      simp only [Nat.mul_one] at h1
      rw [hn] at h1
      exact List.length_eq_zero_iff.1 (by rw [← u8s_len]; simpa using h1)
    subst this
    exact run_convert_bytes_nil W 25 5 Try.underlying25 Try.underlying5 0 0 9 Try.underlying9
  · rw [← sb_nums]
    refine run_convert_bytes_arg W 25 5 Try.underlying25 Try.underlying5 g 0 bs.length cap (bs.map fun c => (c.toNat : Int)) (by simp) (fun i hi => ?_) 9 Try.underlying9
    have := h.cells (g := g) rfl i (.int .u8 ((bs.map fun c => (c.toNat : Int)).getD i 0)) (by
      unfold u8s
      rw [List.getElem?_map, List.getElem?_eq_getElem hi]
      simp [List.getD, List.getElem?_eq_getElem hi])
    rw [Addr.add_lit, Nat.zero_add] at this
    rw [Nat.zero_add]
    exact this
def op3 : OpD := ⟨2, [3], 0, [], 0, false, ⟨#[]⟩, ⟨#[]⟩, ⟨#[]⟩, false, []⟩
def leaf5 : Nd := .mk 5 true ⟨#[97]⟩ [] ⟨#[120]⟩ []
theorem Sb_toList (bs : List UInt8) : (Sb bs).toList = bs := by rw [ByteArray.toList_eq]; rfl
theorem works1 : (Sb (num 300)).toList = [172, 2] := (Sb_toList _).trans (by decide)
theorem works2 : listE [op3] = some [1, 2, 1, 3] := by decide +kernel
theorem works3 : treeE leaf5 = some [5, 1, 1, 97, 0, 1, 120] := by decide +kernel
set_option maxRecDepth 100000 in
set_option maxHeartbeats 1000000 in
theorem works_any (w : World) : Calls Try.prog 10 #[] w fun e w' => e = .returned (.bool true) ∧ Ext w w' := by
  have hc := putNumber_any 300 (by decide) w
  go_enter Try.func10, Try.ntmps10
  go_wp2_with fail
  refine hc.mono ?_
  clear hc
  rintro e w1 ⟨hX1, v1, rfl, hO⟩
  have kc := conv_own hO
  have HX1 := Lib.hid hX1
  have st := works1
  obtain ⟨s1, hs1⟩ : ∃ s, Sb (num 300) = s := ⟨_, rfl⟩
  rw [show bytesOf (some (num 300)) = num 300 from rfl, hs1] at kc
  rw [hs1] at st
  obtain ⟨vA, vC, rfl, -⟩ := RdS.of_owns hO
  obtain ⟨w2, hw2⟩ : ∃ W, w1.alloc (.cells #[.int .i64 3] 3) = W := ⟨_, rfl⟩
  obtain ⟨N, hN⟩ : ∃ N, w1.heap.size = N := ⟨_, rfl⟩
  have E2 : Ext w1 w2 := by rw [← hw2]; exact (Ext.refl _).alloc _
  have hp : RdI w2 [3] (.slice (some ⟨N, 0, none⟩) 1 1) := by rw [← hw2, ← hN]; exact RdS.one (cs := #[.int .i64 3]) rfl
  obtain ⟨w3, hw3⟩ : ∃ W, w2.alloc (.cells #[.int .u8 2, .slice (some ⟨N, 0, none⟩) 1 1, .int .i64 0, .slice none 0 0, .int .u64 0, .bool false, .string ⟨#[]⟩, .string ⟨#[]⟩, .string ⟨#[]⟩, .bool false, .slice none 0 0] 66) = W := ⟨_, rfl⟩
  have s2 : w2.heap.size = N + 1 := by rw [← hw2, World.size_alloc, hN]
  have E3 : Ext w2 w3 := by rw [← hw3]; exact (Ext.refl _).alloc _
  have bx : NBox w3 (N + 1) 66 #[.int .u8 2, .slice (some ⟨N, 0, none⟩) 1 1, .int .i64 0, .slice none 0 0, .int .u64 0, .bool false, .string ⟨#[]⟩, .string ⟨#[]⟩, .string ⟨#[]⟩, .bool false, .slice none 0 0] := by rw [← hw3, ← s2]; exact NBox.new _ _ _
  have hrl : RdL w3 [op3] (.slice (some ⟨N + 1, 0, none⟩) 1 1) := ⟨_, 1, rfl, Nat.le_refl _, by decide, fun _ => ⟨N + 1, 0, rfl, ⟨_, _, _, bx.cell 0, bx.cell 1, bx.cell 2, bx.cell 3, bx.cell 4, bx.cell 5, bx.cell 6, bx.cell 7, bx.cell 8, bx.cell 9, bx.cell 10, ⟨_, _, _, rfl, RdS.ext E3 hp, RdS.nil_ _ _, ⟨none, 0, rfl, by decide, by decide, fun h => absurd h (by decide)⟩, Nat.zero_le _, Nat.zero_le _, Nat.zero_le _, by decide, by decide⟩⟩, trivial⟩⟩
  have hc := putList_any [op3] _ w3 hrl
  rw [works2] at hc
  have HW2 := Lib.hid hw2
  have HW3 := Lib.hid hw3
  have HN := Lib.hid hN
  have HE3 := Lib.hid (hX1.trans (E2.trans E3))
  clear hO hX1 hs1 hw2 hw3 hN E2 E3 bx hrl hp s2
  go_wp2_with fail
  rw [HW2.out, HN.out, HW3.out]
  clear HW2 HW3 HN
  refine hc.mono ?_
  clear hc kc st
  rintro e w4 ⟨hX4, v4, rfl, hO⟩
  have kc := conv_own hO
  have HE4 := Lib.hid (HE3.out.trans hX4)
  have st : (Sb (bytesOf (some [1, 2, 1, 3]))).toList = [1, 2, 1, 3] := Sb_toList _
  obtain ⟨s1, hs1⟩ : ∃ s, Sb (bytesOf (some [1, 2, 1, 3])) = s := ⟨_, rfl⟩
  rw [hs1] at kc st
  obtain ⟨vA, vC, rfl, -⟩ := RdS.of_owns hO
  have hc := putNode_any leaf5 (.agg #[.int .u64 5, .bool true, .string ⟨#[97]⟩, .slice none 0 0, .string ⟨#[120]⟩, .slice none 0 0]) w4 (by
    unfold leaf5 Nd.rd
    exact ⟨_, _, _, rfl, by decide, (show (1 : Nat) ≤ maxLen by decide), (show (1 : Nat) ≤ maxLen by decide), ⟨none, 0, rfl, by decide, by decide, fun h => absurd rfl h⟩, by decide, by decide, fun h => absurd rfl h⟩)
  rw [works3] at hc
  clear hO hX4 hs1
  go_wp2_with fail
  refine hc.mono ?_
  clear hc kc st
  rintro e w5 ⟨hX5, v5, rfl, hO⟩
  have kc := conv_own hO
  have HE5 := Lib.hid (HE4.out.trans hX5)
  have st : (Sb (bytesOf (some [5, 1, 1, 97, 0, 1, 120]))).toList = [5, 1, 1, 97, 0, 1, 120] := Sb_toList _
  obtain ⟨s1, hs1⟩ : ∃ s, Sb (bytesOf (some [5, 1, 1, 97, 0, 1, 120])) = s := ⟨_, rfl⟩
  rw [hs1] at kc st
  obtain ⟨vA, vC, rfl, -⟩ := RdS.of_owns hO
  clear hO hX5 hs1
  go_wp2_with fail
  go_ret
  exact ⟨rfl, HE5.out⟩
end Go.Proofs.Ytoplaokimahdiaa.Wi
namespace Go.Proofs.Ytoplaokimahdiaa.Wi
open Go.RowKit Go.Proofs.Ytoplaokimahdiaa.Bw Go.Proofs.Ytoplaokimahdiaa.Bs

/-- A reader: its box, and the bytes that it has yet: they stand in memory that was there before. -/
structure RS (w0 W : World) (B : Nat) (bs : List UInt8) : Prop where
  ext : Ext w0 W
  hB : w0.heap.size ≤ B
  box : ∃ rv, NBox W B 85 #[rv] ∧ RdS w0 1 bs.length (u8s bs) rv
def isB (B : Nat) : Nat → Prop := fun k => k = B
theorem RS.more {w0 W W' : World} {B : Nat} {bs : List UInt8} (h : RS w0 W B bs) (k : Ext W W') : RS w0 W' B bs := by
  obtain ⟨rv, hb, hr⟩ := h.box
  exact ⟨h.ext.trans k, h.hB, rv, hb.ext k, hr⟩
theorem RdS.len_le {w : World} {n : Nat} {xs : List Value} {v : Value} (h : RdS w 1 n xs v) : n ≤ maxLen := by
  obtain ⟨A, c, _, _, h1, h2, _⟩ := h
  omega
/-- What stands behind the first one. -/
theorem RdS.tail1 {w : World} {n : Nat} {x : Value} {xs : List Value} {b off c : Nat} (h : RdS w 1 (n + 1) (x :: xs) (.slice (some ⟨b, off, none⟩) (n + 1) c)) (A : Option Addr) (hA : A = if c = 1 then some ⟨b, off, none⟩ else some ⟨b, off + 1, none⟩) : RdS w 1 n xs (.slice A n (c - 1)) := by
  obtain ⟨A0, c0, he, hl, h1, h2, hc⟩ := h
  simp only [Value.slice.injEq, true_and] at he
  obtain ⟨rfl, rfl⟩ := he
  refine ⟨_, _, rfl, by simpa using hl, by omega, by omega, fun h0 => ?_⟩
  obtain ⟨b1, o1, e1, hcell⟩ := hc (by omega)
  simp only [Option.some.injEq, Addr.mk.injEq, and_true] at e1
  obtain ⟨rfl, rfl⟩ := e1
  rw [if_neg (by omega)] at hA
  refine ⟨b, off + 1, hA, fun j u hj => ?_⟩
  have := hcell (j + 1) u (by simpa using hj)
  rw [show off + 1 + j = off + (j + 1) by omega]
  exact this
set_option maxRecDepth 100000 in
theorem byte_no (w0 w : World) (B : Nat) (h : RS w0 w B []) : Calls Try.prog 80 #[.pointer (some ⟨B, 0, none⟩)] w fun e W' => e = .panicked WR ∧ w = W' := by
  obtain ⟨rv, hb, A, c, rfl, -⟩ := h.box
  have b0 := hb.cell 0
  have hw := want_no w
  clear hb h
  go_enter Try.func80, Try.ntmps80
  go_wp2_with fail
  refine hw.mono ?_
  rintro e w' ⟨rfl, rfl⟩
  go_wp2_with fail
  exact ⟨rfl, rfl, rfl⟩
set_option maxRecDepth 100000 in
set_option maxHeartbeats 1000000 in
theorem byte_yes (x : UInt8) (r : List UInt8) (w0 w : World) (B : Nat) (h : RS w0 w B (x :: r)) : Calls Try.prog 80 #[.pointer (some ⟨B, 0, none⟩)] w fun e W' => e = .returned (.int .u8 x.toNat) ∧ RS w0 W' B r ∧ Fr w W' (isB B) := by
  obtain ⟨rv, hb, hr⟩ := h.box
  have HR := Lib.hid hr
  obtain ⟨A, c, rfl, -, hc1, hc2, hcell⟩ := hr
  unfold maxLen at hc2
  simp only [List.length_cons] at hc1 hcell
  obtain ⟨b, off, rfl, cells⟩ := hcell (by omega)
  have z0 := h.ext.cell (cells 0 (.int .u8 x.toNat) rfl)
  rw [Nat.add_zero] at z0
  have b0 := hb.cell 0
  have b1 := hb.frozen 0
  have hw := want_yes w
  have HB := Lib.hid hb
  have HH := Lib.hid h
  have hcp : 1 ≤ c := by omega
  have hlen : (x :: r).length = r.length + 1 := rfl
  rw [hlen] at b0
  clear hb h hcell cells hlen
  go_enter Try.func80, Try.ntmps80
  go_wp2_with fail
  refine hw.mono ?_
  clear hw
  rintro e w' ⟨rfl, rfl⟩
  go_wp2_with fail
  · go_ret
    refine ⟨rfl, ⟨Fr.ext HH.out.ext (Fr.setCell _ _ _ _) (fun k hk => by rw [hk]; exact HH.out.hB), HH.out.hB, _, HB.out.set 0 _, ?_⟩, Fr.setCell _ _ _ _⟩
    have hc1' : c = 1 := by assumption
    have := RdS.tail1 (x := .int .u8 x.toNat) HR.out (some ⟨b, off, none⟩) (if_pos hc1').symm
    rw [hc1'] at this
    exact this
  · go_ret
    have hc1' : ¬ c = 1 := by assumption
    exact ⟨rfl, ⟨Fr.ext HH.out.ext (Fr.setCell _ _ _ _) (fun k hk => by rw [hk]; exact HH.out.hB), HH.out.hB, _, HB.out.set 0 _, RdS.tail1 (x := .int .u8 x.toNat) HR.out _ (if_neg hc1').symm⟩, Fr.setCell _ _ _ _⟩
end Go.Proofs.Ytoplaokimahdiaa.Wi
