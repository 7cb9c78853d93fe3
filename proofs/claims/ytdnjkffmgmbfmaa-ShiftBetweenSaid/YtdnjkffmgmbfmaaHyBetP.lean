/- Chapter 11: what takes a move back, the document's. -/
import Derived.Test.YtdnjkffmgmbfmaaBsUndo
import Derived.Test.YtdnjkffmgmbfmaaHyShiftB
import Derived.Test.YtdnjkffmgmbfmaaHyBsPcs2
namespace Go.Proofs.Ytdnjkffmgmbfmaa.Bs
open Go.RowKit Go.Proofs.Ytdnjkffmgmbfmaa.Bw




end Go.Proofs.Ytdnjkffmgmbfmaa.Bs
namespace Go.Proofs.Ytdnjkffmgmbfmaa.Bs
open Go.RowKit Go.Proofs.Ytdnjkffmgmbfmaa.Bw

def opI : OpD := { kind := 1, path := [0], at_ := 1, «to» := [], id := 0, leaf := false, label := ⟨#[]⟩, key := ⟨#[]⟩, value := ⟨#[]⟩, gone := false, pcs := [] }
def opD : OpD := { kind := 2, path := [0, 1], at_ := 0, «to» := [], id := 0, leaf := false, label := ⟨#[]⟩, key := ⟨#[]⟩, value := ⟨#[]⟩, gone := false, pcs := [] }
def opM : OpD := { kind := 3, path := [0, 1], at_ := 0, «to» := [2], id := 0, leaf := false, label := ⟨#[]⟩, key := ⟨#[]⟩, value := ⟨#[]⟩, gone := false, pcs := [] }
def opN : OpD := { kind := 3, path := [0], at_ := 1, «to» := [2], id := 0, leaf := false, label := ⟨#[]⟩, key := ⟨#[]⟩, value := ⟨#[]⟩, gone := false, pcs := [] }
theorem pI1 : opI.sh.node [0, 1, 5] = some [0, 2, 5] := by kernel_rfl
theorem pI2 : opI.sh.node [0] = some [0] := by kernel_rfl
theorem gI1 : opI.sh.gapAt [0] 1 true = 1 := by kernel_rfl
theorem gI2 : opI.sh.gapAt [0] 1 false = 2 := by kernel_rfl
theorem mI : opI.sh.moves = true := by kernel_rfl
theorem pD1 : opD.sh.node [0, 2] = some [0, 1] := by kernel_rfl
theorem pD2 : opD.sh.node [0, 1, 3] = none := by kernel_rfl
theorem pD3 : opD.sh.node [0] = some [0] := by kernel_rfl
theorem gD : opD.sh.gapAt [0] 2 true = 1 := by kernel_rfl
theorem mD : opD.sh.moves = true := by kernel_rfl
theorem pM1 : opM.sh.node [0, 1, 4] = some [2, 0, 4] := by kernel_rfl
theorem pM2 : opM.sh.node [2, 0] = some [2, 1] := by kernel_rfl
theorem mM : opM.sh.moves = true := by kernel_rfl
theorem pN : opN.sh.node [0] = some [1, 1] := by kernel_rfl
theorem RdS.lits (W : World) (ty : TypeId) (l : List Int) (hl : l.length ≤ 1000) (cs : Array Value) (hcs : cs = (l.map (Value.int .i64)).toArray) :
  RdS (W.alloc (.cells cs ty)) 1 l.length (l.map (Value.int .i64)) (.slice (some ⟨W.heap.size, 0, none⟩) l.length l.length) := by
 subst hcs
 refine ⟨_, _, rfl, by simp, Nat.le_refl _, by simp [maxLen]; omega, fun _ => ⟨_, 0, rfl, fun j u hu => ?_⟩⟩
 have hb := World.alloc_heap_new W (.cells (l.map (Value.int .i64)).toArray ty)
 rw [Nat.zero_add]
 simp only [World.cell?, hb]
 simpa using hu
theorem size_one (w : World) (o : Obj) : (w.alloc o).heap.size = w.heap.size + 1 := by show (w.heap.push o).size = _; simp
theorem field_kind (a0 a1 a2 a3 a4 a5 a6 a7 a8 a9 a10 : Value) (w : World) : (Instr.field 26 (.agg #[a0, a1, a2, a3, a4, a5, a6, a7, a8, a9, a10]) 0).run Try.prog w = .ok a0 w := by kernel_rfl
theorem nilP (w : World) : RdP w [] (.slice none 0 0) := ⟨none, 0, rfl, Nat.le_refl _, by simp [maxLen], fun h => absurd h (by simp)⟩

set_option maxRecDepth 100000 in
set_option maxHeartbeats 8000000 in
theorem works_any (w : World) : Calls Try.prog 9 #[] w (Ret w fun r _ => r = .bool true) := by
 obtain ⟨a0, h0⟩ : ∃ a, w.alloc (.cells #[.int .i64 0] 3) = a := ⟨_, rfl⟩
 have hs0 : a0.heap.size = w.heap.size + 1 := by rw [← h0, size_one]
 have e0 : Ext w a0 := by rw [← h0]; exact (Ext.refl _).alloc _
 obtain ⟨a1, h1⟩ : ∃ a, a0.alloc (.cells #[.int .u8 1, .slice (some ⟨w.heap.size, 0, none⟩) 1 1, .int .i64 1, .slice none 0 0, .int .u64 0, .bool false, .string ⟨#[]⟩, .string ⟨#[]⟩, .string ⟨#[]⟩, .bool false, .slice none 0 0] 26) = a := ⟨_, rfl⟩
 have hs1 : a1.heap.size = w.heap.size + 1 + 1 := by rw [← h1, size_one, hs0]
 have e1 : Ext a0 a1 := by rw [← h1]; exact (Ext.refl _).alloc _
 obtain ⟨a2, h2⟩ : ∃ a, a1.alloc (.cells #[.int .i64 0, .int .i64 1] 3) = a := ⟨_, rfl⟩
 have hs2 : a2.heap.size = w.heap.size + 1 + 1 + 1 := by rw [← h2, size_one, hs1]
 have e2 : Ext a1 a2 := by rw [← h2]; exact (Ext.refl _).alloc _
 obtain ⟨a3, h3⟩ : ∃ a, a2.alloc (.cells #[.int .u8 2, .slice (some ⟨w.heap.size + 1 + 1, 0, none⟩) 2 2, .int .i64 0, .slice none 0 0, .int .u64 0, .bool false, .string ⟨#[]⟩, .string ⟨#[]⟩, .string ⟨#[]⟩, .bool false, .slice none 0 0] 26) = a := ⟨_, rfl⟩
 have hs3 : a3.heap.size = w.heap.size + 1 + 1 + 1 + 1 := by rw [← h3, size_one, hs2]
 have e3 : Ext a2 a3 := by rw [← h3]; exact (Ext.refl _).alloc _
 obtain ⟨a4, h4⟩ : ∃ a, a3.alloc (.cells #[.int .i64 0, .int .i64 1] 3) = a := ⟨_, rfl⟩
 have hs4 : a4.heap.size = w.heap.size + 1 + 1 + 1 + 1 + 1 := by rw [← h4, size_one, hs3]
 have e4 : Ext a3 a4 := by rw [← h4]; exact (Ext.refl _).alloc _
 obtain ⟨a5, h5⟩ : ∃ a, a4.alloc (.cells #[.int .i64 2] 3) = a := ⟨_, rfl⟩
 have hs5 : a5.heap.size = w.heap.size + 1 + 1 + 1 + 1 + 1 + 1 := by rw [← h5, size_one, hs4]
 have e5 : Ext a4 a5 := by rw [← h5]; exact (Ext.refl _).alloc _
 obtain ⟨a6, h6⟩ : ∃ a, a5.alloc (.cells #[.int .u8 3, .slice (some ⟨w.heap.size + 1 + 1 + 1 + 1, 0, none⟩) 2 2, .int .i64 0, .slice (some ⟨w.heap.size + 1 + 1 + 1 + 1 + 1, 0, none⟩) 1 1, .int .u64 0, .bool false, .string ⟨#[]⟩, .string ⟨#[]⟩, .string ⟨#[]⟩, .bool false, .slice none 0 0] 26) = a := ⟨_, rfl⟩
 have hs6 : a6.heap.size = w.heap.size + 1 + 1 + 1 + 1 + 1 + 1 + 1 := by rw [← h6, size_one, hs5]
 have e6 : Ext a5 a6 := by rw [← h6]; exact (Ext.refl _).alloc _
 have l0 : RdI a0 [0] (.slice (some ⟨w.heap.size, 0, none⟩) 1 1) := by have h := RdS.lits w 3 [0] (by simp) #[.int .i64 0] rfl; rw [h0] at h; exact h
 have l2 : RdI a2 [0, 1] (.slice (some ⟨w.heap.size + 1 + 1, 0, none⟩) 2 2) := by have h := RdS.lits a1 3 [0, 1] (by simp) #[.int .i64 0, .int .i64 1] rfl; rw [h2] at h; rw [hs1] at h; exact h
 have l4 : RdI a4 [0, 1] (.slice (some ⟨w.heap.size + 1 + 1 + 1 + 1, 0, none⟩) 2 2) := by have h := RdS.lits a3 3 [0, 1] (by simp) #[.int .i64 0, .int .i64 1] rfl; rw [h4] at h; rw [hs3] at h; exact h
 have l5 : RdI a5 [2] (.slice (some ⟨w.heap.size + 1 + 1 + 1 + 1 + 1, 0, none⟩) 1 1) := by have h := RdS.lits a4 3 [2] (by simp) #[.int .i64 2] rfl; rw [h5] at h; rw [hs4] at h; exact h
 have nI : NBox a6 (w.heap.size + 1) 26 #[.int .u8 1, .slice (some ⟨w.heap.size, 0, none⟩) 1 1, .int .i64 1, .slice none 0 0, .int .u64 0, .bool false, .string ⟨#[]⟩, .string ⟨#[]⟩, .string ⟨#[]⟩, .bool false, .slice none 0 0] := by have h := NBox.new a0 26 #[.int .u8 1, .slice (some ⟨w.heap.size, 0, none⟩) 1 1, .int .i64 1, .slice none 0 0, .int .u64 0, .bool false, .string ⟨#[]⟩, .string ⟨#[]⟩, .string ⟨#[]⟩, .bool false, .slice none 0 0]; rw [h1, hs0] at h; exact NBox.ext ((((e2.trans e3).trans e4).trans e5).trans e6) h
 have rI : opI.rd a6 (.agg #[.int .u8 1, .slice (some ⟨w.heap.size, 0, none⟩) 1 1, .int .i64 1, .slice none 0 0, .int .u64 0, .bool false, .string ⟨#[]⟩, .string ⟨#[]⟩, .string ⟨#[]⟩, .bool false, .slice none 0 0]) := ⟨_, _, _, rfl, RdS.ext (((((e1.trans e2).trans e3).trans e4).trans e5).trans e6) l0, RdS.nil_ _ _, nilP _, Nat.zero_le _, Nat.zero_le _, Nat.zero_le _⟩
 have nD : NBox a6 (w.heap.size + 1 + 1 + 1) 26 #[.int .u8 2, .slice (some ⟨w.heap.size + 1 + 1, 0, none⟩) 2 2, .int .i64 0, .slice none 0 0, .int .u64 0, .bool false, .string ⟨#[]⟩, .string ⟨#[]⟩, .string ⟨#[]⟩, .bool false, .slice none 0 0] := by have h := NBox.new a2 26 #[.int .u8 2, .slice (some ⟨w.heap.size + 1 + 1, 0, none⟩) 2 2, .int .i64 0, .slice none 0 0, .int .u64 0, .bool false, .string ⟨#[]⟩, .string ⟨#[]⟩, .string ⟨#[]⟩, .bool false, .slice none 0 0]; rw [h3, hs2] at h; exact NBox.ext ((e4.trans e5).trans e6) h
 have rD : opD.rd a6 (.agg #[.int .u8 2, .slice (some ⟨w.heap.size + 1 + 1, 0, none⟩) 2 2, .int .i64 0, .slice none 0 0, .int .u64 0, .bool false, .string ⟨#[]⟩, .string ⟨#[]⟩, .string ⟨#[]⟩, .bool false, .slice none 0 0]) := ⟨_, _, _, rfl, RdS.ext (((e3.trans e4).trans e5).trans e6) l2, RdS.nil_ _ _, nilP _, Nat.zero_le _, Nat.zero_le _, Nat.zero_le _⟩
 have nM : NBox a6 (w.heap.size + 1 + 1 + 1 + 1 + 1 + 1) 26 #[.int .u8 3, .slice (some ⟨w.heap.size + 1 + 1 + 1 + 1, 0, none⟩) 2 2, .int .i64 0, .slice (some ⟨w.heap.size + 1 + 1 + 1 + 1 + 1, 0, none⟩) 1 1, .int .u64 0, .bool false, .string ⟨#[]⟩, .string ⟨#[]⟩, .string ⟨#[]⟩, .bool false, .slice none 0 0] := by have h := NBox.new a5 26 #[.int .u8 3, .slice (some ⟨w.heap.size + 1 + 1 + 1 + 1, 0, none⟩) 2 2, .int .i64 0, .slice (some ⟨w.heap.size + 1 + 1 + 1 + 1 + 1, 0, none⟩) 1 1, .int .u64 0, .bool false, .string ⟨#[]⟩, .string ⟨#[]⟩, .string ⟨#[]⟩, .bool false, .slice none 0 0]; rw [h6, hs5] at h; exact h
 have rM : opM.rd a6 (.agg #[.int .u8 3, .slice (some ⟨w.heap.size + 1 + 1 + 1 + 1, 0, none⟩) 2 2, .int .i64 0, .slice (some ⟨w.heap.size + 1 + 1 + 1 + 1 + 1, 0, none⟩) 1 1, .int .u64 0, .bool false, .string ⟨#[]⟩, .string ⟨#[]⟩, .string ⟨#[]⟩, .bool false, .slice none 0 0]) := ⟨_, _, _, rfl, RdS.ext (e5.trans e6) l4, RdS.ext e6 l5, nilP _, Nat.zero_le _, Nat.zero_le _, Nat.zero_le _⟩
 have hw6 : ((((((w.alloc (.cells #[.int .i64 0] 3)).alloc (.cells #[.int .u8 1, .slice (some ⟨w.heap.size, 0, none⟩) 1 1, .int .i64 1, .slice none 0 0, .int .u64 0, .bool false, .string ⟨#[]⟩, .string ⟨#[]⟩, .string ⟨#[]⟩, .bool false, .slice none 0 0] 26)).alloc (.cells #[.int .i64 0, .int .i64 1] 3)).alloc (.cells #[.int .u8 2, .slice (some ⟨w.heap.size + 1 + 1, 0, none⟩) 2 2, .int .i64 0, .slice none 0 0, .int .u64 0, .bool false, .string ⟨#[]⟩, .string ⟨#[]⟩, .string ⟨#[]⟩, .bool false, .slice none 0 0] 26)).alloc (.cells #[.int .i64 0, .int .i64 1] 3)).alloc (.cells #[.int .i64 2] 3)).alloc (.cells #[.int .u8 3, .slice (some ⟨w.heap.size + 1 + 1 + 1 + 1, 0, none⟩) 2 2, .int .i64 0, .slice (some ⟨w.heap.size + 1 + 1 + 1 + 1 + 1, 0, none⟩) 1 1, .int .u64 0, .bool false, .string ⟨#[]⟩, .string ⟨#[]⟩, .string ⟨#[]⟩, .bool false, .slice none 0 0] 26) = a6 := by rw [h0, h1, h2, h3, h4, h5, h6]
 have hEw : Ext w a6 := e0.trans (((((e1.trans e2).trans e3).trans e4).trans e5).trans e6)
 have H6 := Lib.hid hw6
 clear h0 h1 h2 h3 h4 h5 h6 hw6 l0 l2 l4 l5 hs0 hs1 hs2 hs3 hs4 hs5 e0 e1 e2 e3 e4 e5 e6
 go_enter Try.func9, Try.ntmps9
 have hc := node_any opI _ _ [0, 1, 5] (a6.alloc (.cells #[.int .i64 0, .int .i64 1, .int .i64 5] 3)) (OpD.rd_ext ((Ext.refl a6).alloc _) rI) (RdS.lits a6 3 [0, 1, 5] (by simp) _ rfl) (by decide) (by decide) (by decide)
 simp only [RdN, pI1] at hc
 rw [hs6] at hc
 go_wp2_with fail
 rw [H6.out]
 refine hc.mono ?_
 clear hc H6
 rintro e u0x ⟨r, rfl, ⟨r', rfl, ho⟩, hE⟩
 have R0 := RdS.of_owns ho
 obtain ⟨A0, c0, rfl, _⟩ := RdS.of_owns ho
 clear ho
 have D0 : Ext a6 u0x := ((Ext.refl a6).alloc _).trans hE
 have E0 : Ext a6 u0x := (Ext.refl a6).trans D0
 clear hE
 have x0 := (NBox.ext E0 nI).cell 0
 have x1 := (NBox.ext E0 nI).cell 1
 have x2 := (NBox.ext E0 nI).cell 2
 have x3 := (NBox.ext E0 nI).cell 3
 have x4 := (NBox.ext E0 nI).cell 4
 have x5 := (NBox.ext E0 nI).cell 5
 have x6 := (NBox.ext E0 nI).cell 6
 have x7 := (NBox.ext E0 nI).cell 7
 have x8 := (NBox.ext E0 nI).cell 8
 have x9 := (NBox.ext E0 nI).cell 9
 have x10 := (NBox.ext E0 nI).cell 10
 have hc := gap_any opI _ _ [0] 1 true (u0x.alloc (.cells #[.int .i64 0] 3)) (OpD.rd_ext (E0.alloc _) rI) (RdS.lits u0x 3 [0] (by simp) _ rfl) (by decide) (by decide) (by decide)
 simp only [RdG, pI2, gI1, mI, if_true] at hc
 go_wp2_with fail
 refine hc.mono ?_
 clear hc x0 x1 x2 x3 x4 x5 x6 x7 x8 x9 x10
 rintro e u1x ⟨r, rfl, ⟨r', rfl, ho⟩, hE⟩
 have R1 := RdS.of_owns ho
 obtain ⟨A1, c1, rfl, _⟩ := RdS.of_owns ho
 clear ho
 have D1 : Ext u0x u1x := ((Ext.refl u0x).alloc _).trans hE
 have E1 : Ext a6 u1x := E0.trans D1
 clear hE
 replace R0 := RdS.ext D1 R0
 clear R1
 have x0 := (NBox.ext E1 nI).cell 0
 have x1 := (NBox.ext E1 nI).cell 1
 have x2 := (NBox.ext E1 nI).cell 2
 have x3 := (NBox.ext E1 nI).cell 3
 have x4 := (NBox.ext E1 nI).cell 4
 have x5 := (NBox.ext E1 nI).cell 5
 have x6 := (NBox.ext E1 nI).cell 6
 have x7 := (NBox.ext E1 nI).cell 7
 have x8 := (NBox.ext E1 nI).cell 8
 have x9 := (NBox.ext E1 nI).cell 9
 have x10 := (NBox.ext E1 nI).cell 10
 have hc := gap_any opI _ _ [0] 1 false (u1x.alloc (.cells #[.int .i64 0] 3)) (OpD.rd_ext (E1.alloc _) rI) (RdS.lits u1x 3 [0] (by simp) _ rfl) (by decide) (by decide) (by decide)
 simp only [RdG, pI2, gI2, mI, if_true] at hc
 go_wp2_with fail
 refine hc.mono ?_
 clear hc x0 x1 x2 x3 x4 x5 x6 x7 x8 x9 x10
 rintro e u2x ⟨r, rfl, ⟨r', rfl, ho⟩, hE⟩
 have R2 := RdS.of_owns ho
 obtain ⟨A2, c2, rfl, _⟩ := RdS.of_owns ho
 clear ho
 have D2 : Ext u1x u2x := ((Ext.refl u1x).alloc _).trans hE
 have E2 : Ext a6 u2x := E1.trans D2
 clear hE
 replace R0 := RdS.ext D2 R0
 clear R2
 have x0 := (NBox.ext E2 nD).cell 0
 have x1 := (NBox.ext E2 nD).cell 1
 have x2 := (NBox.ext E2 nD).cell 2
 have x3 := (NBox.ext E2 nD).cell 3
 have x4 := (NBox.ext E2 nD).cell 4
 have x5 := (NBox.ext E2 nD).cell 5
 have x6 := (NBox.ext E2 nD).cell 6
 have x7 := (NBox.ext E2 nD).cell 7
 have x8 := (NBox.ext E2 nD).cell 8
 have x9 := (NBox.ext E2 nD).cell 9
 have x10 := (NBox.ext E2 nD).cell 10
 have hc := node_any opD _ _ [0, 2] (u2x.alloc (.cells #[.int .i64 0, .int .i64 2] 3)) (OpD.rd_ext (E2.alloc _) rD) (RdS.lits u2x 3 [0, 2] (by simp) _ rfl) (by decide) (by decide) (by decide)
 simp only [RdN, pD1] at hc
 go_wp2_with fail
 refine hc.mono ?_
 clear hc x0 x1 x2 x3 x4 x5 x6 x7 x8 x9 x10
 rintro e u3x ⟨r, rfl, ⟨r', rfl, ho⟩, hE⟩
 have R3 := RdS.of_owns ho
 obtain ⟨A3, c3, rfl, _⟩ := RdS.of_owns ho
 clear ho
 have D3 : Ext u2x u3x := ((Ext.refl u2x).alloc _).trans hE
 have E3 : Ext a6 u3x := E2.trans D3
 clear hE
 replace R0 := RdS.ext D3 R0
 have x0 := (NBox.ext E3 nD).cell 0
 have x1 := (NBox.ext E3 nD).cell 1
 have x2 := (NBox.ext E3 nD).cell 2
 have x3 := (NBox.ext E3 nD).cell 3
 have x4 := (NBox.ext E3 nD).cell 4
 have x5 := (NBox.ext E3 nD).cell 5
 have x6 := (NBox.ext E3 nD).cell 6
 have x7 := (NBox.ext E3 nD).cell 7
 have x8 := (NBox.ext E3 nD).cell 8
 have x9 := (NBox.ext E3 nD).cell 9
 have x10 := (NBox.ext E3 nD).cell 10
 have hc := node_any opD _ _ [0, 1, 3] (u3x.alloc (.cells #[.int .i64 0, .int .i64 1, .int .i64 3] 3)) (OpD.rd_ext (E3.alloc _) rD) (RdS.lits u3x 3 [0, 1, 3] (by simp) _ rfl) (by decide) (by decide) (by decide)
 simp only [RdN, pD2] at hc
 go_wp2_with fail
 refine hc.mono ?_
 clear hc x0 x1 x2 x3 x4 x5 x6 x7 x8 x9 x10
 rintro e u4x ⟨r, rfl, rfl, hE⟩
 have D4 : Ext u3x u4x := ((Ext.refl u3x).alloc _).trans hE
 have E4 : Ext a6 u4x := E3.trans D4
 clear hE
 replace R0 := RdS.ext D4 R0
 replace R3 := RdS.ext D4 R3
 have x0 := (NBox.ext E4 nD).cell 0
 have x1 := (NBox.ext E4 nD).cell 1
 have x2 := (NBox.ext E4 nD).cell 2
 have x3 := (NBox.ext E4 nD).cell 3
 have x4 := (NBox.ext E4 nD).cell 4
 have x5 := (NBox.ext E4 nD).cell 5
 have x6 := (NBox.ext E4 nD).cell 6
 have x7 := (NBox.ext E4 nD).cell 7
 have x8 := (NBox.ext E4 nD).cell 8
 have x9 := (NBox.ext E4 nD).cell 9
 have x10 := (NBox.ext E4 nD).cell 10
 have hc := gap_any opD _ _ [0] 2 true (u4x.alloc (.cells #[.int .i64 0] 3)) (OpD.rd_ext (E4.alloc _) rD) (RdS.lits u4x 3 [0] (by simp) _ rfl) (by decide) (by decide) (by decide)
 simp only [RdG, pD3, gD, mD, if_true] at hc
 go_wp2_with fail
 refine hc.mono ?_
 clear hc x0 x1 x2 x3 x4 x5 x6 x7 x8 x9 x10
 rintro e u5x ⟨r, rfl, ⟨r', rfl, ho⟩, hE⟩
 have R5 := RdS.of_owns ho
 obtain ⟨A5, c5, rfl, _⟩ := RdS.of_owns ho
 clear ho
 have D5 : Ext u4x u5x := ((Ext.refl u4x).alloc _).trans hE
 have E5 : Ext a6 u5x := E4.trans D5
 clear hE
 replace R0 := RdS.ext D5 R0
 replace R3 := RdS.ext D5 R3
 clear R5
 have x0 := (NBox.ext E5 nM).cell 0
 have x1 := (NBox.ext E5 nM).cell 1
 have x2 := (NBox.ext E5 nM).cell 2
 have x3 := (NBox.ext E5 nM).cell 3
 have x4 := (NBox.ext E5 nM).cell 4
 have x5 := (NBox.ext E5 nM).cell 5
 have x6 := (NBox.ext E5 nM).cell 6
 have x7 := (NBox.ext E5 nM).cell 7
 have x8 := (NBox.ext E5 nM).cell 8
 have x9 := (NBox.ext E5 nM).cell 9
 have x10 := (NBox.ext E5 nM).cell 10
 have hc := node_any opM _ _ [0, 1, 4] (u5x.alloc (.cells #[.int .i64 0, .int .i64 1, .int .i64 4] 3)) (OpD.rd_ext (E5.alloc _) rM) (RdS.lits u5x 3 [0, 1, 4] (by simp) _ rfl) (by decide) (by decide) (by decide)
 simp only [RdN, pM1] at hc
 go_wp2_with fail
 refine hc.mono ?_
 clear hc x0 x1 x2 x3 x4 x5 x6 x7 x8 x9 x10
 rintro e u6x ⟨r, rfl, ⟨r', rfl, ho⟩, hE⟩
 have R6 := RdS.of_owns ho
 obtain ⟨A6, c6, rfl, _⟩ := RdS.of_owns ho
 clear ho
 have D6 : Ext u5x u6x := ((Ext.refl u5x).alloc _).trans hE
 have E6 : Ext a6 u6x := E5.trans D6
 clear hE
 replace R0 := RdS.ext D6 R0
 replace R3 := RdS.ext D6 R3
 have x0 := (NBox.ext E6 nM).cell 0
 have x1 := (NBox.ext E6 nM).cell 1
 have x2 := (NBox.ext E6 nM).cell 2
 have x3 := (NBox.ext E6 nM).cell 3
 have x4 := (NBox.ext E6 nM).cell 4
 have x5 := (NBox.ext E6 nM).cell 5
 have x6 := (NBox.ext E6 nM).cell 6
 have x7 := (NBox.ext E6 nM).cell 7
 have x8 := (NBox.ext E6 nM).cell 8
 have x9 := (NBox.ext E6 nM).cell 9
 have x10 := (NBox.ext E6 nM).cell 10
 have hc := node_any opM _ _ [2, 0] (u6x.alloc (.cells #[.int .i64 2, .int .i64 0] 3)) (OpD.rd_ext (E6.alloc _) rM) (RdS.lits u6x 3 [2, 0] (by simp) _ rfl) (by decide) (by decide) (by decide)
 simp only [RdN, pM2] at hc
 go_wp2_with fail
 refine hc.mono ?_
 clear hc x0 x1 x2 x3 x4 x5 x6 x7 x8 x9 x10
 rintro e u7x ⟨r, rfl, ⟨r', rfl, ho⟩, hE⟩
 have R7 := RdS.of_owns ho
 obtain ⟨A7, c7, rfl, _⟩ := RdS.of_owns ho
 clear ho
 have D7 : Ext u6x u7x := ((Ext.refl u6x).alloc _).trans hE
 have E7 : Ext a6 u7x := E6.trans D7
 clear hE
 replace R0 := RdS.ext D7 R0
 replace R3 := RdS.ext D7 R3
 replace R6 := RdS.ext D7 R6
 have z1 := size_one u7x (.cells #[.int .i64 0] 3)
 have z2 : ((u7x.alloc (.cells #[.int .i64 0] 3)).alloc (.cells #[.int .i64 2] 3)).heap.size = u7x.heap.size + 1 + 1 := by rw [size_one, z1]
 have y1 := RdS.lits u7x 3 [0] (by simp) _ rfl
 have y2 := RdS.lits (u7x.alloc (.cells #[.int .i64 0] 3)) 3 [2] (by simp) _ rfl
 have y3 := RdS.lits ((u7x.alloc (.cells #[.int .i64 0] 3)).alloc (.cells #[.int .i64 2] 3)) 3 [0] (by simp) _ rfl
 rw [z1] at y2
 rw [z2] at y3
 have rN : opN.rd (((u7x.alloc (.cells #[.int .i64 0] 3)).alloc (.cells #[.int .i64 2] 3)).alloc (.cells #[.int .i64 0] 3)) (.agg #[.int .u8 3, .slice (some ⟨u7x.heap.size, 0, none⟩) 1 1, .int .i64 1, .slice (some ⟨u7x.heap.size + 1, 0, none⟩) 1 1, .int .u64 0, .bool false, .string ⟨#[]⟩, .string ⟨#[]⟩, .string ⟨#[]⟩, .bool false, .slice none 0 0]) := ⟨_, _, _, rfl, RdS.ext (((Ext.refl _).alloc _).alloc _) y1, RdS.ext ((Ext.refl _).alloc _) y2, nilP _, Nat.zero_le _, Nat.zero_le _, Nat.zero_le _⟩
 have hc := node_any opN _ _ [0] _ rN y3 (by decide) (by decide) (by decide)
 simp only [RdN, pN] at hc
 clear y1 y2 y3 rN z1 z2
 go_wp2_with fail
 refine hc.mono ?_
 clear hc
 rintro e u8x ⟨r, rfl, ⟨r', rfl, ho⟩, hE⟩
 have R8 := RdS.of_owns ho
 obtain ⟨A8, c8, rfl, _⟩ := RdS.of_owns ho
 clear ho
 have D8 : Ext u7x u8x := ((((Ext.refl u7x).alloc _).alloc _).alloc _).trans hE
 have E8 : Ext a6 u8x := E7.trans D8
 clear hE
 replace R0 := RdS.ext D8 R0
 replace R3 := RdS.ext D8 R3
 replace R6 := RdS.ext D8 R6
 replace R7 := RdS.ext D8 R7
 have hc := sameInts_any [0, 2, 5] [0, 2, 5] _ _ (u8x.alloc (.cells #[.int .i64 0, .int .i64 2, .int .i64 5] 3)) (RdS.ext ((Ext.refl _).alloc _) R0) (RdS.lits u8x 3 [0, 2, 5] (by simp) _ rfl)
 rw [show decide (([0, 2, 5] : List Int) = [0, 2, 5]) = true from rfl] at hc
 go_wp2_with fail
 refine hc.mono ?_
 clear hc R0
 rintro e u20x ⟨r, rfl, rfl, hE⟩
 have D20 : Ext u8x u20x := ((Ext.refl u8x).alloc _).trans hE
 have E20 : Ext a6 u20x := E8.trans D20
 clear hE
 replace R3 := RdS.ext D20 R3
 replace R6 := RdS.ext D20 R6
 replace R7 := RdS.ext D20 R7
 replace R8 := RdS.ext D20 R8
 have hc := sameInts_any [0, 1] [0, 1] _ _ (u20x.alloc (.cells #[.int .i64 0, .int .i64 1] 3)) (RdS.ext ((Ext.refl _).alloc _) R3) (RdS.lits u20x 3 [0, 1] (by simp) _ rfl)
 rw [show decide (([0, 1] : List Int) = [0, 1]) = true from rfl] at hc
 go_wp2_with fail
 refine hc.mono ?_
 clear hc R3
 rintro e u21x ⟨r, rfl, rfl, hE⟩
 have D21 : Ext u20x u21x := ((Ext.refl u20x).alloc _).trans hE
 have E21 : Ext a6 u21x := E20.trans D21
 clear hE
 replace R6 := RdS.ext D21 R6
 replace R7 := RdS.ext D21 R7
 replace R8 := RdS.ext D21 R8
 have hc := sameInts_any [2, 0, 4] [2, 0, 4] _ _ (u21x.alloc (.cells #[.int .i64 2, .int .i64 0, .int .i64 4] 3)) (RdS.ext ((Ext.refl _).alloc _) R6) (RdS.lits u21x 3 [2, 0, 4] (by simp) _ rfl)
 rw [show decide (([2, 0, 4] : List Int) = [2, 0, 4]) = true from rfl] at hc
 go_wp2_with fail
 refine hc.mono ?_
 clear hc R6
 rintro e u22x ⟨r, rfl, rfl, hE⟩
 have D22 : Ext u21x u22x := ((Ext.refl u21x).alloc _).trans hE
 have E22 : Ext a6 u22x := E21.trans D22
 clear hE
 replace R7 := RdS.ext D22 R7
 replace R8 := RdS.ext D22 R8
 have hc := sameInts_any [2, 1] [2, 1] _ _ (u22x.alloc (.cells #[.int .i64 2, .int .i64 1] 3)) (RdS.ext ((Ext.refl _).alloc _) R7) (RdS.lits u22x 3 [2, 1] (by simp) _ rfl)
 rw [show decide (([2, 1] : List Int) = [2, 1]) = true from rfl] at hc
 go_wp2_with fail
 refine hc.mono ?_
 clear hc R7
 rintro e u23x ⟨r, rfl, rfl, hE⟩
 have D23 : Ext u22x u23x := ((Ext.refl u22x).alloc _).trans hE
 have E23 : Ext a6 u23x := E22.trans D23
 clear hE
 replace R8 := RdS.ext D23 R8
 have hc := sameInts_any [1, 1] [1, 1] _ _ (u23x.alloc (.cells #[.int .i64 1, .int .i64 1] 3)) (RdS.ext ((Ext.refl _).alloc _) R8) (RdS.lits u23x 3 [1, 1] (by simp) _ rfl)
 rw [show decide (([1, 1] : List Int) = [1, 1]) = true from rfl] at hc
 go_wp2_with fail
 refine hc.mono ?_
 clear hc R8
 rintro e u24x ⟨r, rfl, rfl, hE⟩
 have D24 : Ext u23x u24x := ((Ext.refl u23x).alloc _).trans hE
 have E24 : Ext a6 u24x := E23.trans D24
 clear hE
 have x0 := (NBox.ext E24 nM).cell 0
 have x1 := (NBox.ext E24 nM).cell 1
 have x2 := (NBox.ext E24 nM).cell 2
 have x3 := (NBox.ext E24 nM).cell 3
 have x4 := (NBox.ext E24 nM).cell 4
 have x5 := (NBox.ext E24 nM).cell 5
 have x6 := (NBox.ext E24 nM).cell 6
 have x7 := (NBox.ext E24 nM).cell 7
 have x8 := (NBox.ext E24 nM).cell 8
 have x9 := (NBox.ext E24 nM).cell 9
 have x10 := (NBox.ext E24 nM).cell 10
 have hc := undo_any opM _ u24x (OpD.rd_ext E24 rM) (by decide) (by decide)
 have hU : ∀ w' r, RdU w' opM.sh r = _ := fun w' r => if_pos ⟨rfl, mM⟩
 simp only [hU] at hc
 go_wp2_with fail
 refine hc.mono ?_
 clear hc hU
 rintro e uz ⟨r, rfl, ⟨nA, nc, tA, tc, rfl, _, _⟩, hE⟩
 have hfd := field_kind
 go_wp2_with fail
 go_ret
 exact ret_bool (by rfl) (hEw.trans (E24.trans hE))
end Go.Proofs.Ytdnjkffmgmbfmaa.Bs
namespace Go.Proofs.Ytdnjkffmgmbfmaa.Bs
open Go.RowKit Go.Proofs.Ytdnjkffmgmbfmaa.Bw

theorem RdN.to {B : Nat} {w : World} {x : Option (List Int)} {r : Value} (h : RdN B w x r) : ∃ (A : Option Addr) (c : Nat), r = .tuple #[.slice A (x.getD []).length c, .bool x.isSome] ∧ w.ownsRow B 3 1 (.slice A (x.getD []).length c) (x.getD []).length ((x.getD []).map (Value.int .i64)) := by
 cases x with
 | none => exact ⟨none, 0, h, ⟨rfl, .inl ⟨rfl, rfl⟩⟩⟩
 | some q =>
  obtain ⟨r', rfl, ho⟩ := h
  obtain ⟨A, c, rfl, _⟩ := RdS.of_owns ho
  exact ⟨A, c, rfl, ho⟩
def Sh.gapV (o : Sh) (p : List Int) (at_ : Int) (first : Bool) : Int := match o.node p with | some _ => (if o.moves then o.gapAt p at_ first else at_) | none => 0
theorem RdG.to {B : Nat} {w : World} {o : Sh} {p : List Int} {at_ : Int} {first : Bool} {r : Value} (h : RdG B w o p at_ first r) : ∃ (A : Option Addr) (c : Nat), r = .tuple #[.slice A ((o.node p).getD []).length c, .int .i64 (o.gapV p at_ first), .bool (o.node p).isSome] ∧ RdI w ((o.node p).getD []) (.slice A ((o.node p).getD []).length c) := by
 unfold RdG at h
 unfold Sh.gapV
 cases hx : o.node p with
 | none => rw [hx] at h; exact ⟨none, 0, h, RdS.nil_ _ _⟩
 | some q =>
  rw [hx] at h
  obtain ⟨r', rfl, ho⟩ := h
  have hr := RdS.of_owns ho
  obtain ⟨A, c, rfl, _⟩ := hr
  exact ⟨A, c, rfl, RdS.of_owns ho⟩

end Go.Proofs.Ytdnjkffmgmbfmaa.Bs
namespace Go.Proofs.Ytdnjkffmgmbfmaa.Sy
open Go.RowKit Go.Proofs.Ytdnjkffmgmbfmaa.Bw Go.Proofs.Ytdnjkffmgmbfmaa.Bs

/-! ### The operation as the chapter's other contracts have it -/
def bpc (p : Pc) : Bs.Pc := ⟨p.keep, p.drop, p.put⟩
def bop (o : OpD) : Bs.OpD := ⟨o.kind, o.path, o.at_, o.to, o.id, o.leaf, o.label, o.key, o.value, o.gone, o.pcs.map bpc⟩
theorem bpcs_rd {w : World} {b : Nat} : ∀ {l : List Pc} {off : Nat}, rdPcs w b off l → Bs.rdPcs w b off (l.map bpc)
 | [], _, _ => trivial
 | _ :: _, _, ⟨h1, h2, h3, h4, h5⟩ => ⟨h1, h2, h3, h4, bpcs_rd h5⟩
theorem bP {w : World} {l : List Pc} {v : Value} (h : RdP w l v) : Bs.RdP w (l.map bpc) v := by
 obtain ⟨A, c, rfl, h1, h2, h3⟩ := h
 refine ⟨A, c, by rw [List.length_map], by rw [List.length_map]; exact h1, h2, fun h0 => ?_⟩
 rw [List.length_map] at h0
 obtain ⟨b, off, h4, h5⟩ := h3 h0
 exact ⟨b, off, h4, bpcs_rd h5⟩
theorem bop_rd {w : World} {o : OpD} {v : Value} (h : o.rd w v) : (bop o).rd w v := by
 obtain ⟨pv, tv, cv, rfl, h1, h2, h3, h4, h5, h6, -⟩ := h
 exact ⟨pv, tv, cv, rfl, h1, h2, bP h3, h4, h5, h6⟩
theorem pcsOk_b : ∀ (l : List Pc) (n : Nat), Bs.pcsOk n (l.map bpc) = pcsOk n l
 | [], _ => rfl
 | p :: r, n => by
  rw [List.map_cons, Bs.pcsOk, pcsOk, pcsOk_b r]
  rfl
theorem formed_b (o : OpD) : (bop o).formed = o.formed := by
 have h : Bs.pcsRight (o.pcs.map bpc) = pcsRight o.pcs := by unfold Bs.pcsRight pcsRight; rw [List.length_map, pcsOk_b]
 unfold Bs.OpD.formed OpD.formed
 show (Bs.may o.path && (if o.kind = 1 then _ else if o.kind = 2 then _ else if o.kind = 3 then _ else if o.kind = 4 then _ else if o.kind = 5 then _ else if o.kind = 6 then Bs.pcsRight (o.pcs.map bpc) else false)) = _
 rw [h]
 rfl
theorem alike_b (o : OpD) : Alike (bop o).sh o := ⟨rfl, rfl, rfl, rfl, formed_b o⟩
theorem wr_b (o : OpD) : Wr (bop o).sh := fun k h0 h1 => by
 show IntKind.i64.wrap k = k
 exact IntWalk.i64_in _ (by omega)
theorem gapAt_b (s : Sh) (hw : Wr s) (p : List Int) (a : Int) (first : Bool) (a0 : 0 ≤ a) (a1 : a ≤ 1000000) : s.gapAt p a first = gapP s p a first := by
 have w1 := hw (a + 1) (by omega) (by omega)
 have w2 := hw (a - 1) (by omega) (by omega)
 have w3 := hw (a - 1 + 1) (by omega) (by omega)
 have e : ((decide (s.gap < a) || (a == s.gap) && !first) = true) ↔ (s.gap < a ∨ a = s.gap ∧ first = false) := by simp
 unfold Sh.gapAt gapP
 simp only [Bool.and_eq_true, decide_eq_true_eq, e]
 by_cases c1 : s.takes = true ∧ p = s.from_ ∧ s.num < a
 ·have c1' : (s.takes = true ∧ s.num < a) ∧ p = s.from_ := ⟨⟨c1.1, c1.2.2⟩, c1.2.1⟩
  simp only [if_pos c1', if_pos c1]
  by_cases c2 : s.puts = true ∧ p = s.goal ∧ (s.gap < a ∨ a = s.gap ∧ first = false)
  ·rw [if_pos ⟨⟨c2.1, c2.2.1⟩, c2.2.2⟩, if_pos c2, w2, w3]
  ·rw [if_neg (fun h => c2 ⟨h.1.1, h.1.2, h.2⟩), if_neg c2, w2]; omega
 ·have c1' : ¬ ((s.takes = true ∧ s.num < a) ∧ p = s.from_) := fun h => c1 ⟨h.1.1, h.2, h.1.2⟩
  simp only [if_neg c1', if_neg c1]
  by_cases c2 : s.puts = true ∧ p = s.goal ∧ (s.gap < a ∨ a = s.gap ∧ first = false)
  ·rw [if_pos ⟨⟨c2.1, c2.2.1⟩, c2.2.2⟩, if_pos c2, w1]
  ·rw [if_neg (fun h => c2 ⟨h.1.1, h.1.2, h.2⟩), if_neg c2]; omega
end Go.Proofs.Ytdnjkffmgmbfmaa.Sy
