/- Chapter 11: what takes a move back. -/
import Derived.Test.YtdnjkffmgmbfmaaBsGapR
namespace Go.Proofs.Ytdnjkffmgmbfmaa.Bs
open Go.RowKit Go.Proofs.Ytdnjkffmgmbfmaa.Bw

theorem NBox.set11 {W : World} {B : Nat} {t : TypeId} {x0 x1 x2 x3 x4 x5 x6 x7 x8 x9 x10 : Value} (h : NBox W B t #[x0, x1, x2, x3, x4, x5, x6, x7, x8, x9, x10]) (a0 a1 a2 a3 a4 a5 a6 a7 a8 a9 a10 : Value) : NBox (((((((((((W.setCell ⟨B, 0, none⟩ a0).setCell ⟨B, 1, none⟩ a1).setCell ⟨B, 2, none⟩ a2).setCell ⟨B, 3, none⟩ a3).setCell ⟨B, 4, none⟩ a4).setCell ⟨B, 5, none⟩ a5).setCell ⟨B, 6, none⟩ a6).setCell ⟨B, 7, none⟩ a7).setCell ⟨B, 8, none⟩ a8).setCell ⟨B, 9, none⟩ a9).setCell ⟨B, 10, none⟩ a10) B t #[a0, a1, a2, a3, a4, a5, a6, a7, a8, a9, a10] := by
 have := (((((((((((h.set 0 a0).set 1 a1).set 2 a2).set 3 a3).set 4 a4).set 5 a5).set 6 a6).set 7 a7).set 8 a8).set 9 a9).set 10 a10)
 simpa using this
theorem Ext.set11 {w W : World} (h : Ext w W) {B : Nat} (hB : w.heap.size ≤ B) (a0 a1 a2 a3 a4 a5 a6 a7 a8 a9 a10 : Value) : Ext w (((((((((((W.setCell ⟨B, 0, none⟩ a0).setCell ⟨B, 1, none⟩ a1).setCell ⟨B, 2, none⟩ a2).setCell ⟨B, 3, none⟩ a3).setCell ⟨B, 4, none⟩ a4).setCell ⟨B, 5, none⟩ a5).setCell ⟨B, 6, none⟩ a6).setCell ⟨B, 7, none⟩ a7).setCell ⟨B, 8, none⟩ a8).setCell ⟨B, 9, none⟩ a9).setCell ⟨B, 10, none⟩ a10) := (Below.setCell (Below.setCell (Below.setCell (Below.setCell (Below.setCell (Below.setCell (Below.setCell (Below.setCell (Below.setCell (Below.setCell (Below.setCell h (p := ⟨B, 0, none⟩) hB a0) (p := ⟨B, 1, none⟩) hB a1) (p := ⟨B, 2, none⟩) hB a2) (p := ⟨B, 3, none⟩) hB a3) (p := ⟨B, 4, none⟩) hB a4) (p := ⟨B, 5, none⟩) hB a5) (p := ⟨B, 6, none⟩) hB a6) (p := ⟨B, 7, none⟩) hB a7) (p := ⟨B, 8, none⟩) hB a8) (p := ⟨B, 9, none⟩) hB a9) (p := ⟨B, 10, none⟩) hB a10)
theorem owns_set11 {W : World} {base e size n B : Nat} {v : Value} {ys : List Value} (h : W.ownsRow base e size v n ys) (hB : B < base) (a0 a1 a2 a3 a4 a5 a6 a7 a8 a9 a10 : Value) : World.ownsRow (((((((((((W.setCell ⟨B, 0, none⟩ a0).setCell ⟨B, 1, none⟩ a1).setCell ⟨B, 2, none⟩ a2).setCell ⟨B, 3, none⟩ a3).setCell ⟨B, 4, none⟩ a4).setCell ⟨B, 5, none⟩ a5).setCell ⟨B, 6, none⟩ a6).setCell ⟨B, 7, none⟩ a7).setCell ⟨B, 8, none⟩ a8).setCell ⟨B, 9, none⟩ a9).setCell ⟨B, 10, none⟩ a10) base e size v n ys := (ownsRow_setCell_below (ownsRow_setCell_below (ownsRow_setCell_below (ownsRow_setCell_below (ownsRow_setCell_below (ownsRow_setCell_below (ownsRow_setCell_below (ownsRow_setCell_below (ownsRow_setCell_below (ownsRow_setCell_below (ownsRow_setCell_below h (a := ⟨B, 0, none⟩) hB a0) (a := ⟨B, 1, none⟩) hB a1) (a := ⟨B, 2, none⟩) hB a2) (a := ⟨B, 3, none⟩) hB a3) (a := ⟨B, 4, none⟩) hB a4) (a := ⟨B, 5, none⟩) hB a5) (a := ⟨B, 6, none⟩) hB a6) (a := ⟨B, 7, none⟩) hB a7) (a := ⟨B, 8, none⟩) hB a8) (a := ⟨B, 9, none⟩) hB a9) (a := ⟨B, 10, none⟩) hB a10)
theorem info26 : (Try.prog.info? 26).map (·.size) = some 11 := by kernel_rfl
theorem heap_two (w : World) (A B : Obj) : ((w.alloc A).alloc B).heap[w.heap.size + 1]? = some B := by
 have h1 : (w.alloc A).heap.size = w.heap.size + 1 := by show (w.heap.push A).size = _; simp
 have h2 := World.alloc_heap_new (w.alloc A) B
 rwa [h1] at h2
theorem heap_one (w : World) (A B : Obj) : ((w.alloc A).alloc B).heap[w.heap.size]? = some A := by
 have h1 := World.alloc_heap_new w A
 exact (((Ext.refl (w.alloc A)).alloc B).block w.heap.size (by show _ < (w.heap.push A).size; simp)).trans h1

/-- The gap to which a move is taken back. -/
def Sh.undoAt (o : Sh) : Int := if decide (o.from_ = o.to) && decide (o.land < o.num) then o.wr (o.num + 1) else o.num
/-- What is told of what takes an operation back. -/
def RdU (w : World) (o : Sh) (r : Value) : Prop := if o.kind = 3 ∧ o.moves = true then
  ∃ nA nc tA tc, r = .agg #[.int .u8 3, .slice nA (o.go [] o.to ++ [o.land]).length nc, .int .i64 o.undoAt, .slice tA (o.go [] o.from_).length tc, .int .u64 0, .bool false, .string ⟨#[]⟩, .string ⟨#[]⟩, .string ⟨#[]⟩, .bool false, .slice none 0 0] ∧
   w.ownsRow 0 3 1 (.slice nA (o.go [] o.to ++ [o.land]).length nc) (o.go [] o.to ++ [o.land]).length ((o.go [] o.to ++ [o.land]).map (Value.int .i64)) ∧ w.ownsRow 0 3 1 (.slice tA (o.go [] o.from_).length tc) (o.go [] o.from_).length ((o.go [] o.from_).map (Value.int .i64))
 else r = .agg #[.int .u8 0, .slice none 0 0, .int .i64 0, .slice none 0 0, .int .u64 0, .bool false, .string ⟨#[]⟩, .string ⟨#[]⟩, .string ⟨#[]⟩, .bool false, .slice none 0 0]
theorem move_plain {o : Sh} (hm : o.moves = true) (hk : o.kind = 3) : o.node o.path = some (o.go [] o.to ++ [o.land]) ∧ o.node o.from_ = some (o.go [] o.from_) := by
 obtain ⟨_, hp, _⟩ := moves_kind hm
 have hp := hp (by omega)
 have ht : o.takes = true := by simp [Sh.takes, hk]
 have hpu : o.puts = true := by simp [Sh.puts, hk]
 have hnm : ¬ (o.moves = false) := by simp [hm]
 constructor
 ·unfold Sh.node
  rw [if_neg hnm, if_pos (by simp [ht, within_self]), if_pos hpu]
  simp
 ·unfold Sh.node
  have hw : ¬ ((o.takes && within o.path o.from_) = true) := by
   rw [Bool.and_eq_true]
   rintro ⟨_, h⟩
   obtain ⟨r, hr⟩ := (within_iff _ _).1 h
   have h1 := congrArg List.length hr
   have h2 := congrArg List.length (path_split hp)
   simp at h1 h2; omega
  rw [if_neg hnm, if_neg hw]

set_option maxRecDepth 100000 in
set_option maxHeartbeats 4000000 in
theorem undo_other (o : OpD) (v : Value) (w : World) (h : o.rd w v) (hk : o.kind ≠ 3) : Calls Try.prog 16 #[v] w (Ret w fun r w' => RdU w' o.sh r) := by
 have hU : ∀ w' r, RdU w' o.sh r = (r = .agg #[.int .u8 0, .slice none 0 0, .int .i64 0, .slice none 0 0, .int .u64 0, .bool false, .string ⟨#[]⟩, .string ⟨#[]⟩, .string ⟨#[]⟩, .bool false, .slice none 0 0]) := fun w' r => if_neg (fun h => hk h.1)
 simp only [hU]
 obtain ⟨pv, tv, cv, rfl, hP, hT, hC, s1, s2, s3⟩ := h
 have h : o.rd w (.agg #[.int .u8 o.kind, pv, .int .i64 o.at_, tv, .int .u64 o.id, .bool o.leaf, .string o.label, .string o.key, .string o.value, .bool o.gone, cv]) := ⟨pv, tv, cv, rfl, hP, hT, hC, s1, s2, s3⟩
 have hP0 := hP
 have hT0 := hT
 have hC0 := hC
 obtain ⟨pA, pc, rfl, _, _, hpc, _⟩ := hP0
 obtain ⟨tA, tc, rfl, _, _, htc, _⟩ := hT0
 obtain ⟨cA, cc, rfl, _⟩ := hC0
 have hpl : o.path.length ≤ pc := by obtain ⟨_, _, e, _, h1, _⟩ := hP; simp only [Value.slice.injEq] at e; omega
 have htl : o.to.length ≤ tc := by obtain ⟨_, _, e, _, h1, _⟩ := hT; simp only [Value.slice.injEq] at e; omega
 unfold maxLen at hpc htc
 have k3 : (o.kind == 3) = false := by rw [beq_eq_false_iff_ne]; exact hk
 have n3 : (o.kind != 3) = true := by rw [bne, k3]; rfl
 clear h hP hT hC s1 s2 s3 hpl htl hU hk
 go_enter Try.func16, Try.ntmps16
 go_wp2_with fail
 refine bodyPost_ret (results_cell_row rfl _ _ (w.heap.size + 1) 26 _ _ _ rfl (heap_two _ _ _) Try.underlying26 rfl info26) rfl ?_
 exact ⟨_, rfl, rfl, ((Ext.refl w).alloc _).alloc _⟩

set_option maxRecDepth 100000 in
set_option maxHeartbeats 4000000 in
theorem undo_idle (o : OpD) (v : Value) (w : World) (h : o.rd w v) (hk : o.kind = 3) (hm : o.sh.moves = false) : Calls Try.prog 16 #[v] w (Ret w fun r w' => RdU w' o.sh r) := by
 have hU : ∀ w' r, RdU w' o.sh r = (r = .agg #[.int .u8 0, .slice none 0 0, .int .i64 0, .slice none 0 0, .int .u64 0, .bool false, .string ⟨#[]⟩, .string ⟨#[]⟩, .string ⟨#[]⟩, .bool false, .slice none 0 0]) := fun w' r => if_neg (fun h => by rw [hm] at h; cases h.2)
 simp only [hU]
 obtain ⟨pv, tv, cv, rfl, hP, hT, hC, s1, s2, s3⟩ := h
 have h : o.rd w (.agg #[.int .u8 o.kind, pv, .int .i64 o.at_, tv, .int .u64 o.id, .bool o.leaf, .string o.label, .string o.key, .string o.value, .bool o.gone, cv]) := ⟨pv, tv, cv, rfl, hP, hT, hC, s1, s2, s3⟩
 have hP0 := hP
 have hT0 := hT
 have hC0 := hC
 obtain ⟨pA, pc, rfl, _, _, hpc, _⟩ := hP0
 obtain ⟨tA, tc, rfl, _, _, htc, _⟩ := hT0
 obtain ⟨cA, cc, rfl, _⟩ := hC0
 have hpl : o.path.length ≤ pc := by obtain ⟨_, _, e, _, h1, _⟩ := hP; simp only [Value.slice.injEq] at e; omega
 have htl : o.to.length ≤ tc := by obtain ⟨_, _, e, _, h1, _⟩ := hT; simp only [Value.slice.injEq] at e; omega
 unfold maxLen at hpc htc
 have k3 : (o.kind == 3) = true := by rw [hk]; rfl
 have n3 : (o.kind != 3) = false := by rw [bne, k3]; rfl
 obtain ⟨w1, hw1⟩ : ∃ w1, (w.alloc (.cells #[.int .u8 o.kind, .slice pA o.path.length pc, .int .i64 o.at_, .slice tA o.to.length tc, .int .u64 o.id, .bool o.leaf, .string o.label, .string o.key, .string o.value, .bool o.gone, .slice cA o.pcs.length cc] 26)).alloc (.cells #[.int .u8 0, .slice none 0 0, .int .i64 0, .slice none 0 0, .int .u64 0, .bool false, .string ⟨#[]⟩, .string ⟨#[]⟩, .string ⟨#[]⟩, .bool false, .slice none 0 0] 26) = w1 := ⟨_, rfl⟩
 have hE1 : Ext w w1 := by rw [← hw1]; exact ((Ext.refl w).alloc _).alloc _
 have hb1 : NBox w1 w.heap.size 26 #[.int .u8 o.kind, .slice pA o.path.length pc, .int .i64 o.at_, .slice tA o.to.length tc, .int .u64 o.id, .bool o.leaf, .string o.label, .string o.key, .string o.value, .bool o.gone, .slice cA o.pcs.length cc] := by rw [← hw1]; exact heap_one _ _ _
 have hb2 : NBox w1 (w.heap.size + 1) 26 #[.int .u8 0, .slice none 0 0, .int .i64 0, .slice none 0 0, .int .u64 0, .bool false, .string ⟨#[]⟩, .string ⟨#[]⟩, .string ⟨#[]⟩, .bool false, .slice none 0 0] := by rw [← hw1]; exact heap_two _ _ _
 obtain ⟨B0, B1, B2, B3, B4, B5, B6, B7, B8, B9, B10⟩ := hb1.c11
 have E := Ext.refl w1
 have H1 := Lib.hid hw1
 clear hw1
 have hc29 : ∀ W, Ext w1 W → Calls Try.prog 29 #[.agg #[.int .u8 o.kind, .slice pA o.path.length pc, .int .i64 o.at_, .slice tA o.to.length tc, .int .u64 o.id, .bool o.leaf, .string o.label, .string o.key, .string o.value, .bool o.gone, .slice cA o.pcs.length cc]] W (Ret W fun r _ => r = .bool false) := fun W hW => by
  have := moves_any o _ W (OpD.rd_ext (hE1.trans hW) h)
  rwa [hm] at this
 clear h hP hT hC s1 s2 s3 hpl htl hU hk hm
 go_enter Try.func16, Try.ntmps16
 go_wp2_with (first | (rw [H1.out]; clear H1) | (go_at_call 29; refine (hc29 _ E).mono ?_; clear hc29; rintro e u5 ⟨r, rfl, rfl, hE⟩; replace E := Ext.trans E hE; have hbu := hb2.ext E; have Y0 := hbu.frozen 0; have X0 := hbu.cell 0; have Y1 := hbu.frozen 1; have X1 := hbu.cell 1; have Y2 := hbu.frozen 2; have X2 := hbu.cell 2; have Y3 := hbu.frozen 3; have X3 := hbu.cell 3; have Y4 := hbu.frozen 4; have X4 := hbu.cell 4; have Y5 := hbu.frozen 5; have X5 := hbu.cell 5; have Y6 := hbu.frozen 6; have X6 := hbu.cell 6; have Y7 := hbu.frozen 7; have X7 := hbu.cell 7; have Y8 := hbu.frozen 8; have X8 := hbu.cell 8; have Y9 := hbu.frozen 9; have X9 := hbu.cell 9; have Y10 := hbu.frozen 10; have X10 := hbu.cell 10; clear hE))
 refine bodyPost_ret (results_cell_row rfl _ _ (w.heap.size + 1) 26 _ _ _ rfl (NBox.set11 hbu _ _ _ _ _ _ _ _ _ _ _) Try.underlying26 rfl info26) rfl ?_
 exact ⟨_, rfl, rfl, Ext.set11 (hE1.trans E) (by omega) _ _ _ _ _ _ _ _ _ _ _⟩

set_option maxRecDepth 100000 in
set_option maxHeartbeats 4000000 in
theorem undo_move (o : OpD) (v : Value) (w : World) (h : o.rd w v) (hk : o.kind = 3) (hm : o.sh.moves = true) (hl : o.path.length ≤ 1000) (htl' : o.to.length ≤ 1000) : Calls Try.prog 16 #[v] w (Ret w fun r w' => RdU w' o.sh r) := by
 obtain ⟨hn1, hn2⟩ := move_plain hm hk
 have htk : o.sh.takes = true := by have hk' : o.sh.kind = 3 := hk; simp [Sh.takes, hk']
 have hpu : o.sh.puts = true := by have hk' : o.sh.kind = 3 := hk; simp [Sh.puts, hk']
 have hgo : o.sh.goal = o.to := by have hk' : o.sh.kind = 3 := hk; simp [Sh.goal, hk']; rfl
 have hfl : o.sh.from_.length ≤ 1000 := by show o.path.dropLast.length ≤ 1000; simp; omega
 obtain ⟨pv, tv, cv, rfl, hP, hT, hC, s1, s2, s3⟩ := h
 have h : o.rd w (.agg #[.int .u8 o.kind, pv, .int .i64 o.at_, tv, .int .u64 o.id, .bool o.leaf, .string o.label, .string o.key, .string o.value, .bool o.gone, cv]) := ⟨pv, tv, cv, rfl, hP, hT, hC, s1, s2, s3⟩
 have hP0 := hP
 have hT0 := hT
 have hC0 := hC
 obtain ⟨pA, pc, rfl, _, _, hpc, _⟩ := hP0
 obtain ⟨tA, tc, rfl, _, _, htc, _⟩ := hT0
 obtain ⟨cA, cc, rfl, _⟩ := hC0
 have hpl : o.path.length ≤ pc := by obtain ⟨_, _, e, _, h1, _⟩ := hP; simp only [Value.slice.injEq] at e; omega
 have htl : o.to.length ≤ tc := by obtain ⟨_, _, e, _, h1, _⟩ := hT; simp only [Value.slice.injEq] at e; omega
 unfold maxLen at hpc htc
 have k3 : (o.kind == 3) = true := by rw [hk]; rfl
 have n3 : (o.kind != 3) = false := by rw [bne, k3]; rfl
 obtain ⟨w1, hw1⟩ : ∃ w1, (w.alloc (.cells #[.int .u8 o.kind, .slice pA o.path.length pc, .int .i64 o.at_, .slice tA o.to.length tc, .int .u64 o.id, .bool o.leaf, .string o.label, .string o.key, .string o.value, .bool o.gone, .slice cA o.pcs.length cc] 26)).alloc (.cells #[.int .u8 0, .slice none 0 0, .int .i64 0, .slice none 0 0, .int .u64 0, .bool false, .string ⟨#[]⟩, .string ⟨#[]⟩, .string ⟨#[]⟩, .bool false, .slice none 0 0] 26) = w1 := ⟨_, rfl⟩
 have hE1 : Ext w w1 := by rw [← hw1]; exact ((Ext.refl w).alloc _).alloc _
 have hb1 : NBox w1 w.heap.size 26 #[.int .u8 o.kind, .slice pA o.path.length pc, .int .i64 o.at_, .slice tA o.to.length tc, .int .u64 o.id, .bool o.leaf, .string o.label, .string o.key, .string o.value, .bool o.gone, .slice cA o.pcs.length cc] := by rw [← hw1]; exact heap_one _ _ _
 have hb2 : NBox w1 (w.heap.size + 1) 26 #[.int .u8 0, .slice none 0 0, .int .i64 0, .slice none 0 0, .int .u64 0, .bool false, .string ⟨#[]⟩, .string ⟨#[]⟩, .string ⟨#[]⟩, .bool false, .slice none 0 0] := by rw [← hw1]; exact heap_two _ _ _
 obtain ⟨B0, B1, B2, B3, B4, B5, B6, B7, B8, B9, B10⟩ := hb1.c11
 have E := Ext.refl w1
 have H1 := Lib.hid hw1
 clear hw1
 have hc29 : ∀ W, Ext w1 W → Calls Try.prog 29 #[.agg #[.int .u8 o.kind, .slice pA o.path.length pc, .int .i64 o.at_, .slice tA o.to.length tc, .int .u64 o.id, .bool o.leaf, .string o.label, .string o.key, .string o.value, .bool o.gone, .slice cA o.pcs.length cc]] W (Ret W fun r _ => r = .bool true) := fun W hW => by
  have := moves_any o _ W (OpD.rd_ext (hE1.trans hW) h)
  rwa [hm] at this
 have hc31 : ∀ W, Ext w1 W → Calls Try.prog 31 #[.agg #[.int .u8 o.kind, .slice pA o.path.length pc, .int .i64 o.at_, .slice tA o.to.length tc, .int .u64 o.id, .bool o.leaf, .string o.label, .string o.key, .string o.value, .bool o.gone, .slice cA o.pcs.length cc]] W (Ret W fun r w' => RdC w' o r) := fun W hW => of_any o _ W (OpD.rd_ext (hE1.trans hW) h) (Or.inr (Or.inr hk)) (by omega)
 have hcp : ∀ W, Ext w1 W → Calls Try.prog 11 #[.agg #[.int .u8 o.kind, .slice pA o.path.length pc, .int .i64 o.at_, .slice tA o.to.length tc, .int .u64 o.id, .bool o.leaf, .string o.label, .string o.key, .string o.value, .bool o.gone, .slice cA o.pcs.length cc], .slice pA o.path.length pc] W (Ret W fun r w' => ∃ r', r = .tuple #[r', .bool true] ∧ w'.ownsRow w1.heap.size 3 1 r' (o.sh.go [] o.to ++ [o.sh.land]).length ((o.sh.go [] o.to ++ [o.sh.land]).map (Value.int .i64))) := fun W hW => by
  have := node_any o _ _ o.path W (OpD.rd_ext (hE1.trans hW) h) (RdS.ext (hE1.trans hW) hP) (by omega) (by omega) (by omega)
  rw [show o.sh.node o.path = _ from hn1] at this
  exact this.mono (by rintro e w' ⟨r, rfl, ⟨r', rfl, ho⟩, hE⟩; exact ⟨_, rfl, ⟨_, rfl, owns_mono ho hW.size⟩, hE⟩)
 have hNf : ∀ W (x : Value), Ext w1 W → RdI W o.sh.from_ x → Calls Try.prog 11 #[.agg #[.int .u8 o.kind, .slice pA o.path.length pc, .int .i64 o.at_, .slice tA o.to.length tc, .int .u64 o.id, .bool o.leaf, .string o.label, .string o.key, .string o.value, .bool o.gone, .slice cA o.pcs.length cc], x] W (Ret W fun r w' => ∃ r', r = .tuple #[r', .bool true] ∧ w'.ownsRow w1.heap.size 3 1 r' (o.sh.go [] o.sh.from_).length ((o.sh.go [] o.sh.from_).map (Value.int .i64))) := fun W x hW hx => by
  have := node_any o _ _ o.sh.from_ W (OpD.rd_ext (hE1.trans hW) h) hx (by omega) (by omega) (by omega)
  rw [hn2] at this
  exact this.mono (by rintro e w' ⟨r, rfl, ⟨r', rfl, ho⟩, hE⟩; exact ⟨_, rfl, ⟨_, rfl, owns_mono ho hW.size⟩, hE⟩)
 have hU : ∀ w' r, RdU w' o.sh r = ∃ nA nc tA tc, r = .agg #[.int .u8 3, .slice nA (o.sh.go [] o.to ++ [o.sh.land]).length nc, .int .i64 o.sh.undoAt, .slice tA (o.sh.go [] o.sh.from_).length tc, .int .u64 0, .bool false, .string ⟨#[]⟩, .string ⟨#[]⟩, .string ⟨#[]⟩, .bool false, .slice none 0 0] ∧
   w'.ownsRow 0 3 1 (.slice nA (o.sh.go [] o.to ++ [o.sh.land]).length nc) (o.sh.go [] o.to ++ [o.sh.land]).length ((o.sh.go [] o.to ++ [o.sh.land]).map (Value.int .i64)) ∧ w'.ownsRow 0 3 1 (.slice tA (o.sh.go [] o.sh.from_).length tc) (o.sh.go [] o.sh.from_).length ((o.sh.go [] o.sh.from_).map (Value.int .i64)) := fun w' r => if_pos ⟨hk, hm⟩
 simp only [hU]
 have HF : Hid (o.sh.undoAt = if decide (o.sh.from_ = o.to) && decide (o.sh.land < o.sh.num) then wrap64 (o.sh.num + 1) else o.sh.num) := by
  simp only [Hid, Sh.undoAt, sh_wr]; rfl
 clear h hP hT hC s1 s2 s3 hpl htl hk hm hn1 hn2 hU hfl
 generalize o.sh.go [] o.to ++ [o.sh.land] = N at *
 generalize o.sh.go [] o.sh.from_ = T at *
 go_enter Try.func16, Try.ntmps16
 go_wp2_with (first | (rw [H1.out]; clear H1) | (go_at_call 29; refine (hc29 _ E).mono ?_; clear hc29; rintro e u5 ⟨r, rfl, rfl, hE⟩; replace E := Ext.trans E hE; have D0 := E.cell B0; have D1 := E.cell B1; have D2 := E.cell B2; have D3 := E.cell B3; have D4 := E.cell B4; have D5 := E.cell B5; have D6 := E.cell B6; have D7 := E.cell B7; have D8 := E.cell B8; have D9 := E.cell B9; have D10 := E.cell B10; clear hE))
 refine (hc31 _ E).mono ?_
 clear hc31
 rintro e u6 ⟨r, rfl, hRC, hE⟩
 replace E := Ext.trans E hE
 obtain ⟨fv, gv, f, a, rfl, hF, hG, ht⟩ := hRC
 obtain ⟨rfl, rfl⟩ := ht htk
 have hRC : RdC u6 o (.agg #[.bool o.sh.takes, .bool o.sh.puts, fv, gv, .int .i64 o.sh.num, .int .i64 o.at_]) := ⟨fv, gv, _, _, rfl, hF, hG, fun _ => ⟨rfl, rfl⟩⟩
 have hF0 := hF
 have hG0 := hG
 obtain ⟨fA, fc, rfl, _⟩ := hF0
 obtain ⟨gA, gc, rfl, _⟩ := hG0
 rw [htk, hpu] at hRC
 rw [htk, hpu]
 clear ht
 obtain ⟨w4, hw4⟩ : ∃ w4, u6.alloc (.cells #[.bool true, .bool true, .slice fA o.sh.from_.length fc, .slice gA o.sh.goal.length gc, .int .i64 o.sh.num, .int .i64 o.at_] 63) = w4 := ⟨_, rfl⟩
 have E64 : Ext u6 w4 := by rw [← hw4]; exact (Ext.refl _).alloc _
 have NB : NBox w4 u6.heap.size 63 #[.bool true, .bool true, .slice fA o.sh.from_.length fc, .slice gA o.sh.goal.length gc, .int .i64 o.sh.num, .int .i64 o.at_] := by rw [← hw4]; exact NBox.new _ _ _
 have C0 := NB.cell 0; have C1 := NB.cell 1; have C2 := NB.cell 2; have C3 := NB.cell 3; have C4 := NB.cell 4; have C5 := NB.cell 5
 replace E := E.trans E64
 replace hF := RdS.ext E64 hF
 replace hG := RdS.ext E64 hG
 replace hRC := RdC.ext E64 hRC
 have D0 := E.cell B0; have D1 := E.cell B1; have D2 := E.cell B2; have D3 := E.cell B3; have D4 := E.cell B4; have D5 := E.cell B5; have D6 := E.cell B6; have D7 := E.cell B7; have D8 := E.cell B8; have D9 := E.cell B9; have D10 := E.cell B10
 have hcf : ∀ W, Ext w4 W → Calls Try.prog 11 #[.agg #[.int .u8 o.kind, .slice pA o.path.length pc, .int .i64 o.at_, .slice tA o.to.length tc, .int .u64 o.id, .bool o.leaf, .string o.label, .string o.key, .string o.value, .bool o.gone, .slice cA o.pcs.length cc], .slice fA o.sh.from_.length fc] W (Ret W fun r w' => ∃ r', r = .tuple #[r', .bool true] ∧ w'.ownsRow w1.heap.size 3 1 r' T.length (T.map (Value.int .i64))) := fun W hW => hNf W _ (E.trans hW) (RdS.ext hW hF)
 have hc40 : ∀ W, Ext w4 W → Calls Try.prog 40 #[.slice fA o.sh.from_.length fc, .slice gA o.sh.goal.length gc] W (Ret W fun r _ => r = .bool (decide (o.sh.from_ = o.to))) := fun W hW => by
  have := pathSame_any _ _ _ _ W (RdS.ext hW hF) (RdS.ext hW hG)
  rw [hgo] at this ⊢
  exact this
 have hc33 : ∀ W, Ext w4 W → Calls Try.prog 33 #[.agg #[.bool true, .bool true, .slice fA o.sh.from_.length fc, .slice gA o.sh.goal.length gc, .int .i64 o.sh.num, .int .i64 o.at_]] W (Ret W fun r _ => r = .int .i64 o.sh.land) := fun W hW => land_any o _ W (RdC.ext hW hRC) htk
 have H4 := Lib.hid hw4
 have E4 := Ext.refl w4
 clear hw4 hE hF hG E64 hNf hRC htk hpu hgo
 generalize decide (o.sh.from_ = o.to) = s at *
 rcases s with _ | _
 ·clear hc33
  go_wp2_with (first | (rw [H4.out]; clear H4) | (go_at_call 11; refine (hcp _ E).mono ?_; clear hcp; rintro e u7 ⟨r, rfl, ⟨rn, rfl, hown1⟩, hE⟩; replace E := Ext.trans E hE; replace E4 := Ext.trans E4 hE; obtain ⟨nA, nc, rfl, _⟩ := RdS.of_owns hown1; have D0 := E.cell B0; have D1 := E.cell B1; have D2 := E.cell B2; have D3 := E.cell B3; have D4 := E.cell B4; have D5 := E.cell B5; have D6 := E.cell B6; have D7 := E.cell B7; have D8 := E.cell B8; have D9 := E.cell B9; have D10 := E.cell B10; replace NB := NB.ext hE; replace C0 := NB.cell 0; replace C1 := NB.cell 1; replace C2 := NB.cell 2; replace C3 := NB.cell 3; replace C4 := NB.cell 4; replace C5 := NB.cell 5; clear hE) | (go_at_call 11; refine (hcf _ E4).mono ?_; clear hcf; rintro e u8 ⟨r, rfl, ⟨rt, rfl, hown2⟩, hE⟩; replace E := Ext.trans E hE; replace E4 := Ext.trans E4 hE; replace hown1 := owns_ext hE hown1; obtain ⟨zA, zc, rfl, _⟩ := RdS.of_owns hown2; have D0 := E.cell B0; have D1 := E.cell B1; have D2 := E.cell B2; have D3 := E.cell B3; have D4 := E.cell B4; have D5 := E.cell B5; have D6 := E.cell B6; have D7 := E.cell B7; have D8 := E.cell B8; have D9 := E.cell B9; have D10 := E.cell B10; replace NB := NB.ext hE; replace C0 := NB.cell 0; replace C1 := NB.cell 1; replace C2 := NB.cell 2; replace C3 := NB.cell 3; replace C4 := NB.cell 4; replace C5 := NB.cell 5; clear hE) | (go_at_call 40; refine (hc40 _ E4).mono ?_; clear hc40; rintro e u9 ⟨r, rfl, rfl, hE⟩; replace E := Ext.trans E hE; replace E4 := Ext.trans E4 hE; replace hown1 := owns_ext hE hown1; replace hown2 := owns_ext hE hown2; have hbu := hb2.ext E; have Y0 := hbu.frozen 0; have X0 := hbu.cell 0; have Y1 := hbu.frozen 1; have X1 := hbu.cell 1; have Y2 := hbu.frozen 2; have X2 := hbu.cell 2; have Y3 := hbu.frozen 3; have X3 := hbu.cell 3; have Y4 := hbu.frozen 4; have X4 := hbu.cell 4; have Y5 := hbu.frozen 5; have X5 := hbu.cell 5; have Y6 := hbu.frozen 6; have X6 := hbu.cell 6; have Y7 := hbu.frozen 7; have X7 := hbu.cell 7; have Y8 := hbu.frozen 8; have X8 := hbu.cell 8; have Y9 := hbu.frozen 9; have X9 := hbu.cell 9; have Y10 := hbu.frozen 10; have X10 := hbu.cell 10; have D0 := E.cell B0; have D1 := E.cell B1; have D2 := E.cell B2; have D3 := E.cell B3; have D4 := E.cell B4; have D5 := E.cell B5; have D6 := E.cell B6; have D7 := E.cell B7; have D8 := E.cell B8; have D9 := E.cell B9; have D10 := E.cell B10; replace NB := NB.ext hE; replace C0 := NB.cell 0; replace C1 := NB.cell 1; replace C2 := NB.cell 2; replace C3 := NB.cell 3; replace C4 := NB.cell 4; replace C5 := NB.cell 5; clear hE) | (go_at_call 33; refine (hc33 _ E4).mono ?_; clear hc33; rintro e u10 ⟨r, rfl, rfl, hE⟩; replace E := Ext.trans E hE; replace E4 := Ext.trans E4 hE; replace hown1 := owns_ext hE hown1; replace hown2 := owns_ext hE hown2; have hbu := hb2.ext E; have Y0 := hbu.frozen 0; have X0 := hbu.cell 0; have Y1 := hbu.frozen 1; have X1 := hbu.cell 1; have Y2 := hbu.frozen 2; have X2 := hbu.cell 2; have Y3 := hbu.frozen 3; have X3 := hbu.cell 3; have Y4 := hbu.frozen 4; have X4 := hbu.cell 4; have Y5 := hbu.frozen 5; have X5 := hbu.cell 5; have Y6 := hbu.frozen 6; have X6 := hbu.cell 6; have Y7 := hbu.frozen 7; have X7 := hbu.cell 7; have Y8 := hbu.frozen 8; have X8 := hbu.cell 8; have Y9 := hbu.frozen 9; have X9 := hbu.cell 9; have Y10 := hbu.frozen 10; have X10 := hbu.cell 10; have D0 := E.cell B0; have D1 := E.cell B1; have D2 := E.cell B2; have D3 := E.cell B3; have D4 := E.cell B4; have D5 := E.cell B5; have D6 := E.cell B6; have D7 := E.cell B7; have D8 := E.cell B8; have D9 := E.cell B9; have D10 := E.cell B10; replace NB := NB.ext hE; replace C0 := NB.cell 0; replace C1 := NB.cell 1; replace C2 := NB.cell 2; replace C3 := NB.cell 3; replace C4 := NB.cell 4; replace C5 := NB.cell 5; clear hE))
  have l2 := hb2.lt
  refine bodyPost_ret (results_cell_row rfl _ _ (w.heap.size + 1) 26 _ _ _ rfl (NBox.set11 hbu _ _ _ _ _ _ _ _ _ _ _) Try.underlying26 rfl info26) rfl ?_
  exact ⟨_, rfl, ⟨nA, nc, zA, zc, by rw [HF.out]; rfl, owns_mono (owns_set11 hown1 l2 _ _ _ _ _ _ _ _ _ _ _) (Nat.zero_le _), owns_mono (owns_set11 hown2 l2 _ _ _ _ _ _ _ _ _ _ _) (Nat.zero_le _)⟩, Ext.set11 (hE1.trans E) (by omega) _ _ _ _ _ _ _ _ _ _ _⟩
 rcases Int.lt_or_le o.sh.land o.sh.num with hg | hg
 ·have g1 : decide (o.sh.land < o.sh.num) = true := decide_eq_true hg
  clear hg
  go_wp2_with (first | (rw [H4.out]; clear H4) | (go_at_call 11; refine (hcp _ E).mono ?_; clear hcp; rintro e u7 ⟨r, rfl, ⟨rn, rfl, hown1⟩, hE⟩; replace E := Ext.trans E hE; replace E4 := Ext.trans E4 hE; obtain ⟨nA, nc, rfl, _⟩ := RdS.of_owns hown1; have D0 := E.cell B0; have D1 := E.cell B1; have D2 := E.cell B2; have D3 := E.cell B3; have D4 := E.cell B4; have D5 := E.cell B5; have D6 := E.cell B6; have D7 := E.cell B7; have D8 := E.cell B8; have D9 := E.cell B9; have D10 := E.cell B10; replace NB := NB.ext hE; replace C0 := NB.cell 0; replace C1 := NB.cell 1; replace C2 := NB.cell 2; replace C3 := NB.cell 3; replace C4 := NB.cell 4; replace C5 := NB.cell 5; clear hE) | (go_at_call 11; refine (hcf _ E4).mono ?_; clear hcf; rintro e u8 ⟨r, rfl, ⟨rt, rfl, hown2⟩, hE⟩; replace E := Ext.trans E hE; replace E4 := Ext.trans E4 hE; replace hown1 := owns_ext hE hown1; obtain ⟨zA, zc, rfl, _⟩ := RdS.of_owns hown2; have D0 := E.cell B0; have D1 := E.cell B1; have D2 := E.cell B2; have D3 := E.cell B3; have D4 := E.cell B4; have D5 := E.cell B5; have D6 := E.cell B6; have D7 := E.cell B7; have D8 := E.cell B8; have D9 := E.cell B9; have D10 := E.cell B10; replace NB := NB.ext hE; replace C0 := NB.cell 0; replace C1 := NB.cell 1; replace C2 := NB.cell 2; replace C3 := NB.cell 3; replace C4 := NB.cell 4; replace C5 := NB.cell 5; clear hE) | (go_at_call 40; refine (hc40 _ E4).mono ?_; clear hc40; rintro e u9 ⟨r, rfl, rfl, hE⟩; replace E := Ext.trans E hE; replace E4 := Ext.trans E4 hE; replace hown1 := owns_ext hE hown1; replace hown2 := owns_ext hE hown2; have hbu := hb2.ext E; have Y0 := hbu.frozen 0; have X0 := hbu.cell 0; have Y1 := hbu.frozen 1; have X1 := hbu.cell 1; have Y2 := hbu.frozen 2; have X2 := hbu.cell 2; have Y3 := hbu.frozen 3; have X3 := hbu.cell 3; have Y4 := hbu.frozen 4; have X4 := hbu.cell 4; have Y5 := hbu.frozen 5; have X5 := hbu.cell 5; have Y6 := hbu.frozen 6; have X6 := hbu.cell 6; have Y7 := hbu.frozen 7; have X7 := hbu.cell 7; have Y8 := hbu.frozen 8; have X8 := hbu.cell 8; have Y9 := hbu.frozen 9; have X9 := hbu.cell 9; have Y10 := hbu.frozen 10; have X10 := hbu.cell 10; have D0 := E.cell B0; have D1 := E.cell B1; have D2 := E.cell B2; have D3 := E.cell B3; have D4 := E.cell B4; have D5 := E.cell B5; have D6 := E.cell B6; have D7 := E.cell B7; have D8 := E.cell B8; have D9 := E.cell B9; have D10 := E.cell B10; replace NB := NB.ext hE; replace C0 := NB.cell 0; replace C1 := NB.cell 1; replace C2 := NB.cell 2; replace C3 := NB.cell 3; replace C4 := NB.cell 4; replace C5 := NB.cell 5; clear hE) | (go_at_call 33; refine (hc33 _ E4).mono ?_; clear hc33; rintro e u10 ⟨r, rfl, rfl, hE⟩; replace E := Ext.trans E hE; replace E4 := Ext.trans E4 hE; replace hown1 := owns_ext hE hown1; replace hown2 := owns_ext hE hown2; have hbu := hb2.ext E; have Y0 := hbu.frozen 0; have X0 := hbu.cell 0; have Y1 := hbu.frozen 1; have X1 := hbu.cell 1; have Y2 := hbu.frozen 2; have X2 := hbu.cell 2; have Y3 := hbu.frozen 3; have X3 := hbu.cell 3; have Y4 := hbu.frozen 4; have X4 := hbu.cell 4; have Y5 := hbu.frozen 5; have X5 := hbu.cell 5; have Y6 := hbu.frozen 6; have X6 := hbu.cell 6; have Y7 := hbu.frozen 7; have X7 := hbu.cell 7; have Y8 := hbu.frozen 8; have X8 := hbu.cell 8; have Y9 := hbu.frozen 9; have X9 := hbu.cell 9; have Y10 := hbu.frozen 10; have X10 := hbu.cell 10; have D0 := E.cell B0; have D1 := E.cell B1; have D2 := E.cell B2; have D3 := E.cell B3; have D4 := E.cell B4; have D5 := E.cell B5; have D6 := E.cell B6; have D7 := E.cell B7; have D8 := E.cell B8; have D9 := E.cell B9; have D10 := E.cell B10; replace NB := NB.ext hE; replace C0 := NB.cell 0; replace C1 := NB.cell 1; replace C2 := NB.cell 2; replace C3 := NB.cell 3; replace C4 := NB.cell 4; replace C5 := NB.cell 5; clear hE))
  have l2 := hb2.lt
  refine bodyPost_ret (results_cell_row rfl _ _ (w.heap.size + 1) 26 _ _ _ rfl (NBox.set11 hbu _ _ _ _ _ _ _ _ _ _ _) Try.underlying26 rfl info26) rfl ?_
  exact ⟨_, rfl, ⟨nA, nc, zA, zc, by rw [HF.out, g1]; rfl, owns_mono (owns_set11 hown1 l2 _ _ _ _ _ _ _ _ _ _ _) (Nat.zero_le _), owns_mono (owns_set11 hown2 l2 _ _ _ _ _ _ _ _ _ _ _) (Nat.zero_le _)⟩, Ext.set11 (hE1.trans E) (by omega) _ _ _ _ _ _ _ _ _ _ _⟩
 ·have g1 : decide (o.sh.land < o.sh.num) = false := decide_eq_false (by omega)
  clear hg
  go_wp2_with (first | (rw [H4.out]; clear H4) | (go_at_call 11; refine (hcp _ E).mono ?_; clear hcp; rintro e u7 ⟨r, rfl, ⟨rn, rfl, hown1⟩, hE⟩; replace E := Ext.trans E hE; replace E4 := Ext.trans E4 hE; obtain ⟨nA, nc, rfl, _⟩ := RdS.of_owns hown1; have D0 := E.cell B0; have D1 := E.cell B1; have D2 := E.cell B2; have D3 := E.cell B3; have D4 := E.cell B4; have D5 := E.cell B5; have D6 := E.cell B6; have D7 := E.cell B7; have D8 := E.cell B8; have D9 := E.cell B9; have D10 := E.cell B10; replace NB := NB.ext hE; replace C0 := NB.cell 0; replace C1 := NB.cell 1; replace C2 := NB.cell 2; replace C3 := NB.cell 3; replace C4 := NB.cell 4; replace C5 := NB.cell 5; clear hE) | (go_at_call 11; refine (hcf _ E4).mono ?_; clear hcf; rintro e u8 ⟨r, rfl, ⟨rt, rfl, hown2⟩, hE⟩; replace E := Ext.trans E hE; replace E4 := Ext.trans E4 hE; replace hown1 := owns_ext hE hown1; obtain ⟨zA, zc, rfl, _⟩ := RdS.of_owns hown2; have D0 := E.cell B0; have D1 := E.cell B1; have D2 := E.cell B2; have D3 := E.cell B3; have D4 := E.cell B4; have D5 := E.cell B5; have D6 := E.cell B6; have D7 := E.cell B7; have D8 := E.cell B8; have D9 := E.cell B9; have D10 := E.cell B10; replace NB := NB.ext hE; replace C0 := NB.cell 0; replace C1 := NB.cell 1; replace C2 := NB.cell 2; replace C3 := NB.cell 3; replace C4 := NB.cell 4; replace C5 := NB.cell 5; clear hE) | (go_at_call 40; refine (hc40 _ E4).mono ?_; clear hc40; rintro e u9 ⟨r, rfl, rfl, hE⟩; replace E := Ext.trans E hE; replace E4 := Ext.trans E4 hE; replace hown1 := owns_ext hE hown1; replace hown2 := owns_ext hE hown2; have hbu := hb2.ext E; have Y0 := hbu.frozen 0; have X0 := hbu.cell 0; have Y1 := hbu.frozen 1; have X1 := hbu.cell 1; have Y2 := hbu.frozen 2; have X2 := hbu.cell 2; have Y3 := hbu.frozen 3; have X3 := hbu.cell 3; have Y4 := hbu.frozen 4; have X4 := hbu.cell 4; have Y5 := hbu.frozen 5; have X5 := hbu.cell 5; have Y6 := hbu.frozen 6; have X6 := hbu.cell 6; have Y7 := hbu.frozen 7; have X7 := hbu.cell 7; have Y8 := hbu.frozen 8; have X8 := hbu.cell 8; have Y9 := hbu.frozen 9; have X9 := hbu.cell 9; have Y10 := hbu.frozen 10; have X10 := hbu.cell 10; have D0 := E.cell B0; have D1 := E.cell B1; have D2 := E.cell B2; have D3 := E.cell B3; have D4 := E.cell B4; have D5 := E.cell B5; have D6 := E.cell B6; have D7 := E.cell B7; have D8 := E.cell B8; have D9 := E.cell B9; have D10 := E.cell B10; replace NB := NB.ext hE; replace C0 := NB.cell 0; replace C1 := NB.cell 1; replace C2 := NB.cell 2; replace C3 := NB.cell 3; replace C4 := NB.cell 4; replace C5 := NB.cell 5; clear hE) | (go_at_call 33; refine (hc33 _ E4).mono ?_; clear hc33; rintro e u10 ⟨r, rfl, rfl, hE⟩; replace E := Ext.trans E hE; replace E4 := Ext.trans E4 hE; replace hown1 := owns_ext hE hown1; replace hown2 := owns_ext hE hown2; have hbu := hb2.ext E; have Y0 := hbu.frozen 0; have X0 := hbu.cell 0; have Y1 := hbu.frozen 1; have X1 := hbu.cell 1; have Y2 := hbu.frozen 2; have X2 := hbu.cell 2; have Y3 := hbu.frozen 3; have X3 := hbu.cell 3; have Y4 := hbu.frozen 4; have X4 := hbu.cell 4; have Y5 := hbu.frozen 5; have X5 := hbu.cell 5; have Y6 := hbu.frozen 6; have X6 := hbu.cell 6; have Y7 := hbu.frozen 7; have X7 := hbu.cell 7; have Y8 := hbu.frozen 8; have X8 := hbu.cell 8; have Y9 := hbu.frozen 9; have X9 := hbu.cell 9; have Y10 := hbu.frozen 10; have X10 := hbu.cell 10; have D0 := E.cell B0; have D1 := E.cell B1; have D2 := E.cell B2; have D3 := E.cell B3; have D4 := E.cell B4; have D5 := E.cell B5; have D6 := E.cell B6; have D7 := E.cell B7; have D8 := E.cell B8; have D9 := E.cell B9; have D10 := E.cell B10; replace NB := NB.ext hE; replace C0 := NB.cell 0; replace C1 := NB.cell 1; replace C2 := NB.cell 2; replace C3 := NB.cell 3; replace C4 := NB.cell 4; replace C5 := NB.cell 5; clear hE))
  have l2 := hb2.lt
  refine bodyPost_ret (results_cell_row rfl _ _ (w.heap.size + 1) 26 _ _ _ rfl (NBox.set11 hbu _ _ _ _ _ _ _ _ _ _ _) Try.underlying26 rfl info26) rfl ?_
  exact ⟨_, rfl, ⟨nA, nc, zA, zc, by rw [HF.out, g1]; rfl, owns_mono (owns_set11 hown1 l2 _ _ _ _ _ _ _ _ _ _ _) (Nat.zero_le _), owns_mono (owns_set11 hown2 l2 _ _ _ _ _ _ _ _ _ _ _) (Nat.zero_le _)⟩, Ext.set11 (hE1.trans E) (by omega) _ _ _ _ _ _ _ _ _ _ _⟩

theorem undo_any (o : OpD) (v : Value) (w : World) (h : o.rd w v) (hl : o.path.length ≤ 1000) (htl' : o.to.length ≤ 1000) : Calls Try.prog 16 #[v] w (Ret w fun r w' => RdU w' o.sh r) := by
 by_cases hk : o.kind = 3
 ·cases hm : o.sh.moves with
  | false => exact undo_idle o v w h hk hm
  | true => exact undo_move o v w h hk hm hl htl'
 ·exact undo_other o v w h hk
end Go.Proofs.Ytdnjkffmgmbfmaa.Bs
