/- Chapter 04: the short calls that stand in each statement. -/
import Derived.Test.YtbabfeepmaipoaaPtCmp
namespace Go.Proofs.Ytbabfeepmaipoaa.Pt
open Go.RowKit Go.Proofs.Ytbabfeepmaipoaa.Bw Go.Proofs.Ytbabfeepmaipoaa.Bs

theorem RdS.lits (W : World) (ty : TypeId) (l : List Int) (hl : l.length ≤ 1000) (cs : Array Value) (hcs : cs = (l.map (Value.int .i64)).toArray) :
    RdS (W.alloc (.cells cs ty)) 1 l.length (l.map (Value.int .i64)) (.slice (some ⟨W.heap.size, 0, none⟩) l.length l.length) := by
  subst hcs
  refine ⟨_, _, rfl, by simp, Nat.le_refl _, by simp [maxLen]; omega, fun _ => ⟨_, 0, rfl, fun j u hu => ?_⟩⟩
  have hb := World.alloc_heap_new W (.cells (l.map (Value.int .i64)).toArray ty)
  rw [Nat.zero_add]
  simp only [World.cell?, hb]
  simpa using hu
theorem litsZ (W : World) : RdS (W.alloc (.cells #[z1, z2, z3] 25)) 1 3 [z1, z2, z3] (.slice (some ⟨W.heap.size, 0, none⟩) 3 3) := by
  refine ⟨_, _, rfl, by simp, Nat.le_refl _, by simp [maxLen], fun _ => ⟨_, 0, rfl, fun j u hu => ?_⟩⟩
  have hb := World.alloc_heap_new W (.cells #[z1, z2, z3] 25)
  rw [Nat.zero_add]
  simp only [World.cell?, hb]
  simpa using hu
theorem size_one (w : World) (o : Obj) : (w.alloc o).heap.size = w.heap.size + 1 := by show (w.heap.push o).size = _; simp
theorem okS : pOk 13835058055282163712 4607182418800017408 = true := by kernel_rfl
theorem nS : fint 4607182418800017408 = some ((1 : Nat) : Int) := by kernel_rfl
theorem mS : fint 13835058055282163712 = some (-2) := by kernel_rfl
theorem btX : between [4, 7, 1] [4, 5, 1] = some (13835058055282163712, 4607182418800017408) := by kernel_rfl
theorem eqA : (FloatKind.f64.format.order 13835058055282163712 13835058055282163712 == some .eq) = true := by kernel_rfl
theorem eqB : (FloatKind.f64.format.order 4607182418800017408 4607182418800017408 == some .eq) = true := by kernel_rfl
theorem eqC : (FloatKind.f64.format.order 4611686018427387904 4611686018427387904 == some .eq) = true := by kernel_rfl
theorem eqD : (FloatKind.f64.format.order 4613937818241073152 4613937818241073152 == some .eq) = true := by kernel_rfl

set_option maxRecDepth 100000 in
set_option maxHeartbeats 8000000 in
theorem works_any (w : World) : Calls Try.prog 11 #[] w (Ret w fun r _ => r = .bool true) := by
  have hA := eqA
  have hB := eqB
  have hC := eqC
  have hD := eqD
  have hc := shift_yes [4, 7, 1] _ 13835058055282163712 4607182418800017408 1 (-2) 7 (w.alloc (.cells #[.int .i64 4, .int .i64 7, .int .i64 1] 3)) (RdS.lits w 3 [4, 7, 1] (by simp) _ rfl) okS nS mS (by kernel_rfl) rfl (by decide) (by decide)
  go_enter Try.func11, Try.ntmps11
  go_wp2_with fail
  refine hc.mono ?_
  clear hc
  rintro e ua ⟨r, rfl, ⟨r', rfl, ho⟩, hE⟩
  have R1 : RdI ua [4, 5, 1] r' := RdS.of_owns ho
  obtain ⟨A1, c1, rfl, _⟩ := RdS.of_owns ho
  have E : Ext w ua := ((Ext.refl w).alloc _).trans hE
  clear hE ho
  have y1 := RdS.ext ((Ext.refl _).alloc (.cells #[.int .i64 4, .int .i64 5, .int .i64 1] 3)) (RdS.lits ua 3 [4, 7, 1] (by simp) #[.int .i64 4, .int .i64 7, .int .i64 1] rfl)
  have y2 := RdS.lits (ua.alloc (.cells #[.int .i64 4, .int .i64 7, .int .i64 1] 3)) 3 [4, 5, 1] (by simp) #[.int .i64 4, .int .i64 5, .int .i64 1] rfl
  rw [size_one] at y2
  have hc := between_any [4, 7, 1] [4, 5, 1] _ _ ((ua.alloc (.cells #[.int .i64 4, .int .i64 7, .int .i64 1] 3)).alloc (.cells #[.int .i64 4, .int .i64 5, .int .i64 1] 3)) y1 y2
  rw [btX] at hc
  unfold btwV at hc
  go_wp2_with fail
  refine hc.mono ?_
  clear hc y1 y2
  rintro e ub ⟨r, rfl, rfl, hE⟩
  have D : Ext ua ub := (((Ext.refl ua).alloc _).alloc _).trans hE
  replace E := E.trans D
  replace R1 := RdS.ext D R1
  clear hE D
  have hc := sum_x _ (ub.alloc (.cells #[z1, z2, z3] 25)) (litsZ ub)
  unfold z1 z2 z3 at hc
  go_wp2_with fail
  refine hc.mono ?_
  clear hc
  rintro e uc ⟨r, rfl, ⟨r', rfl, ho⟩, hE⟩
  have D : Ext ub uc := ((Ext.refl ub).alloc _).trans hE
  replace E := E.trans D
  replace R1 := RdS.ext D R1
  obtain ⟨g, gc, rfl, _, _⟩ := World.ownsRow.form ho (by omega)
  have k0 := (owns_cell ho (i := 0) rfl).1
  clear hE D ho
  have hc := sameInts_any [4, 5, 1] [4, 5, 1] _ _ (uc.alloc (.cells #[.int .i64 4, .int .i64 5, .int .i64 1] 3)) (RdS.ext ((Ext.refl _).alloc _) R1) (RdS.lits uc 3 [4, 5, 1] (by simp) _ rfl)
  rw [show decide (([4, 5, 1] : List Int) = [4, 5, 1]) = true from rfl] at hc
  go_wp2_with fail
  refine hc.mono ?_
  clear hc R1
  rintro e ud ⟨r, rfl, rfl, hE⟩
  have D : Ext uc ud := ((Ext.refl uc).alloc _).trans hE
  replace E := E.trans D
  replace k0 := D.cell k0
  clear hE D
  have y1 := RdS.ext ((Ext.refl _).alloc (.cells #[.int .i64 0, .int .i64 2, .int .i64 1] 3)) (RdS.lits ud 3 [0, 2] (by simp) #[.int .i64 0, .int .i64 2] rfl)
  have y2 := RdS.lits (ud.alloc (.cells #[.int .i64 0, .int .i64 2] 3)) 3 [0, 2, 1] (by simp) #[.int .i64 0, .int .i64 2, .int .i64 1] rfl
  rw [size_one] at y2
  have hc := compare_any [0, 2] [0, 2, 1] _ _ ((ud.alloc (.cells #[.int .i64 0, .int .i64 2] 3)).alloc (.cells #[.int .i64 0, .int .i64 2, .int .i64 1] 3)) y1 y2
  rw [show cmpL [0, 2] [0, 2, 1] = -1 from rfl] at hc
  go_wp2_with fail
  refine hc.mono ?_
  clear hc y1 y2
  rintro e ue0x ⟨r, rfl, rfl, hE⟩
  have D : Ext ud ue0x := (((Ext.refl ud).alloc _).alloc _).trans hE
  replace E := E.trans D
  clear k0
  clear hE D
  have y1 := RdS.ext ((Ext.refl _).alloc (.cells #[.int .i64 0, .int .i64 3] 3)) (RdS.lits ue0x 3 [0, 2, 9] (by simp) #[.int .i64 0, .int .i64 2, .int .i64 9] rfl)
  have y2 := RdS.lits (ue0x.alloc (.cells #[.int .i64 0, .int .i64 2, .int .i64 9] 3)) 3 [0, 3] (by simp) #[.int .i64 0, .int .i64 3] rfl
  rw [size_one] at y2
  have hc := compare_any [0, 2, 9] [0, 3] _ _ ((ue0x.alloc (.cells #[.int .i64 0, .int .i64 2, .int .i64 9] 3)).alloc (.cells #[.int .i64 0, .int .i64 3] 3)) y1 y2
  rw [show cmpL [0, 2, 9] [0, 3] = -1 from rfl] at hc
  go_wp2_with fail
  refine hc.mono ?_
  clear hc y1 y2
  rintro e ue1x ⟨r, rfl, rfl, hE⟩
  have D : Ext ue0x ue1x := (((Ext.refl ue0x).alloc _).alloc _).trans hE
  replace E := E.trans D
  clear hE D
  have y1 := RdS.ext ((Ext.refl _).alloc (.cells #[.int .i64 0, .int .i64 5] 3)) (RdS.lits ue1x 3 [1] (by simp) #[.int .i64 1] rfl)
  have y2 := RdS.lits (ue1x.alloc (.cells #[.int .i64 1] 3)) 3 [0, 5] (by simp) #[.int .i64 0, .int .i64 5] rfl
  rw [size_one] at y2
  have hc := compare_any [1] [0, 5] _ _ ((ue1x.alloc (.cells #[.int .i64 1] 3)).alloc (.cells #[.int .i64 0, .int .i64 5] 3)) y1 y2
  rw [show cmpL [1] [0, 5] = 1 from rfl] at hc
  go_wp2_with fail
  refine hc.mono ?_
  clear hc y1 y2
  rintro e ue2x ⟨r, rfl, rfl, hE⟩
  have D : Ext ue1x ue2x := (((Ext.refl ue1x).alloc _).alloc _).trans hE
  replace E := E.trans D
  clear hE D
  have y1 := RdS.ext ((Ext.refl _).alloc (.cells #[.int .i64 0, .int .i64 2, .int .i64 1] 3)) (RdS.lits ue2x 3 [0, 2] (by simp) #[.int .i64 0, .int .i64 2] rfl)
  have y2 := RdS.lits (ue2x.alloc (.cells #[.int .i64 0, .int .i64 2] 3)) 3 [0, 2, 1] (by simp) #[.int .i64 0, .int .i64 2, .int .i64 1] rfl
  rw [size_one] at y2
  have hc := pathWithin_any [0, 2] [0, 2, 1] _ _ ((ue2x.alloc (.cells #[.int .i64 0, .int .i64 2] 3)).alloc (.cells #[.int .i64 0, .int .i64 2, .int .i64 1] 3)) y1 y2
  rw [show within [0, 2] [0, 2, 1] = true from rfl] at hc
  go_wp2_with fail
  refine hc.mono ?_
  clear hc y1 y2
  rintro e uf0x ⟨r, rfl, rfl, hE⟩
  have D : Ext ue2x uf0x := (((Ext.refl ue2x).alloc _).alloc _).trans hE
  replace E := E.trans D
  clear hE D
  have y1 := RdS.ext ((Ext.refl _).alloc (.cells #[.int .i64 0, .int .i64 3] 3)) (RdS.lits uf0x 3 [0, 2] (by simp) #[.int .i64 0, .int .i64 2] rfl)
  have y2 := RdS.lits (uf0x.alloc (.cells #[.int .i64 0, .int .i64 2] 3)) 3 [0, 3] (by simp) #[.int .i64 0, .int .i64 3] rfl
  rw [size_one] at y2
  have hc := pathWithin_any [0, 2] [0, 3] _ _ ((uf0x.alloc (.cells #[.int .i64 0, .int .i64 2] 3)).alloc (.cells #[.int .i64 0, .int .i64 3] 3)) y1 y2
  rw [show within [0, 2] [0, 3] = false from rfl] at hc
  go_wp2_with fail
  refine hc.mono ?_
  clear hc y1 y2
  rintro e uf1x ⟨r, rfl, rfl, hE⟩
  have D : Ext uf0x uf1x := (((Ext.refl uf0x).alloc _).alloc _).trans hE
  replace E := E.trans D
  clear hE D
  have hc := pathMay_any [] _ uf1x (RdS.nil_ _ _)
  rw [show may [] = true from rfl] at hc
  go_wp2_with fail
  refine hc.mono ?_
  clear hc
  rintro e ug ⟨r, rfl, rfl, hE⟩
  go_wp2_with fail
  go_ret
  exact ret_bool (by rfl) (E.trans hE)
end Go.Proofs.Ytbabfeepmaipoaa.Pt
