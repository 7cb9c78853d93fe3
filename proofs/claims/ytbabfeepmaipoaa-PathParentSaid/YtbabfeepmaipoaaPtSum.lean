/- Chapter 04: the sum of the chapter's example. -/
import Derived.Test.YtbabfeepmaipoaaPtBtw
import Derived.Laws.Rows
namespace Go.Proofs.Ytbabfeepmaipoaa.Pt
open Go.RowKit Go.Proofs.Ytbabfeepmaipoaa.Bw Go.Proofs.Ytbabfeepmaipoaa.Bs

def NBox (W : World) (B : Nat) (t : TypeId) (cs : Array Value) : Prop := W.heap[B]? = some (.cells cs t (0, 0))
theorem NBox.new (W : World) (t : TypeId) (cs : Array Value) : NBox (W.alloc (.cells cs t)) W.heap.size t cs := World.alloc_heap_new W _
theorem NBox.cell {W : World} {B : Nat} {t : TypeId} {cs : Array Value} (h : NBox W B t cs) (i : Nat) : W.cell? ⟨B, i, none⟩ = cs[i]? := cell_of_blk h
theorem NBox.ext {W W' : World} (he : Ext W W') {B : Nat} {t : TypeId} {cs : Array Value} (h : NBox W B t cs) : NBox W' B t cs := (he.block B (Array.getElem?_eq_some_iff.1 h).1).trans h
theorem NBox.set {W : World} {B : Nat} {t : TypeId} {cs : Array Value} (h : NBox W B t cs) (i : Nat) (u : Value) : NBox (W.setCell ⟨B, i, none⟩ u) B t (cs.setIfInBounds i u) := by
  unfold NBox at h ⊢
  simp [World.setCell, Array.getElem?_modify, h]
theorem NBox.frozen {W : World} {B : Nat} {t : TypeId} {cs : Array Value} (h : NBox W B t cs) (i : Nat) : W.frozen? ⟨B, i, none⟩ = false := by
  unfold NBox at h; simp [World.frozen?, h]
theorem NBox.lt {W : World} {B : Nat} {t : TypeId} {cs : Array Value} (h : NBox W B t cs) : B < W.heap.size := (Array.getElem?_eq_some_iff.1 h).1

theorem T38 : SliceT Try.prog 38 25 (.complex .f64 0 0) 1 16 := SliceT.mk' Try.underlying38 (by kernel_rfl) rfl (by decide)
theorem info52 : (Try.prog.info? 52).map (·.size) = some 64 := by kernel_rfl
/-- The sums behind so many shifts. -/
def sm : Nat → Array Value
  | 0 => Array.replicate 64 (.int .i64 0)
  | 1 => (Array.replicate 64 (.int .i64 0)).setIfInBounds 0 (.int .i64 1)
  | 2 => ((Array.replicate 64 (.int .i64 0)).setIfInBounds 0 (.int .i64 1)).setIfInBounds 3 (.int .i64 2)
  | _ => (((Array.replicate 64 (.int .i64 0)).setIfInBounds 0 (.int .i64 1)).setIfInBounds 3 (.int .i64 2)).setIfInBounds 0 (.int .i64 0)
def z1 : Value := .complex .f64 4607182418800017408 0
def z2 : Value := .complex .f64 4611686018427387904 4613937818241073152
def z3 : Value := .complex .f64 13830554455654793216 0

theorem ok1 : pOk 4607182418800017408 0 = true := by kernel_rfl
theorem ok2 : pOk 4611686018427387904 4613937818241073152 = true := by kernel_rfl
theorem ok3 : pOk 13830554455654793216 0 = true := by kernel_rfl
theorem i0 : fint 0 = some 0 := by kernel_rfl
theorem i3 : fint 4613937818241073152 = some 3 := by kernel_rfl
theorem r1 : fint 4607182418800017408 = some 1 := by kernel_rfl
theorem r2 : fint 4611686018427387904 = some 2 := by kernel_rfl
theorem r3 : fint 13830554455654793216 = some (-1) := by kernel_rfl
theorem f2 : floatOfInt .f64 2 = 4611686018427387904 := by kernel_rfl
theorem f3 : floatOfInt .f64 3 = 4613937818241073152 := by kernel_rfl
/-- The sum at a place. -/
def sl (i : Nat) : Int := if i = 3 then 2 else 0
theorem sm_at0 (w : World) : (Instr.index 52 (.agg (sm 3)) (.int .i64 (0 : Nat))).run Try.prog w = .ok (.int .i64 (sl 0)) w := by kernel_rfl
theorem sm_at1 (w : World) : (Instr.index 52 (.agg (sm 3)) (.int .i64 (1 : Nat))).run Try.prog w = .ok (.int .i64 (sl 1)) w := by kernel_rfl
theorem sm_at2 (w : World) : (Instr.index 52 (.agg (sm 3)) (.int .i64 (2 : Nat))).run Try.prog w = .ok (.int .i64 (sl 2)) w := by kernel_rfl
theorem sm_at3 (w : World) : (Instr.index 52 (.agg (sm 3)) (.int .i64 (3 : Nat))).run Try.prog w = .ok (.int .i64 (sl 3)) w := by kernel_rfl
theorem sm_at4 (w : World) : (Instr.index 52 (.agg (sm 3)) (.int .i64 (4 : Nat))).run Try.prog w = .ok (.int .i64 (sl 4)) w := by kernel_rfl
theorem sm_at5 (w : World) : (Instr.index 52 (.agg (sm 3)) (.int .i64 (5 : Nat))).run Try.prog w = .ok (.int .i64 (sl 5)) w := by kernel_rfl
theorem sm_at6 (w : World) : (Instr.index 52 (.agg (sm 3)) (.int .i64 (6 : Nat))).run Try.prog w = .ok (.int .i64 (sl 6)) w := by kernel_rfl
theorem sm_at7 (w : World) : (Instr.index 52 (.agg (sm 3)) (.int .i64 (7 : Nat))).run Try.prog w = .ok (.int .i64 (sl 7)) w := by kernel_rfl
theorem sm_at8 (w : World) : (Instr.index 52 (.agg (sm 3)) (.int .i64 (8 : Nat))).run Try.prog w = .ok (.int .i64 (sl 8)) w := by kernel_rfl
theorem sm_at9 (w : World) : (Instr.index 52 (.agg (sm 3)) (.int .i64 (9 : Nat))).run Try.prog w = .ok (.int .i64 (sl 9)) w := by kernel_rfl
theorem sm_at10 (w : World) : (Instr.index 52 (.agg (sm 3)) (.int .i64 (10 : Nat))).run Try.prog w = .ok (.int .i64 (sl 10)) w := by kernel_rfl
theorem sm_at11 (w : World) : (Instr.index 52 (.agg (sm 3)) (.int .i64 (11 : Nat))).run Try.prog w = .ok (.int .i64 (sl 11)) w := by kernel_rfl
theorem sm_at12 (w : World) : (Instr.index 52 (.agg (sm 3)) (.int .i64 (12 : Nat))).run Try.prog w = .ok (.int .i64 (sl 12)) w := by kernel_rfl
theorem sm_at13 (w : World) : (Instr.index 52 (.agg (sm 3)) (.int .i64 (13 : Nat))).run Try.prog w = .ok (.int .i64 (sl 13)) w := by kernel_rfl
theorem sm_at14 (w : World) : (Instr.index 52 (.agg (sm 3)) (.int .i64 (14 : Nat))).run Try.prog w = .ok (.int .i64 (sl 14)) w := by kernel_rfl
theorem sm_at15 (w : World) : (Instr.index 52 (.agg (sm 3)) (.int .i64 (15 : Nat))).run Try.prog w = .ok (.int .i64 (sl 15)) w := by kernel_rfl
theorem sm_at16 (w : World) : (Instr.index 52 (.agg (sm 3)) (.int .i64 (16 : Nat))).run Try.prog w = .ok (.int .i64 (sl 16)) w := by kernel_rfl
theorem sm_at17 (w : World) : (Instr.index 52 (.agg (sm 3)) (.int .i64 (17 : Nat))).run Try.prog w = .ok (.int .i64 (sl 17)) w := by kernel_rfl
theorem sm_at18 (w : World) : (Instr.index 52 (.agg (sm 3)) (.int .i64 (18 : Nat))).run Try.prog w = .ok (.int .i64 (sl 18)) w := by kernel_rfl
theorem sm_at19 (w : World) : (Instr.index 52 (.agg (sm 3)) (.int .i64 (19 : Nat))).run Try.prog w = .ok (.int .i64 (sl 19)) w := by kernel_rfl
theorem sm_at20 (w : World) : (Instr.index 52 (.agg (sm 3)) (.int .i64 (20 : Nat))).run Try.prog w = .ok (.int .i64 (sl 20)) w := by kernel_rfl
theorem sm_at21 (w : World) : (Instr.index 52 (.agg (sm 3)) (.int .i64 (21 : Nat))).run Try.prog w = .ok (.int .i64 (sl 21)) w := by kernel_rfl
theorem sm_at22 (w : World) : (Instr.index 52 (.agg (sm 3)) (.int .i64 (22 : Nat))).run Try.prog w = .ok (.int .i64 (sl 22)) w := by kernel_rfl
theorem sm_at23 (w : World) : (Instr.index 52 (.agg (sm 3)) (.int .i64 (23 : Nat))).run Try.prog w = .ok (.int .i64 (sl 23)) w := by kernel_rfl
theorem sm_at24 (w : World) : (Instr.index 52 (.agg (sm 3)) (.int .i64 (24 : Nat))).run Try.prog w = .ok (.int .i64 (sl 24)) w := by kernel_rfl
theorem sm_at25 (w : World) : (Instr.index 52 (.agg (sm 3)) (.int .i64 (25 : Nat))).run Try.prog w = .ok (.int .i64 (sl 25)) w := by kernel_rfl
theorem sm_at26 (w : World) : (Instr.index 52 (.agg (sm 3)) (.int .i64 (26 : Nat))).run Try.prog w = .ok (.int .i64 (sl 26)) w := by kernel_rfl
theorem sm_at27 (w : World) : (Instr.index 52 (.agg (sm 3)) (.int .i64 (27 : Nat))).run Try.prog w = .ok (.int .i64 (sl 27)) w := by kernel_rfl
theorem sm_at28 (w : World) : (Instr.index 52 (.agg (sm 3)) (.int .i64 (28 : Nat))).run Try.prog w = .ok (.int .i64 (sl 28)) w := by kernel_rfl
theorem sm_at29 (w : World) : (Instr.index 52 (.agg (sm 3)) (.int .i64 (29 : Nat))).run Try.prog w = .ok (.int .i64 (sl 29)) w := by kernel_rfl
theorem sm_at30 (w : World) : (Instr.index 52 (.agg (sm 3)) (.int .i64 (30 : Nat))).run Try.prog w = .ok (.int .i64 (sl 30)) w := by kernel_rfl
theorem sm_at31 (w : World) : (Instr.index 52 (.agg (sm 3)) (.int .i64 (31 : Nat))).run Try.prog w = .ok (.int .i64 (sl 31)) w := by kernel_rfl
theorem sm_at32 (w : World) : (Instr.index 52 (.agg (sm 3)) (.int .i64 (32 : Nat))).run Try.prog w = .ok (.int .i64 (sl 32)) w := by kernel_rfl
theorem sm_at33 (w : World) : (Instr.index 52 (.agg (sm 3)) (.int .i64 (33 : Nat))).run Try.prog w = .ok (.int .i64 (sl 33)) w := by kernel_rfl
theorem sm_at34 (w : World) : (Instr.index 52 (.agg (sm 3)) (.int .i64 (34 : Nat))).run Try.prog w = .ok (.int .i64 (sl 34)) w := by kernel_rfl
theorem sm_at35 (w : World) : (Instr.index 52 (.agg (sm 3)) (.int .i64 (35 : Nat))).run Try.prog w = .ok (.int .i64 (sl 35)) w := by kernel_rfl
theorem sm_at36 (w : World) : (Instr.index 52 (.agg (sm 3)) (.int .i64 (36 : Nat))).run Try.prog w = .ok (.int .i64 (sl 36)) w := by kernel_rfl
theorem sm_at37 (w : World) : (Instr.index 52 (.agg (sm 3)) (.int .i64 (37 : Nat))).run Try.prog w = .ok (.int .i64 (sl 37)) w := by kernel_rfl
theorem sm_at38 (w : World) : (Instr.index 52 (.agg (sm 3)) (.int .i64 (38 : Nat))).run Try.prog w = .ok (.int .i64 (sl 38)) w := by kernel_rfl
theorem sm_at39 (w : World) : (Instr.index 52 (.agg (sm 3)) (.int .i64 (39 : Nat))).run Try.prog w = .ok (.int .i64 (sl 39)) w := by kernel_rfl
theorem sm_at40 (w : World) : (Instr.index 52 (.agg (sm 3)) (.int .i64 (40 : Nat))).run Try.prog w = .ok (.int .i64 (sl 40)) w := by kernel_rfl
theorem sm_at41 (w : World) : (Instr.index 52 (.agg (sm 3)) (.int .i64 (41 : Nat))).run Try.prog w = .ok (.int .i64 (sl 41)) w := by kernel_rfl
theorem sm_at42 (w : World) : (Instr.index 52 (.agg (sm 3)) (.int .i64 (42 : Nat))).run Try.prog w = .ok (.int .i64 (sl 42)) w := by kernel_rfl
theorem sm_at43 (w : World) : (Instr.index 52 (.agg (sm 3)) (.int .i64 (43 : Nat))).run Try.prog w = .ok (.int .i64 (sl 43)) w := by kernel_rfl
theorem sm_at44 (w : World) : (Instr.index 52 (.agg (sm 3)) (.int .i64 (44 : Nat))).run Try.prog w = .ok (.int .i64 (sl 44)) w := by kernel_rfl
theorem sm_at45 (w : World) : (Instr.index 52 (.agg (sm 3)) (.int .i64 (45 : Nat))).run Try.prog w = .ok (.int .i64 (sl 45)) w := by kernel_rfl
theorem sm_at46 (w : World) : (Instr.index 52 (.agg (sm 3)) (.int .i64 (46 : Nat))).run Try.prog w = .ok (.int .i64 (sl 46)) w := by kernel_rfl
theorem sm_at47 (w : World) : (Instr.index 52 (.agg (sm 3)) (.int .i64 (47 : Nat))).run Try.prog w = .ok (.int .i64 (sl 47)) w := by kernel_rfl
theorem sm_at48 (w : World) : (Instr.index 52 (.agg (sm 3)) (.int .i64 (48 : Nat))).run Try.prog w = .ok (.int .i64 (sl 48)) w := by kernel_rfl
theorem sm_at49 (w : World) : (Instr.index 52 (.agg (sm 3)) (.int .i64 (49 : Nat))).run Try.prog w = .ok (.int .i64 (sl 49)) w := by kernel_rfl
theorem sm_at50 (w : World) : (Instr.index 52 (.agg (sm 3)) (.int .i64 (50 : Nat))).run Try.prog w = .ok (.int .i64 (sl 50)) w := by kernel_rfl
theorem sm_at51 (w : World) : (Instr.index 52 (.agg (sm 3)) (.int .i64 (51 : Nat))).run Try.prog w = .ok (.int .i64 (sl 51)) w := by kernel_rfl
theorem sm_at52 (w : World) : (Instr.index 52 (.agg (sm 3)) (.int .i64 (52 : Nat))).run Try.prog w = .ok (.int .i64 (sl 52)) w := by kernel_rfl
theorem sm_at53 (w : World) : (Instr.index 52 (.agg (sm 3)) (.int .i64 (53 : Nat))).run Try.prog w = .ok (.int .i64 (sl 53)) w := by kernel_rfl
theorem sm_at54 (w : World) : (Instr.index 52 (.agg (sm 3)) (.int .i64 (54 : Nat))).run Try.prog w = .ok (.int .i64 (sl 54)) w := by kernel_rfl
theorem sm_at55 (w : World) : (Instr.index 52 (.agg (sm 3)) (.int .i64 (55 : Nat))).run Try.prog w = .ok (.int .i64 (sl 55)) w := by kernel_rfl
theorem sm_at56 (w : World) : (Instr.index 52 (.agg (sm 3)) (.int .i64 (56 : Nat))).run Try.prog w = .ok (.int .i64 (sl 56)) w := by kernel_rfl
theorem sm_at57 (w : World) : (Instr.index 52 (.agg (sm 3)) (.int .i64 (57 : Nat))).run Try.prog w = .ok (.int .i64 (sl 57)) w := by kernel_rfl
theorem sm_at58 (w : World) : (Instr.index 52 (.agg (sm 3)) (.int .i64 (58 : Nat))).run Try.prog w = .ok (.int .i64 (sl 58)) w := by kernel_rfl
theorem sm_at59 (w : World) : (Instr.index 52 (.agg (sm 3)) (.int .i64 (59 : Nat))).run Try.prog w = .ok (.int .i64 (sl 59)) w := by kernel_rfl
theorem sm_at60 (w : World) : (Instr.index 52 (.agg (sm 3)) (.int .i64 (60 : Nat))).run Try.prog w = .ok (.int .i64 (sl 60)) w := by kernel_rfl
theorem sm_at61 (w : World) : (Instr.index 52 (.agg (sm 3)) (.int .i64 (61 : Nat))).run Try.prog w = .ok (.int .i64 (sl 61)) w := by kernel_rfl
theorem sm_at62 (w : World) : (Instr.index 52 (.agg (sm 3)) (.int .i64 (62 : Nat))).run Try.prog w = .ok (.int .i64 (sl 62)) w := by kernel_rfl
theorem sm_at63 (w : World) : (Instr.index 52 (.agg (sm 3)) (.int .i64 (63 : Nat))).run Try.prog w = .ok (.int .i64 (sl 63)) w := by kernel_rfl
theorem sm_at (i : Nat) (h : i < 64) (w : World) : (Instr.index 52 (.agg (sm 3)) (.int .i64 i)).run Try.prog w = .ok (.int .i64 (sl i)) w := by
  have hh : i = 0 ∨ i = 1 ∨ i = 2 ∨ i = 3 ∨ i = 4 ∨ i = 5 ∨ i = 6 ∨ i = 7 ∨ i = 8 ∨ i = 9 ∨ i = 10 ∨ i = 11 ∨ i = 12 ∨ i = 13 ∨ i = 14 ∨ i = 15 ∨ i = 16 ∨ i = 17 ∨ i = 18 ∨ i = 19 ∨ i = 20 ∨ i = 21 ∨ i = 22 ∨ i = 23 ∨ i = 24 ∨ i = 25 ∨ i = 26 ∨ i = 27 ∨ i = 28 ∨ i = 29 ∨ i = 30 ∨ i = 31 ∨ i = 32 ∨ i = 33 ∨ i = 34 ∨ i = 35 ∨ i = 36 ∨ i = 37 ∨ i = 38 ∨ i = 39 ∨ i = 40 ∨ i = 41 ∨ i = 42 ∨ i = 43 ∨ i = 44 ∨ i = 45 ∨ i = 46 ∨ i = 47 ∨ i = 48 ∨ i = 49 ∨ i = 50 ∨ i = 51 ∨ i = 52 ∨ i = 53 ∨ i = 54 ∨ i = 55 ∨ i = 56 ∨ i = 57 ∨ i = 58 ∨ i = 59 ∨ i = 60 ∨ i = 61 ∨ i = 62 ∨ i = 63 := by omega
  rcases hh with rfl | rfl | rfl | rfl | rfl | rfl | rfl | rfl | rfl | rfl | rfl | rfl | rfl | rfl | rfl | rfl | rfl | rfl | rfl | rfl | rfl | rfl | rfl | rfl | rfl | rfl | rfl | rfl | rfl | rfl | rfl | rfl | rfl | rfl | rfl | rfl | rfl | rfl | rfl | rfl | rfl | rfl | rfl | rfl | rfl | rfl | rfl | rfl | rfl | rfl | rfl | rfl | rfl | rfl | rfl | rfl | rfl | rfl | rfl | rfl | rfl | rfl | rfl | rfl
  · exact sm_at0 w
  · exact sm_at1 w
  · exact sm_at2 w
  · exact sm_at3 w
  · exact sm_at4 w
  · exact sm_at5 w
  · exact sm_at6 w
  · exact sm_at7 w
  · exact sm_at8 w
  · exact sm_at9 w
  · exact sm_at10 w
  · exact sm_at11 w
  · exact sm_at12 w
  · exact sm_at13 w
  · exact sm_at14 w
  · exact sm_at15 w
  · exact sm_at16 w
  · exact sm_at17 w
  · exact sm_at18 w
  · exact sm_at19 w
  · exact sm_at20 w
  · exact sm_at21 w
  · exact sm_at22 w
  · exact sm_at23 w
  · exact sm_at24 w
  · exact sm_at25 w
  · exact sm_at26 w
  · exact sm_at27 w
  · exact sm_at28 w
  · exact sm_at29 w
  · exact sm_at30 w
  · exact sm_at31 w
  · exact sm_at32 w
  · exact sm_at33 w
  · exact sm_at34 w
  · exact sm_at35 w
  · exact sm_at36 w
  · exact sm_at37 w
  · exact sm_at38 w
  · exact sm_at39 w
  · exact sm_at40 w
  · exact sm_at41 w
  · exact sm_at42 w
  · exact sm_at43 w
  · exact sm_at44 w
  · exact sm_at45 w
  · exact sm_at46 w
  · exact sm_at47 w
  · exact sm_at48 w
  · exact sm_at49 w
  · exact sm_at50 w
  · exact sm_at51 w
  · exact sm_at52 w
  · exact sm_at53 w
  · exact sm_at54 w
  · exact sm_at55 w
  · exact sm_at56 w
  · exact sm_at57 w
  · exact sm_at58 w
  · exact sm_at59 w
  · exact sm_at60 w
  · exact sm_at61 w
  · exact sm_at62 w
  · exact sm_at63 w

set_option maxRecDepth 100000 in
set_option maxHeartbeats 4000000 in
theorem sum_x (v : Value) (w : World) (h : RdS w 1 3 [z1, z2, z3] v) : Calls Try.prog 33 #[v] w (Ret w fun r w' => ∃ r', r = .tuple #[r', .int .i64 0] ∧ w'.ownsRow w.heap.size 25 1 r' 1 [z2]) := by
  obtain ⟨A, c, rfl, _, a1, a2, a3⟩ := h
  unfold maxLen at a2
  obtain ⟨b, off, rfl, ra⟩ := a3 (by omega)
  have e1 : w.cell? ⟨b, off, none⟩ = some z1 := by simpa using ra 0 z1 rfl
  have e2 := ra 1 z2 rfl
  have e3 := ra 2 z3 rfl
  unfold z1 at e1
  unfold z2 at e2
  unfold z3 at e3
  clear ra a3
  go_enter Try.func33, Try.ntmps33
  go_wp2_with fail
  refine wp_scope_fwd 0 rfl ?_
  go_wp2_with fail
  go_loopw [18] (fun s18 wr => ∃ i : Nat, s18 = .int .i64 i ∧ i ≤ 3 ∧ NBox wr w.heap.size 52 (sm i) ∧ Ext w wr) (fun i _ => 3 - (intOf i).toNat)
  case atStart => exact ⟨0, rfl, by omega, NBox.new w 52 (sm 0), (Ext.refl w).alloc _⟩
  case round =>
    obtain ⟨i, rfl, hi, hN, hX⟩ := hrel
    have hi4 : i = 0 ∨ i = 1 ∨ i = 2 ∨ i = 3 := by omega
    rcases hi4 with rfl | rfl | rfl | rfl
    · have g := hX.cell e1
      have hc := fun W => parts_yes 4607182418800017408 0 0 (1) W ok1 i0 r1
      clear e1 e2 e3
      go_wp2_with (go_at_call 40; refine (hc _).mono ?_; clear hc; rintro e uu ⟨r, rfl, rfl, hE⟩; have N2 := NBox.ext hE hN; have g1 : uu.cell? ⟨w.heap.size, 0, none⟩ = some (.int .i64 0) := (by rw [NBox.cell N2]; rfl); have g2 := NBox.frozen N2 0)
      go_roundw
      case rel => exact ⟨1, rfl, by omega, NBox.set N2 0 _, Below.setCell (hX.trans hE) (p := ⟨w.heap.size, 0, none⟩) (Nat.le_refl _) _⟩
      case measure => simp [intOf]
    · have g := hX.cell e2
      have hc := fun W => parts_yes 4611686018427387904 4613937818241073152 3 (2) W ok2 i3 r2
      clear e1 e2 e3
      go_wp2_with (go_at_call 40; refine (hc _).mono ?_; clear hc; rintro e uu ⟨r, rfl, rfl, hE⟩; have N2 := NBox.ext hE hN; have g1 : uu.cell? ⟨w.heap.size, 3, none⟩ = some (.int .i64 0) := (by rw [NBox.cell N2]; rfl); have g2 := NBox.frozen N2 3)
      go_roundw
      case rel => exact ⟨2, rfl, by omega, NBox.set N2 3 _, Below.setCell (hX.trans hE) (p := ⟨w.heap.size, 3, none⟩) (Nat.le_refl _) _⟩
      case measure => simp [intOf]
    · have g := hX.cell e3
      have hc := fun W => parts_yes 13830554455654793216 0 0 (-1) W ok3 i0 r3
      clear e1 e2 e3
      go_wp2_with (go_at_call 40; refine (hc _).mono ?_; clear hc; rintro e uu ⟨r, rfl, rfl, hE⟩; have N2 := NBox.ext hE hN; have g1 : uu.cell? ⟨w.heap.size, 0, none⟩ = some (.int .i64 1) := (by rw [NBox.cell N2]; rfl); have g2 := NBox.frozen N2 0)
      go_roundw
      case rel => exact ⟨3, rfl, by omega, NBox.set N2 0 _, Below.setCell (hX.trans hE) (p := ⟨w.heap.size, 0, none⟩) (Nat.le_refl _) _⟩
      case measure => simp [intOf]
    · clear e1 e2 e3
      go_wp2_with (refine wpList_load_row rfl 52 (.tmp 4) rfl w.heap.size rfl 52 (sm 3) (0, 0) _ hN Try.underlying52 rfl info52 ?_)
      go_loopw [5, 38] (fun s5 s38 wq => ∃ i : Nat, s38 = .int .i64 i ∧ i ≤ 64 ∧ wq.ownsRow wr.heap.size 25 1 s5 (if i ≤ 3 then 0 else 1) (if i ≤ 3 then [] else [z2]) ∧ Ext wr wq) (fun _ i _ => 64 - (intOf i).toNat)
      case atStart => exact ⟨0, rfl, by omega, ⟨rfl, .inl ⟨rfl, rfl⟩⟩, Ext.refl _⟩
      case round =>
        obtain ⟨k, rfl, hk, hown, hY⟩ := hrel
        have q1 : (0 : Int) ≤ (k : Int) := by omega
        rcases Nat.lt_or_ge k 64 with hlt | hlt
        · have q2 : (k : Int) < 64 := by omega
          by_cases hk3 : k = 3
          · have hidx : ∀ wx, (Instr.index 52 (.agg (sm 3)) (.int .i64 (k : Int))).run Try.prog wx = .ok (.int .i64 2) wx := fun wx => by
              have := sm_at k hlt wx
              rwa [show sl k = 2 from if_pos hk3] at this
            have f2' := f2
            have f3' : floatOfInt .f64 (k : Int) = 4613937818241073152 := by rw [hk3]; exact f3
            rw [if_pos (by omega), if_pos (by omega)] at hown
            have HK := Lib.hid hk3
            clear hk3
            go_wp2_with (first | (rw [H8.out]; clear H8) | (at_builtin; refine wpList_append_rd rfl rfl T38 (v := _) (by rfl) (owns_ext ((Ext.refl _).alloc _) hown) (by rfl) (RdS.one (cs := #[z2]) rfl) (fun u hu => by rw [List.mem_singleton.1 hu]; rfl) (by omega) (by simp only [maxLen]; omega) (hY.alloc _).size ?_; intro v9 w9 hown9 hg9 hat9))
            go_roundw
            case rel =>
              refine ⟨k + 1, by go_num, by omega, ?_, Ext.grown (hY.alloc _) hg9 (owns_base hown)⟩
              have hk3 := HK.out
              rw [if_neg (by omega), if_neg (by omega)]
              exact hown9
            case measure => simp [intOf]; omega
          · have hs0 : sl k = 0 := if_neg hk3
            have hidx := sm_at k hlt
            rw [hs0] at hidx
            have HK := Lib.hid hk3
            clear hs0 hk3
            go_wp2_with fail
            go_roundw
            case rel =>
              refine ⟨k + 1, by go_num, by omega, ?_, hY⟩
              have hk3 := HK.out
              have e : (k + 1 ≤ 3) = (k ≤ 3) := by apply propext; omega
              simp only [e]
              exact hown
            case measure => simp [intOf]; omega
        · have hk64 : k = 64 := by omega
          have q2 : decide ((k : Int) < 64) = false := decide_eq_false (by omega)
          have q2' : decide (k < 64) = false := decide_eq_false (by omega)
          rw [if_neg (by omega), if_neg (by omega)] at hown
          go_wp2_with fail
          go_ret2
          exact ⟨_, rfl, ⟨_, rfl, owns_mono hown hX.size⟩, hX.trans hY⟩
end Go.Proofs.Ytbabfeepmaipoaa.Pt
