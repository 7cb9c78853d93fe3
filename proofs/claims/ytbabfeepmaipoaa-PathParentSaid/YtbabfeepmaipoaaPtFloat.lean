/- Chapter 04: floats that are whole numbers; a shift's parts. -/
import Derived.Test.YtbabfeepmaipoaaPtMay2
import Derived.WalkLawsBesides
import Derived.Laws.Externs
import Derived.Laws.FloatArith
namespace Go.Proofs.Ytbabfeepmaipoaa.Pt
open Go.RowKit Go.Proofs.Ytbabfeepmaipoaa.Bw Go.Proofs.Ytbabfeepmaipoaa.Bs

def ford (x y : Nat) : Option Ordering := FloatKind.f64.format.order x y
def fge (x y : Nat) : Bool := ford x y == some .gt || ford x y == some .eq
def fle (x y : Nat) : Bool := ford x y == some .lt || ford x y == some .eq
def feq (x y : Nat) : Bool := ford x y == some .eq
def ftr (x : Nat) : Nat := FloatKind.f64.encode ((FloatKind.f64.decode x).integral .zero)
theorem not_nan {x y : Nat} (h : fge x y = true) : (FloatKind.f64.decode x).isNaN = false := by
  unfold fge ford Ieee.Format.order at h
  cases hx : FloatKind.f64.decode x with
  | nan s t =>
    have : FloatKind.f64.format.read x = .nan s t := hx
    rw [this] at h
    cases hy : FloatKind.f64.format.read y <;> rw [hy] at h <;> simp [Ieee.Datum.order] at h
  | number s m e => rfl
  | infinity s => rfl

theorem run_trunc (x : Nat) (h : (FloatKind.f64.decode x).isNaN = false) (w : World) : (callFunc 46 #[.float .f64 x]).run Try.prog w = .ok (.value (.float .f64 (ftr x))) w := by
  rw [run_callFunc_extern (fn := Try.f46) (e := Extern.MathFloor.toIntegral "math.archTrunc" .zero) Try.func46 (by kernel_rfl) (by kernel_rfl) (by kernel_rfl) (by kernel_rfl)]
  obtain ⟨f, hf⟩ : ∃ f : Bool → Nat → Sem Value, Extern.MathFloor.toIntegral "math.archTrunc" .zero #[.float .f64 x] = (match FloatKind.f64.decode x with
    | .nan s t => f s t
    | d => pure (.float .f64 (FloatKind.f64.encode (d.integral .zero)))) := ⟨_, rfl⟩
  rw [hf]
  unfold ftr
  cases hx : FloatKind.f64.decode x with
  | nan s t => rw [hx] at h; cases h
  | number s m e => rfl
  | infinity s => rfl

set_option maxRecDepth 100000 in
set_option maxHeartbeats 1000000 in
theorem trunc_any (x : Nat) (h : (FloatKind.f64.decode x).isNaN = false) (w : World) : Calls Try.prog 44 #[.float .f64 x] w (Ret w fun r _ => r = .float .f64 (ftr x)) := by
  have ht := run_trunc x h
  go_enter Try.func44, Try.ntmps44
  go_wp2_with fail
  go_ret
  exact ⟨_, rfl, rfl, Ext.refl w⟩

set_option maxRecDepth 100000 in
set_option maxHeartbeats 1000000 in
theorem whole_any (x a b : Nat) (w : World) : Calls Try.prog 43 #[.float .f64 x, .float .f64 a, .float .f64 b] w (Ret w fun r _ => r = .bool (fge x a && fle x b && feq (ftr x) x)) := by
  rcases h1 : fge x a with _ | _
  · have h1' : (FloatKind.f64.format.order x a == some .gt || FloatKind.f64.format.order x a == some .eq) = false := h1
    go_enter Try.func43, Try.ntmps43
    go_wp2_with fail
    go_ret
    exact ret_bool (by rfl) (Ext.refl w)
  have h1' : (FloatKind.f64.format.order x a == some .gt || FloatKind.f64.format.order x a == some .eq) = true := h1
  rcases h2 : fle x b with _ | _
  · have h2' : (FloatKind.f64.format.order x b == some .lt || FloatKind.f64.format.order x b == some .eq) = false := h2
    go_enter Try.func43, Try.ntmps43
    go_wp2_with fail
    go_ret
    exact ret_bool (by rfl) (Ext.refl w)
  have h2' : (FloatKind.f64.format.order x b == some .lt || FloatKind.f64.format.order x b == some .eq) = true := h2
  have ht := trunc_any x (not_nan h1)
  go_enter Try.func43, Try.ntmps43
  go_wp2_with (go_at_call 44; refine (ht _).mono ?_; clear ht; rintro e u ⟨r, rfl, rfl, hE⟩)
  go_ret
  exact ret_bool (by rfl) hE

/-- A float as an integer. -/
abbrev fint (x : Nat) : Option Int := floatToIntVal .f64 x .i64
def im0 : Nat := 0
def im1 : Nat := 4634063279075885056
def re0 : Nat := 13920626439612268544
def re1 : Nat := 4697254402757492736
/-- May a shift be? -/
def pOk (re im : Nat) : Bool := (fge im im0 && fle im im1 && feq (ftr im) im) && (fge re re0 && fle re re1 && feq (ftr re) re)

set_option maxRecDepth 100000 in
set_option maxHeartbeats 1000000 in
theorem parts_no (re im : Nat) (w : World) (h : pOk re im = false) : Calls Try.prog 40 #[.complex .f64 re im] w (Ret w fun r _ => r = .tuple #[.int .i64 0, .int .i64 0, .bool false]) := by
  have hc1 := whole_any im im0 im1
  have hc2 := whole_any re re0 re1
  unfold pOk at h
  generalize (fge im im0 && fle im im1 && feq (ftr im) im) = b1 at *
  generalize (fge re re0 && fle re re1 && feq (ftr re) re) = b2 at *
  rcases b1 with _ | _
  · clear hc2 h
    go_enter Try.func40, Try.ntmps40
    go_wp2_with (go_at_call 43; refine (hc1 _).mono ?_; clear hc1; rintro e u ⟨r, rfl, rfl, hE⟩)
    go_ret3
    exact ⟨_, rfl, rfl, hE⟩
  · obtain rfl : b2 = false := by simpa using h
    clear h
    go_enter Try.func40, Try.ntmps40
    go_wp2_with (first | (go_at_call 43; refine (hc1 _).mono ?_; clear hc1; rintro e u ⟨r, rfl, rfl, hE⟩) | (go_at_call 43; refine (hc2 _).mono ?_; clear hc2; rintro e u2 ⟨r, rfl, rfl, hE2⟩))
    go_ret3
    exact ⟨_, rfl, rfl, hE.trans hE2⟩
set_option maxRecDepth 100000 in
set_option maxHeartbeats 1000000 in
theorem parts_yes (re im : Nat) (n m : Int) (w : World) (h : pOk re im = true) (hn : fint im = some n) (hm : fint re = some m) : Calls Try.prog 40 #[.complex .f64 re im] w (Ret w fun r _ => r = .tuple #[.int .i64 n, .int .i64 m, .bool true]) := by
  have hc1 := whole_any im im0 im1
  have hc2 := whole_any re re0 re1
  unfold pOk at h
  rw [Bool.and_eq_true] at h
  rw [h.1] at hc1
  rw [h.2] at hc2
  clear h
  have hv1 := fun wx => run_convert_float_int (P := Try.prog) wx 37 3 .f64 .i64 im n (by kernel_rfl) Try.underlying3 hn
  have hv2 := fun wx => run_convert_float_int (P := Try.prog) wx 37 3 .f64 .i64 re m (by kernel_rfl) Try.underlying3 hm
  clear hn hm
  go_enter Try.func40, Try.ntmps40
  go_wp2_with (first | (go_at_call 43; refine (hc1 _).mono ?_; clear hc1; rintro e u ⟨r, rfl, rfl, hE⟩) | (go_at_call 43; refine (hc2 _).mono ?_; clear hc2; rintro e u2 ⟨r, rfl, rfl, hE2⟩))
  go_ret3
  exact ⟨_, rfl, rfl, hE.trans hE2⟩
end Go.Proofs.Ytbabfeepmaipoaa.Pt
