/- A goto that jumps forward, out of a loop or not: what stands behind the label is walked where the jump is. -/
import Derived.ScopeJumps
import Derived.WalkMore
import Derived.Test.YtdnjkffmgmbfmaaProg
import Derived.Test.YtdnjkffmgmbfmaaBsPlain
import Derived.BigQuiet
import Derived.Deep.QuietTactic
import Derived.Deep.AppendLies
import Derived.Deep.RegionHeld3
import Derived.WalkSpells
import Derived.Test.YtdnjkffmgmbfmaaHyBsMay2
namespace Go.Proofs.Ytdnjkffmgmbfmaa.Bs
/-- As Q; by a goto to label l: what stands behind the label, walked on. -/
def fwd (P : Program) (l : Nat) (rest : Code) (Q : Exit → Act → World → Prop) : Exit → Act → World → Prop
 | .goto l', a, w => l' = l ∧ rest.wp P (Exit.noGoto Q) a w
 | .normal, a, w => Q .normal a w
 | .exit i, a, w => Q (.exit i) a w
 | .ret, a, w => Q .ret a w
 | .panic c, a, w => Q (.panic c) a w
 | .outgrown, a, w => Q .outgrown a w
theorem wp_scope_fwd {P : Program} {a : Act} {w : World} {Q : Exit → Act → World → Prop} {c rest : Code} (l : Nat) (hf : findLabel c l = some rest) (h : c.wp P (fwd P l rest Q) a w) : (Code.scope c).wp P Q a w := by
 refine wp_scope_jumps l (fun a w => rest.wp P (Exit.noGoto Q) a w) (fun _ _ => 0) hf (wp_mono h (fun e a w q => ?_)) (fun a w hJ => wp_mono hJ (fun e a w q => ?_))
 ·cases e <;> exact q
 ·cases e <;> first | exact q | exact q.elim
theorem fwd_goto {P : Program} {l : Nat} {rest : Code} {Q : Exit → Act → World → Prop} {a : Act} {w : World} (h : rest.wp P (Exit.noGoto Q) a w) : fwd P l rest Q (.goto l) a w := ⟨rfl, h⟩
end Go.Proofs.Ytdnjkffmgmbfmaa.Bs
namespace Go.Proofs.Ytdnjkffmgmbfmaa.Sy
open Go.RowKit Go.Proofs.Ytdnjkffmgmbfmaa.Bw Go.Proofs.Ytdnjkffmgmbfmaa.Bs
/-- A piece. -/
structure Pc where
 keep : Int
 drop : Int
 put : ByteArray
/-- A row of pieces from an address on. -/
def rdPcs (w : World) (b : Nat) : Nat → List Pc → Prop
 | _, [] => True
 | off, p :: r => w.cell? ⟨b, off, none⟩ = some (.int .i64 p.keep) ∧ w.cell? ⟨b, off + 1, none⟩ = some (.int .i64 p.drop) ∧ w.cell? ⟨b, off + 2, none⟩ = some (.string p.put) ∧ okStr p.put ∧ rdPcs w b (off + 3) r
/-- A slice value that reads as a row of pieces. -/
def RdP (w : World) (l : List Pc) (v : Value) : Prop :=
 ∃ A c, v = .slice A l.length c ∧ l.length ≤ c ∧ c ≤ maxLen ∧ (0 < l.length → ∃ b off, A = some ⟨b, off, none⟩ ∧ rdPcs w b off l)
theorem rdPcs_ext {w w' : World} (h : Ext w w') {b : Nat} : ∀ {off : Nat} {l : List Pc}, rdPcs w b off l → rdPcs w' b off l
 | _, [], _ => trivial
 | _, _ :: _, ⟨h1, h2, h3, h4, h5⟩ => ⟨h.cell h1, h.cell h2, h.cell h3, h4, rdPcs_ext h h5⟩
theorem RdP.ext {w w' : World} (h : Ext w w') {l : List Pc} {v : Value} (hr : RdP w l v) : RdP w' l v := by
 obtain ⟨A, c, e, h1, h2, h3⟩ := hr
 refine ⟨A, c, e, h1, h2, fun h0 => ?_⟩
 obtain ⟨b, off, h4, h5⟩ := h3 h0
 exact ⟨b, off, h4, rdPcs_ext h h5⟩
theorem rdPcs_at {w : World} {b : Nat} : ∀ {l : List Pc} {off i : Nat} {p : Pc}, rdPcs w b off l → l[i]? = some p →
  w.cell? ⟨b, off + i * 3, none⟩ = some (.int .i64 p.keep) ∧ w.cell? ⟨b, off + i * 3 + 1, none⟩ = some (.int .i64 p.drop) ∧ w.cell? ⟨b, off + i * 3 + 2, none⟩ = some (.string p.put) ∧ p.put.size ≤ maxLen
 | [], _, _, _, _, h => by simp at h
 | x :: r, off, 0, p, hr, h => by
  simp at h; obtain rfl := h
  obtain ⟨h1, h2, h3, h4, _⟩ := hr
  simpa using ⟨h1, h2, h3, h4⟩
 | x :: r, off, i + 1, p, hr, h => by
  obtain ⟨_, _, _, _, h5⟩ := hr
  have := rdPcs_at (i := i) h5 (by simpa using h)
  rw [show off + (i + 1) * 3 = off + 3 + i * 3 by omega]
  exact this
theorem cell_of_blk {W : World} {b i : Nat} {c : Array Value} {t : TypeId} {fz : Nat × Nat} (h : W.heap[b]? = some (.cells c t fz)) : W.cell? ⟨b, i, none⟩ = c[i]? := by
 simp [World.cell?, h]
/-- A box: a new block of cells. -/
def NBox (W : World) (B : Nat) (t : TypeId) (cs : Array Value) : Prop := W.heap[B]? = some (.cells cs t (0, 0))
theorem NBox.new (W : World) (t : TypeId) (cs : Array Value) : NBox (W.alloc (.cells cs t)) W.heap.size t cs := World.alloc_heap_new W _
theorem NBox.cell {W : World} {B : Nat} {t : TypeId} {cs : Array Value} (h : NBox W B t cs) (i : Nat) : W.cell? ⟨B, i, none⟩ = cs[i]? := cell_of_blk h
theorem NBox.c6 {W : World} {B : Nat} {t : TypeId} {x0 x1 x2 x3 x4 x5 : Value} (h : NBox W B t #[x0, x1, x2, x3, x4, x5]) : W.cell? ⟨B, 0, none⟩ = some x0 ∧ W.cell? ⟨B, 1, none⟩ = some x1 ∧ W.cell? ⟨B, 2, none⟩ = some x2 ∧ W.cell? ⟨B, 3, none⟩ = some x3 ∧ W.cell? ⟨B, 4, none⟩ = some x4 ∧ W.cell? ⟨B, 5, none⟩ = some x5 := ⟨h.cell 0, h.cell 1, h.cell 2, h.cell 3, h.cell 4, h.cell 5⟩
theorem NBox.c11 {W : World} {B : Nat} {t : TypeId} {x0 x1 x2 x3 x4 x5 x6 x7 x8 x9 x10 : Value} (h : NBox W B t #[x0, x1, x2, x3, x4, x5, x6, x7, x8, x9, x10]) : W.cell? ⟨B, 0, none⟩ = some x0 ∧ W.cell? ⟨B, 1, none⟩ = some x1 ∧ W.cell? ⟨B, 2, none⟩ = some x2 ∧ W.cell? ⟨B, 3, none⟩ = some x3 ∧ W.cell? ⟨B, 4, none⟩ = some x4 ∧ W.cell? ⟨B, 5, none⟩ = some x5 ∧ W.cell? ⟨B, 6, none⟩ = some x6 ∧ W.cell? ⟨B, 7, none⟩ = some x7 ∧ W.cell? ⟨B, 8, none⟩ = some x8 ∧ W.cell? ⟨B, 9, none⟩ = some x9 ∧ W.cell? ⟨B, 10, none⟩ = some x10 := ⟨h.cell 0, h.cell 1, h.cell 2, h.cell 3, h.cell 4, h.cell 5, h.cell 6, h.cell 7, h.cell 8, h.cell 9, h.cell 10⟩
theorem NBox.ext {W W' : World} (he : Ext W W') {B : Nat} {t : TypeId} {cs : Array Value} (h : NBox W B t cs) : NBox W' B t cs := (he.block B (Array.getElem?_eq_some_iff.1 h).1).trans h
def pcOk (p : Pc) : Bool := decide (0 ≤ p.keep) && decide (p.keep ≤ 1048576) && decide (0 ≤ p.drop) && decide (p.drop ≤ 1048576)
def pcsOk : Nat → List Pc → Bool
 | _, [] => true
 | n, p :: r => pcOk p && decide (n + p.put.size ≤ 1048576) && pcsOk (n + p.put.size) r
def pcsRight (l : List Pc) : Bool := decide (l.length ≤ 4096) && pcsOk 0 l
def putLen : List Pc → Nat
 | [] => 0
 | p :: r => p.put.size + putLen r
end Go.Proofs.Ytdnjkffmgmbfmaa.Sy
namespace Go.Proofs.Ytdnjkffmgmbfmaa.Sy
open Go.RowKit Go.Proofs.Ytdnjkffmgmbfmaa.Bw Go.Proofs.Ytdnjkffmgmbfmaa.Bs
theorem pcs_at {l : List Pc} {i : Nat} {p : Pc} (n : Nat) (h : l[i]? = some p) : pcsOk n (l.drop i) = (pcOk p && decide (n + p.put.size ≤ 1048576) && pcsOk (n + p.put.size) (l.drop (i + 1))) := by
 rw [drop_at h, pcsOk]
set_option maxRecDepth 100000 in
set_option maxHeartbeats 2000000 in
theorem right_any (l : List Pc) (v : Value) (w : World) (h : RdP w l v) : Calls Try.prog 66 #[v] w (Ret w fun r _ => r = .bool (pcsRight l)) := by
 obtain ⟨A, c, rfl, a1, a2, a3⟩ := h
 unfold maxLen at a2
 rcases Nat.lt_or_ge 4096 l.length with hl | hl
 ·have HF := Lib.hid (show pcsRight l = false by rw [pcsRight, decide_eq_false (by omega), Bool.false_and])
  have hd : decide ((4096 : Int) < (l.length : Int)) = true := decide_eq_true (by omega)
  go_enter Try.func66, Try.ntmps66
  go_wp2_with fail
  refine wp_scope_fwd 0 rfl ?_
  go_wp2_with fail
  go_step3
  (try simp only [Exit.then])
  refine fwd_goto ?_
  go_wp2_with fail
  rw [Exit.noGoto_ret]
  go_ret
  exact ret_bool HF.out.symm (Ext.refl w)
 have HF := Lib.hid (show pcsRight l = pcsOk 0 l by rw [pcsRight, decide_eq_true hl, Bool.true_and])
 have hd : decide ((4096 : Int) < (l.length : Int)) = false := decide_eq_false (by omega)
 go_enter Try.func66, Try.ntmps66
 go_wp2_with fail
 refine wp_scope_fwd 0 rfl ?_
 go_wp2_with fail
 go_loopw [3, 11] (fun s3 s11 wr => ∃ i n : Nat, s11 = .int .i64 i ∧ s3 = .int .i64 n ∧ i ≤ l.length ∧ n ≤ 1048576 ∧ Hid (pcsOk n (l.drop i) = pcsRight l) ∧ Ext w wr) (fun _ i _ => l.length - (intOf i).toNat)
 case atStart => exact ⟨0, 0, rfl, rfl, Nat.zero_le _, by omega, HF.out.symm, Ext.refl _⟩
 case round =>
  obtain ⟨i, n, rfl, rfl, hi, hn, HW, hE⟩ := hrel
  rcases Nat.lt_or_ge i l.length with hlt | hlt
  ·obtain ⟨p, hp⟩ : ∃ p, l[i]? = some p := ⟨_, List.getElem?_eq_getElem hlt⟩
   obtain ⟨ba, oa, rfl, ra⟩ := a3 (by omega)
   obtain ⟨e1, e2, e3, e4⟩ := rdPcs_at (rdPcs_ext hE ra) hp
   have HD := Lib.hid (pcs_at n hp)
   have q1 : (0 : Int) ≤ (i : Int) := by omega
   have q2 : (i : Int) < (l.length : Int) := by omega
   unfold maxLen at e4
   obtain ⟨kp, dp, pt⟩ := p
   simp only at e1 e2 e3 e4 HD
   clear hp ra a3 HF
   rcases Int.lt_trichotomy kp dp with hm | hm | hm
   ·rcases Int.lt_or_le (min kp dp) 0 with m1 | m1
    ·have HG : Hid (pcsRight l = false) := by
      rw [← HW.out, HD.out]
      have : pcOk ⟨kp, dp, pt⟩ = false := by simp [pcOk]; omega
      rw [this]; rfl
     have t1 : decide (kp < 0) = true := decide_eq_true (by omega)
     clear HW HD m1
     go_wp2_with fail
     go_step3
     (try simp only [Exit.then, Exit.inBlock])
     refine fwd_goto ?_
     go_wp2_with fail
     rw [Exit.noGoto_ret]
     go_ret
     exact ret_bool HG.out.symm (hE.alloc _)
    have t1 : decide (kp < 0) = false := decide_eq_false (by omega)
    rcases Int.lt_or_le 1048576 (max kp dp) with m2 | m2
    ·have HG : Hid (pcsRight l = false) := by
      rw [← HW.out, HD.out]
      have : pcOk ⟨kp, dp, pt⟩ = false := by simp [pcOk]; omega
      rw [this]; rfl
     have t2 : decide (1048576 < dp) = true := decide_eq_true (by omega)
     clear HW HD m1 m2
     go_wp2_with fail
     go_step3
     (try simp only [Exit.then, Exit.inBlock])
     refine fwd_goto ?_
     go_wp2_with fail
     rw [Exit.noGoto_ret]
     go_ret
     exact ret_bool HG.out.symm (hE.alloc _)
    have t2 : decide (1048576 < dp) = false := decide_eq_false (by omega)
    have hok : pcOk ⟨kp, dp, pt⟩ = true := by simp [pcOk]; omega
    rcases Nat.lt_or_ge 1048576 (n + pt.size) with m3 | m3
    ·have HG : Hid (pcsRight l = false) := by
      rw [← HW.out, HD.out, hok, decide_eq_false (by omega)]; rfl
     have t3 : decide ((1048576 : Int) - (n : Int) < (pt.size : Int)) = true := decide_eq_true (by omega)
     clear HW HD m1 m2
     go_wp2_with fail
     go_step3
     (try simp only [Exit.then, Exit.inBlock])
     refine fwd_goto ?_
     go_wp2_with fail
     rw [Exit.noGoto_ret]
     go_ret
     exact ret_bool HG.out.symm (hE.alloc _)
    ·have HN : Hid (pcsOk (n + pt.size) (l.drop (i + 1)) = pcsRight l) := by
      rw [← HW.out, HD.out, hok, decide_eq_true m3]; rfl
     have t3 : decide ((1048576 : Int) - (n : Int) < (pt.size : Int)) = false := decide_eq_false (by omega)
     clear HW HD m1 m2
     go_wp2_with fail
     go_roundw
     case rel => exact ⟨i + 1, n + pt.size, by go_num, by go_num, by omega, m3, HN, hE.alloc _⟩
     case measure => simp [intOf]; omega
   ·subst hm
    rcases Int.lt_or_le (min kp kp) 0 with m1 | m1
    ·have HG : Hid (pcsRight l = false) := by
      rw [← HW.out, HD.out]
      have : pcOk ⟨kp, kp, pt⟩ = false := by simp [pcOk]; omega
      rw [this]; rfl
     have t1 : decide (kp < 0) = true := decide_eq_true (by omega)
     clear HW HD m1
     go_wp2_with fail
     go_step3
     (try simp only [Exit.then, Exit.inBlock])
     refine fwd_goto ?_
     go_wp2_with fail
     rw [Exit.noGoto_ret]
     go_ret
     exact ret_bool HG.out.symm (hE.alloc _)
    have t1 : decide (kp < 0) = false := decide_eq_false (by omega)
    rcases Int.lt_or_le 1048576 (max kp kp) with m2 | m2
    ·have HG : Hid (pcsRight l = false) := by
      rw [← HW.out, HD.out]
      have : pcOk ⟨kp, kp, pt⟩ = false := by simp [pcOk]; omega
      rw [this]; rfl
     have t2 : decide (1048576 < kp) = true := decide_eq_true (by omega)
     clear HW HD m1 m2
     go_wp2_with fail
     go_step3
     (try simp only [Exit.then, Exit.inBlock])
     refine fwd_goto ?_
     go_wp2_with fail
     rw [Exit.noGoto_ret]
     go_ret
     exact ret_bool HG.out.symm (hE.alloc _)
    have t2 : decide (1048576 < kp) = false := decide_eq_false (by omega)
    have hok : pcOk ⟨kp, kp, pt⟩ = true := by simp [pcOk]; omega
    rcases Nat.lt_or_ge 1048576 (n + pt.size) with m3 | m3
    ·have HG : Hid (pcsRight l = false) := by
      rw [← HW.out, HD.out, hok, decide_eq_false (by omega)]; rfl
     have t3 : decide ((1048576 : Int) - (n : Int) < (pt.size : Int)) = true := decide_eq_true (by omega)
     clear HW HD m1 m2
     go_wp2_with fail
     go_step3
     (try simp only [Exit.then, Exit.inBlock])
     refine fwd_goto ?_
     go_wp2_with fail
     rw [Exit.noGoto_ret]
     go_ret
     exact ret_bool HG.out.symm (hE.alloc _)
    ·have HN : Hid (pcsOk (n + pt.size) (l.drop (i + 1)) = pcsRight l) := by
      rw [← HW.out, HD.out, hok, decide_eq_true m3]; rfl
     have t3 : decide ((1048576 : Int) - (n : Int) < (pt.size : Int)) = false := decide_eq_false (by omega)
     clear HW HD m1 m2
     go_wp2_with fail
     go_roundw
     case rel => exact ⟨i + 1, n + pt.size, by go_num, by go_num, by omega, m3, HN, hE.alloc _⟩
     case measure => simp [intOf]; omega
   ·rcases Int.lt_or_le (min kp dp) 0 with m1 | m1
    ·have HG : Hid (pcsRight l = false) := by
      rw [← HW.out, HD.out]
      have : pcOk ⟨kp, dp, pt⟩ = false := by simp [pcOk]; omega
      rw [this]; rfl
     have t1 : decide (dp < 0) = true := decide_eq_true (by omega)
     clear HW HD m1
     go_wp2_with fail
     go_step3
     (try simp only [Exit.then, Exit.inBlock])
     refine fwd_goto ?_
     go_wp2_with fail
     rw [Exit.noGoto_ret]
     go_ret
     exact ret_bool HG.out.symm (hE.alloc _)
    have t1 : decide (dp < 0) = false := decide_eq_false (by omega)
    rcases Int.lt_or_le 1048576 (max kp dp) with m2 | m2
    ·have HG : Hid (pcsRight l = false) := by
      rw [← HW.out, HD.out]
      have : pcOk ⟨kp, dp, pt⟩ = false := by simp [pcOk]; omega
      rw [this]; rfl
     have t2 : decide (1048576 < kp) = true := decide_eq_true (by omega)
     clear HW HD m1 m2
     go_wp2_with fail
     go_step3
     (try simp only [Exit.then, Exit.inBlock])
     refine fwd_goto ?_
     go_wp2_with fail
     rw [Exit.noGoto_ret]
     go_ret
     exact ret_bool HG.out.symm (hE.alloc _)
    have t2 : decide (1048576 < kp) = false := decide_eq_false (by omega)
    have hok : pcOk ⟨kp, dp, pt⟩ = true := by simp [pcOk]; omega
    rcases Nat.lt_or_ge 1048576 (n + pt.size) with m3 | m3
    ·have HG : Hid (pcsRight l = false) := by
      rw [← HW.out, HD.out, hok, decide_eq_false (by omega)]; rfl
     have t3 : decide ((1048576 : Int) - (n : Int) < (pt.size : Int)) = true := decide_eq_true (by omega)
     clear HW HD m1 m2
     go_wp2_with fail
     go_step3
     (try simp only [Exit.then, Exit.inBlock])
     refine fwd_goto ?_
     go_wp2_with fail
     rw [Exit.noGoto_ret]
     go_ret
     exact ret_bool HG.out.symm (hE.alloc _)
    ·have HN : Hid (pcsOk (n + pt.size) (l.drop (i + 1)) = pcsRight l) := by
      rw [← HW.out, HD.out, hok, decide_eq_true m3]; rfl
     have t3 : decide ((1048576 : Int) - (n : Int) < (pt.size : Int)) = false := decide_eq_false (by omega)
     clear HW HD m1 m2
     go_wp2_with fail
     go_roundw
     case rel => exact ⟨i + 1, n + pt.size, by go_num, by go_num, by omega, m3, HN, hE.alloc _⟩
     case measure => simp [intOf]; omega
  ·have HG : Hid (pcsRight l = true) := by rw [← HW.out, List.drop_eq_nil_of_le hlt]; rfl
   clear HW a3 HF
   go_wp2_with fail
   go_ret
   exact ret_bool HG.out.symm hE
end Go.Proofs.Ytdnjkffmgmbfmaa.Sy
namespace Go.Proofs.Ytdnjkffmgmbfmaa.Sy
open Go.RowKit Go.Proofs.Ytdnjkffmgmbfmaa.Bw Go.Proofs.Ytdnjkffmgmbfmaa.Bs
set_option maxRecDepth 100000 in
set_option maxHeartbeats 2000000 in
theorem rightR_any (l : List Pc) (v : Value) (w : World) (h : RdP w l v) : Calls Try.prog 61 #[v] w (Ret w fun r _ => r = .bool (pcsRight l)) := by
 obtain ⟨A, c, rfl, a1, a2, a3⟩ := h
 unfold maxLen at a2
 rcases Nat.lt_or_ge 4096 l.length with hl | hl
 ·have HF := Lib.hid (show pcsRight l = false by rw [pcsRight, decide_eq_false (by omega), Bool.false_and])
  have hd : decide ((4096 : Int) < (l.length : Int)) = true := decide_eq_true (by omega)
  go_enter Try.func61, Try.ntmps61
  go_wp2_with fail
  go_ret
  exact ret_bool HF.out.symm (Ext.refl w)
 have HF := Lib.hid (show pcsRight l = pcsOk 0 l by rw [pcsRight, decide_eq_true hl, Bool.true_and])
 have hd : decide ((4096 : Int) < (l.length : Int)) = false := decide_eq_false (by omega)
 go_enter Try.func61, Try.ntmps61
 go_wp2_with fail
 go_loopw [3, 4] (fun s3 s4 wr => ∃ i n : Nat, s4 = .int .i64 i ∧ s3 = .int .i64 n ∧ i ≤ l.length ∧ n ≤ 1048576 ∧ Hid (pcsOk n (l.drop i) = pcsRight l) ∧ Ext w wr) (fun _ i _ => l.length - (intOf i).toNat)
 case atStart => exact ⟨0, 0, rfl, rfl, Nat.zero_le _, by omega, HF.out.symm, Ext.refl _⟩
 case round =>
  obtain ⟨i, n, rfl, rfl, hi, hn, HW, hE⟩ := hrel
  have q1 : (0 : Int) ≤ (i : Int) := by omega
  rcases Nat.lt_or_ge i l.length with hlt | hlt
  ·obtain ⟨p, hp⟩ : ∃ p, l[i]? = some p := ⟨_, List.getElem?_eq_getElem hlt⟩
   obtain ⟨ba, oa, rfl, ra⟩ := a3 (by omega)
   obtain ⟨e1, e2, e3, e4⟩ := rdPcs_at (rdPcs_ext hE ra) hp
   have HD := Lib.hid (pcs_at n hp)
   have q2 : (i : Int) < (l.length : Int) := by omega
   unfold maxLen at e4
   obtain ⟨kp, dp, pt⟩ := p
   simp only at e1 e2 e3 e4 HD
   clear hp ra a3 HF
   rcases Int.lt_or_le kp 0 with m0 | m0
   ·have HG : Hid (pcsRight l = false) := by
     rw [← HW.out, HD.out]
     have : pcOk ⟨kp, dp, pt⟩ = false := by simp [pcOk]; omega
     rw [this]; rfl
    have t0 : decide (kp < 0) = true := decide_eq_true (by omega)
    clear HW HD m0
    go_wp2_with fail
    go_ret
    exact ret_bool HG.out.symm hE
   have t0 : decide (kp < 0) = false := decide_eq_false (by omega)
   rcases Int.lt_or_le 1048576 kp with m1 | m1
   ·have HG : Hid (pcsRight l = false) := by
     rw [← HW.out, HD.out]
     have : pcOk ⟨kp, dp, pt⟩ = false := by simp [pcOk]; omega
     rw [this]; rfl
    have t1 : decide (1048576 < kp) = true := decide_eq_true (by omega)
    clear HW HD m0 m1
    go_wp2_with fail
    go_ret
    exact ret_bool HG.out.symm hE
   have t1 : decide (1048576 < kp) = false := decide_eq_false (by omega)
   rcases Int.lt_or_le dp 0 with m2 | m2
   ·have HG : Hid (pcsRight l = false) := by
     rw [← HW.out, HD.out]
     have : pcOk ⟨kp, dp, pt⟩ = false := by simp [pcOk]; omega
     rw [this]; rfl
    have t2 : decide (dp < 0) = true := decide_eq_true (by omega)
    clear HW HD m0 m1 m2
    go_wp2_with fail
    go_ret
    exact ret_bool HG.out.symm hE
   have t2 : decide (dp < 0) = false := decide_eq_false (by omega)
   rcases Int.lt_or_le 1048576 dp with m3 | m3
   ·have HG : Hid (pcsRight l = false) := by
     rw [← HW.out, HD.out]
     have : pcOk ⟨kp, dp, pt⟩ = false := by simp [pcOk]; omega
     rw [this]; rfl
    have t3 : decide (1048576 < dp) = true := decide_eq_true (by omega)
    clear HW HD m0 m1 m2 m3
    go_wp2_with fail
    go_ret
    exact ret_bool HG.out.symm hE
   have t3 : decide (1048576 < dp) = false := decide_eq_false (by omega)
   have hok : pcOk ⟨kp, dp, pt⟩ = true := by simp [pcOk]; omega
   rcases Nat.lt_or_ge 1048576 (n + pt.size) with m4 | m4
   ·have HG : Hid (pcsRight l = false) := by
     rw [← HW.out, HD.out, hok, decide_eq_false (by omega)]; rfl
    have t4 : decide ((1048576 : Int) - (n : Int) < (pt.size : Int)) = true := decide_eq_true (by omega)
    clear HW HD m0 m1 m2 m3
    go_wp2_with fail
    go_ret
    exact ret_bool HG.out.symm hE
   ·have HN : Hid (pcsOk (n + pt.size) (l.drop (i + 1)) = pcsRight l) := by
     rw [← HW.out, HD.out, hok, decide_eq_true m4]; rfl
    have t4 : decide ((1048576 : Int) - (n : Int) < (pt.size : Int)) = false := decide_eq_false (by omega)
    clear HW HD m0 m1 m2 m3
    go_wp2_with fail
    go_roundw
    case rel => exact ⟨i + 1, n + pt.size, by go_num, by go_num, by omega, m4, HN, hE⟩
    case measure => simp [intOf]; omega
  ·have HG : Hid (pcsRight l = true) := by rw [← HW.out, List.drop_eq_nil_of_le hlt]; rfl
   have q2 : decide ((i : Int) < (l.length : Int)) = false := decide_eq_false (by omega)
   clear HW a3 HF
   go_wp2_with fail
   go_ret
   exact ret_bool HG.out.symm hE
end Go.Proofs.Ytdnjkffmgmbfmaa.Sy
namespace Go.Proofs.Ytdnjkffmgmbfmaa.Sy
open Go.RowKit Go.Proofs.Ytdnjkffmgmbfmaa.Bw Go.Proofs.Ytdnjkffmgmbfmaa.Bs
/-- An operation. -/
structure OpD where
  kind : Int
  path : List Int
  at_ : Int
  «to» : List Int
  id : Int
  leaf : Bool
  label : ByteArray
  key : ByteArray
  value : ByteArray
  gone : Bool
  pcs : List Pc
def gapOk (k : Int) : Bool := decide (0 ≤ k) && decide (k ≤ 1048576)
def OpD.formed (o : OpD) : Bool := may o.path &&
  (if o.kind = 1 then gapOk o.at_ && decide (o.label.size ≤ 64) else if o.kind = 2 then true else if o.kind = 3 then gapOk o.at_ && may o.to
   else if o.kind = 4 then keyOk o.key && (o.gone || decide (o.value.size ≤ 256)) else if o.kind = 5 then decide (o.label.size ≤ 64) else if o.kind = 6 then pcsRight o.pcs else false)
theorem may_len {p : List Int} (h : may p = true) : p.length ≤ 64 := by
  rw [may, Bool.and_eq_true, decide_eq_true_eq] at h; exact h.1
end Go.Proofs.Ytdnjkffmgmbfmaa.Sy
namespace Go.Proofs.Ytdnjkffmgmbfmaa.Sy
open Go.RowKit Go.Proofs.Ytdnjkffmgmbfmaa.Bw Go.Proofs.Ytdnjkffmgmbfmaa.Bs
/-- Of what was there, nothing changed but blocks of S. -/
structure Fr (W W' : World) (S : Nat → Prop) : Prop where
 os : W'.os = W.os
 tape : W'.tape = W.tape
 output : W'.output = W.output
 size : W.heap.size ≤ W'.heap.size
 block : ∀ k, k < W.heap.size → ¬ S k → W'.heap[k]? = W.heap[k]?
theorem Fr.of_ext {W W' : World} (h : Ext W W') (S : Nat → Prop) : Fr W W' S := ⟨h.os, h.tape, h.output, h.size, fun k hk _ => h.block k hk⟩
theorem Fr.refl (W : World) (S : Nat → Prop) : Fr W W S := Fr.of_ext (Ext.refl W) S
theorem Fr.trans {A B C : World} {S : Nat → Prop} (h : Fr A B S) (k : Fr B C S) : Fr A C S :=
 ⟨k.os.trans h.os, k.tape.trans h.tape, k.output.trans h.output, Nat.le_trans h.size k.size, fun i hi hs => (k.block i (Nat.lt_of_lt_of_le hi h.size) hs).trans (h.block i hi hs)⟩
theorem Fr.mono {A B : World} {S T : Nat → Prop} (h : Fr A B S) (hst : ∀ k, S k → T k) : Fr A B T := ⟨h.os, h.tape, h.output, h.size, fun k hk hs => h.block k hk (fun h0 => hs (hst k h0))⟩
/-- New blocks may change: they were not there. -/
theorem Fr.new {A B : World} {S : Nat → Prop} (h : Fr A B (fun k => S k ∨ A.heap.size ≤ k)) : Fr A B S := ⟨h.os, h.tape, h.output, h.size, fun k hk hs => h.block k hk (fun h0 => h0.elim hs (fun h1 => absurd h1 (by omega)))⟩
theorem Fr.ext {w A B : World} {S : Nat → Prop} (h : Ext w A) (k : Fr A B S) (hs : ∀ i, S i → w.heap.size ≤ i) : Ext w B :=
 ⟨k.os.trans h.os, k.tape.trans h.tape, k.output.trans h.output, Nat.le_trans h.size k.size, fun i hi => (k.block i (Nat.lt_of_lt_of_le hi h.size) (fun h0 => absurd (hs i h0) (by omega))).trans (h.block i hi)⟩
theorem NBox.fr {A B : World} {S : Nat → Prop} (k : Fr A B S) {b : Nat} {t : TypeId} {cs : Array Value} (h : NBox A b t cs) (hb : ¬ S b) : NBox B b t cs := (k.block b (Array.getElem?_eq_some_iff.1 h).1 hb).trans h
theorem owns_fr {A B : World} {S : Nat → Prop} (k : Fr A B S) {base e size n : Nat} {v : Value} {xs : List Value} (h : A.ownsRow base e size v n xs) (hb : ∀ g, v.ownBlock = some g → ¬ S g) : B.ownsRow base e size v n xs := by
 refine ⟨h.1, ?_⟩
 rcases h.2 with h2 | ⟨g, cap, cur, hv, h1, hg, r⟩
 ·exact .inl h2
 ·exact .inr ⟨g, cap, cur, hv, h1, (k.block g (Array.getElem?_eq_some_iff.1 hg).1 (hb g (by rw [hv]; rfl))).trans hg, r⟩
/-- A maker. -/
structure Mk where
 l : List Pc
 keep : Int
def Pc.vals (p : Pc) : List Value := [.int .i64 p.keep, .int .i64 p.drop, .string p.put]
def pcVals (l : List Pc) : List Value := l.flatMap Pc.vals
/-- The piece that goes on is there: one more, if something was kept. -/
def Mk.last (m : Mk) : Mk := if 0 < m.keep ∨ m.l = [] then ⟨m.l ++ [⟨m.keep, 0, ⟨#[]⟩⟩], 0⟩ else m
def onLast (f : Pc → Pc) : List Pc → List Pc
 | [] => []
 | [p] => [f p]
 | p :: q :: r => p :: onLast f (q :: r)
def Mk.put (m : Mk) (s : ByteArray) : Mk := if 0 < s.size then ⟨onLast (fun p => { p with put := p.put ++ s }) m.last.l, m.last.keep⟩ else m
def Mk.drop (m : Mk) (n : Int) : Mk := if 0 < n then ⟨onLast (fun p => { p with drop := p.drop + n }) m.last.l, m.last.keep⟩ else m
def Mk.piece (m : Mk) (p : Pc) : Mk := (({ m with keep := m.keep + p.keep } : Mk).put p.put).drop p.drop
def Mk.pieces (m : Mk) : List Pc → Mk
 | [] => m
 | p :: r => (m.piece p).pieces r
/-- A maker in memory: at block B, its row with an owner from base on. -/
def MkAt (W : World) (B base : Nat) (m : Mk) (lv : Value) : Prop := NBox W B 76 #[lv, .int .i64 m.keep] ∧ W.ownsRow base 61 3 lv m.l.length (pcVals m.l) ∧ B < base ∧ base ≤ W.heap.size
theorem Mk.last_ne (m : Mk) : m.last.l ≠ [] := by
 unfold Mk.last
 split
 ·simp
 ·rename_i h
  exact fun h0 => h (.inr h0)
end Go.Proofs.Ytdnjkffmgmbfmaa.Sy
