/- Chapter 11: what an operation is, and values that read as one. -/
import Derived.Test.YtdnjkffmgmbfmaaBsMay2
import Derived.Test.YtdnjkffmgmbfmaaHyLxFrame
namespace Go.Proofs.Ytdnjkffmgmbfmaa.Bs
open Go.RowKit Go.Proofs.Ytdnjkffmgmbfmaa.Bw

/-- A piece. -/
structure Pc where
  keep : Int
  drop : Int
  put : ByteArray
/-- A row of pieces from an address on. -/
def rdPcs (w : World) (b : Nat) : Nat → List Pc → Prop
  | _, [] => True
  | off, p :: r => w.cell? ⟨b, off, none⟩ = some (.int .i64 p.keep) ∧ w.cell? ⟨b, off + 1, none⟩ = some (.int .i64 p.drop) ∧ w.cell? ⟨b, off + 2, none⟩ = some (.string p.put) ∧ okStr p.put ∧ rdPcs w b (off + 3) r
/-- A slice value that reads as a row of pieces. -/
def RdP (w : World) (l : List Pc) (v : Value) : Prop :=
  ∃ A c, v = .slice A l.length c ∧ l.length ≤ c ∧ c ≤ maxLen ∧ (0 < l.length → ∃ b off, A = some ⟨b, off, none⟩ ∧ rdPcs w b off l)
theorem rdPcs_ext {w w' : World} (h : Ext w w') {b : Nat} : ∀ {off : Nat} {l : List Pc}, rdPcs w b off l → rdPcs w' b off l
  | _, [], _ => trivial
  | _, _ :: _, ⟨h1, h2, h3, h4, h5⟩ => ⟨h.cell h1, h.cell h2, h.cell h3, h4, rdPcs_ext h h5⟩
theorem RdP.ext {w w' : World} (h : Ext w w') {l : List Pc} {v : Value} (hr : RdP w l v) : RdP w' l v := by
  obtain ⟨A, c, e, h1, h2, h3⟩ := hr
  refine ⟨A, c, e, h1, h2, fun h0 => ?_⟩
  obtain ⟨b, off, h4, h5⟩ := h3 h0
  exact ⟨b, off, h4, rdPcs_ext h h5⟩
theorem rdPcs_at {w : World} {b : Nat} : ∀ {l : List Pc} {off i : Nat} {p : Pc}, rdPcs w b off l → l[i]? = some p →
    w.cell? ⟨b, off + i * 3, none⟩ = some (.int .i64 p.keep) ∧ w.cell? ⟨b, off + i * 3 + 1, none⟩ = some (.int .i64 p.drop) ∧ w.cell? ⟨b, off + i * 3 + 2, none⟩ = some (.string p.put) ∧ p.put.size ≤ maxLen
  | [], _, _, _, _, h => by simp at h
  | x :: r, off, 0, p, hr, h => by
    simp at h; obtain rfl := h
    obtain ⟨h1, h2, h3, h4, _⟩ := hr
    simpa using ⟨h1, h2, h3, h4⟩
  | x :: r, off, i + 1, p, hr, h => by
    obtain ⟨_, _, _, _, h5⟩ := hr
    have := rdPcs_at (i := i) h5 (by simpa using h)
    rw [show off + (i + 1) * 3 = off + 3 + i * 3 by omega]
    exact this

/-- An operation. -/
structure OpD where
  kind : Int
  path : List Int
  at_ : Int
  «to» : List Int
  id : Int
  leaf : Bool
  label : ByteArray
  key : ByteArray
  value : ByteArray
  gone : Bool
  pcs : List Pc
def OpD.rd (w : World) (o : OpD) (v : Value) : Prop := ∃ pv tv cv, v = .agg #[.int .u8 o.kind, pv, .int .i64 o.at_, tv, .int .u64 o.id, .bool o.leaf, .string o.label, .string o.key, .string o.value, .bool o.gone, cv] ∧
  RdI w o.path pv ∧ RdI w o.to tv ∧ RdP w o.pcs cv ∧ okStr o.label ∧ okStr o.key ∧ okStr o.value
theorem OpD.rd_ext {w w' : World} (h : Ext w w') {o : OpD} {v : Value} (hr : o.rd w v) : o.rd w' v := by
  obtain ⟨pv, tv, cv, e, h1, h2, h3, h4⟩ := hr
  exact ⟨pv, tv, cv, e, RdS.ext h h1, RdS.ext h h2, RdP.ext h h3, h4⟩

theorem cell_of_blk {W : World} {b i : Nat} {c : Array Value} {t : TypeId} {fz : Nat × Nat} (h : W.heap[b]? = some (.cells c t fz)) : W.cell? ⟨b, i, none⟩ = c[i]? := by
  simp [World.cell?, h]
/-- A box: a new block of cells. -/
def NBox (W : World) (B : Nat) (t : TypeId) (cs : Array Value) : Prop := W.heap[B]? = some (.cells cs t (0, 0))
theorem NBox.new (W : World) (t : TypeId) (cs : Array Value) : NBox (W.alloc (.cells cs t)) W.heap.size t cs := World.alloc_heap_new W _
theorem NBox.cell {W : World} {B : Nat} {t : TypeId} {cs : Array Value} (h : NBox W B t cs) (i : Nat) : W.cell? ⟨B, i, none⟩ = cs[i]? := cell_of_blk h
theorem NBox.c6 {W : World} {B : Nat} {t : TypeId} {x0 x1 x2 x3 x4 x5 : Value} (h : NBox W B t #[x0, x1, x2, x3, x4, x5]) : W.cell? ⟨B, 0, none⟩ = some x0 ∧ W.cell? ⟨B, 1, none⟩ = some x1 ∧ W.cell? ⟨B, 2, none⟩ = some x2 ∧ W.cell? ⟨B, 3, none⟩ = some x3 ∧ W.cell? ⟨B, 4, none⟩ = some x4 ∧ W.cell? ⟨B, 5, none⟩ = some x5 := ⟨h.cell 0, h.cell 1, h.cell 2, h.cell 3, h.cell 4, h.cell 5⟩
theorem NBox.c11 {W : World} {B : Nat} {t : TypeId} {x0 x1 x2 x3 x4 x5 x6 x7 x8 x9 x10 : Value} (h : NBox W B t #[x0, x1, x2, x3, x4, x5, x6, x7, x8, x9, x10]) : W.cell? ⟨B, 0, none⟩ = some x0 ∧ W.cell? ⟨B, 1, none⟩ = some x1 ∧ W.cell? ⟨B, 2, none⟩ = some x2 ∧ W.cell? ⟨B, 3, none⟩ = some x3 ∧ W.cell? ⟨B, 4, none⟩ = some x4 ∧ W.cell? ⟨B, 5, none⟩ = some x5 ∧ W.cell? ⟨B, 6, none⟩ = some x6 ∧ W.cell? ⟨B, 7, none⟩ = some x7 ∧ W.cell? ⟨B, 8, none⟩ = some x8 ∧ W.cell? ⟨B, 9, none⟩ = some x9 ∧ W.cell? ⟨B, 10, none⟩ = some x10 := ⟨h.cell 0, h.cell 1, h.cell 2, h.cell 3, h.cell 4, h.cell 5, h.cell 6, h.cell 7, h.cell 8, h.cell 9, h.cell 10⟩
theorem NBox.ext {W W' : World} (he : Ext W W') {B : Nat} {t : TypeId} {cs : Array Value} (h : NBox W B t cs) : NBox W' B t cs := (he.block B (Array.getElem?_eq_some_iff.1 h).1).trans h

/-! ### Which edits are right -/
def pcOk (p : Pc) : Bool := decide (0 ≤ p.keep) && decide (p.keep ≤ 1048576) && decide (0 ≤ p.drop) && decide (p.drop ≤ 1048576)
def pcsOk : Nat → List Pc → Bool
  | _, [] => true
  | n, p :: r => pcOk p && decide (n + p.put.size ≤ 1048576) && pcsOk (n + p.put.size) r
def pcsRight (l : List Pc) : Bool := decide (l.length ≤ 4096) && pcsOk 0 l
def putLen : List Pc → Nat
  | [] => 0
  | p :: r => p.put.size + putLen r

def gapOk (k : Int) : Bool := decide (0 ≤ k) && decide (k ≤ 1048576)
def OpD.formed (o : OpD) : Bool := may o.path &&
  (if o.kind = 1 then gapOk o.at_ && decide (o.label.size ≤ 64) else if o.kind = 2 then true else if o.kind = 3 then gapOk o.at_ && may o.to
   else if o.kind = 4 then keyOk o.key && (o.gone || decide (o.value.size ≤ 256)) else if o.kind = 5 then decide (o.label.size ≤ 64) else if o.kind = 6 then pcsRight o.pcs else false)
theorem may_len {p : List Int} (h : may p = true) : p.length ≤ 64 := by
  rw [may, Bool.and_eq_true, decide_eq_true_eq] at h; exact h.1
def OpD.sh (o : OpD) : Sh := { kind := o.kind, path := o.path, gap := o.at_, «to» := o.to, formed := o.formed, wr := IntKind.i64.wrap }
end Go.Proofs.Ytdnjkffmgmbfmaa.Bs
namespace Go.Proofs.Ytdnjkffmgmbfmaa.Bs
open Go.RowKit Go.Proofs.Ytdnjkffmgmbfmaa.Bw

theorem pcs_at {l : List Pc} {i : Nat} {p : Pc} (n : Nat) (h : l[i]? = some p) : pcsOk n (l.drop i) = (pcOk p && decide (n + p.put.size ≤ 1048576) && pcsOk (n + p.put.size) (l.drop (i + 1))) := by
 rw [drop_at h, pcsOk]

set_option maxRecDepth 100000 in
set_option maxHeartbeats 2000000 in
theorem right_any (l : List Pc) (v : Value) (w : World) (h : RdP w l v) : Calls Try.prog 66 #[v] w (Ret w fun r _ => r = .bool (pcsRight l)) := by
 obtain ⟨A, c, rfl, a1, a2, a3⟩ := h
 unfold maxLen at a2
 rcases Nat.lt_or_ge 4096 l.length with hl | hl
 ·have HF := Lib.hid (show pcsRight l = false by rw [pcsRight, decide_eq_false (by omega), Bool.false_and])
  have hd : decide ((4096 : Int) < (l.length : Int)) = true := decide_eq_true (by omega)
  go_enter Try.func66, Try.ntmps66
  go_wp2_with fail
  refine wp_scope_fwd 0 rfl ?_
  go_wp2_with fail
  go_step3
  (try simp only [Exit.then])
  refine fwd_goto ?_
  go_wp2_with fail
  rw [Exit.noGoto_ret]
  go_ret
  exact ret_bool HF.out.symm (Ext.refl w)
 have HF := Lib.hid (show pcsRight l = pcsOk 0 l by rw [pcsRight, decide_eq_true hl, Bool.true_and])
 have hd : decide ((4096 : Int) < (l.length : Int)) = false := decide_eq_false (by omega)
 go_enter Try.func66, Try.ntmps66
 go_wp2_with fail
 refine wp_scope_fwd 0 rfl ?_
 go_wp2_with fail
 go_loopw [3, 11] (fun s3 s11 wr => ∃ i n : Nat, s11 = .int .i64 i ∧ s3 = .int .i64 n ∧ i ≤ l.length ∧ n ≤ 1048576 ∧ Hid (pcsOk n (l.drop i) = pcsRight l) ∧ Ext w wr) (fun _ i _ => l.length - (intOf i).toNat)
 case atStart => exact ⟨0, 0, rfl, rfl, Nat.zero_le _, by omega, HF.out.symm, Ext.refl _⟩
 case round =>
  obtain ⟨i, n, rfl, rfl, hi, hn, HW, hE⟩ := hrel
  rcases Nat.lt_or_ge i l.length with hlt | hlt
  ·obtain ⟨p, hp⟩ : ∃ p, l[i]? = some p := ⟨_, List.getElem?_eq_getElem hlt⟩
   obtain ⟨ba, oa, rfl, ra⟩ := a3 (by omega)
   obtain ⟨e1, e2, e3, e4⟩ := rdPcs_at (rdPcs_ext hE ra) hp
   have HD := Lib.hid (pcs_at n hp)
   have q1 : (0 : Int) ≤ (i : Int) := by omega
   have q2 : (i : Int) < (l.length : Int) := by omega
   unfold maxLen at e4
   obtain ⟨kp, dp, pt⟩ := p
   simp only at e1 e2 e3 e4 HD
   clear hp ra a3 HF
   rcases Int.lt_trichotomy kp dp with hm | hm | hm
   ·rcases Int.lt_or_le (min kp dp) 0 with m1 | m1
    ·have HG : Hid (pcsRight l = false) := by
      rw [← HW.out, HD.out]
      have : pcOk ⟨kp, dp, pt⟩ = false := by simp [pcOk]; omega
      rw [this]; rfl
     have t1 : decide (kp < 0) = true := decide_eq_true (by omega)
     clear HW HD m1
     go_wp2_with fail
     go_step3
     (try simp only [Exit.then, Exit.inBlock])
     refine fwd_goto ?_
     go_wp2_with fail
     rw [Exit.noGoto_ret]
     go_ret
     exact ret_bool HG.out.symm (hE.alloc _)
    have t1 : decide (kp < 0) = false := decide_eq_false (by omega)
    rcases Int.lt_or_le 1048576 (max kp dp) with m2 | m2
    ·have HG : Hid (pcsRight l = false) := by
      rw [← HW.out, HD.out]
      have : pcOk ⟨kp, dp, pt⟩ = false := by simp [pcOk]; omega
      rw [this]; rfl
     have t2 : decide (1048576 < dp) = true := decide_eq_true (by omega)
     clear HW HD m1 m2
     go_wp2_with fail
     go_step3
     (try simp only [Exit.then, Exit.inBlock])
     refine fwd_goto ?_
     go_wp2_with fail
     rw [Exit.noGoto_ret]
     go_ret
     exact ret_bool HG.out.symm (hE.alloc _)
    have t2 : decide (1048576 < dp) = false := decide_eq_false (by omega)
    have hok : pcOk ⟨kp, dp, pt⟩ = true := by simp [pcOk]; omega
    rcases Nat.lt_or_ge 1048576 (n + pt.size) with m3 | m3
    ·have HG : Hid (pcsRight l = false) := by
      rw [← HW.out, HD.out, hok, decide_eq_false (by omega)]; rfl
     have t3 : decide ((1048576 : Int) - (n : Int) < (pt.size : Int)) = true := decide_eq_true (by omega)
     clear HW HD m1 m2
     go_wp2_with fail
     go_step3
     (try simp only [Exit.then, Exit.inBlock])
     refine fwd_goto ?_
     go_wp2_with fail
     rw [Exit.noGoto_ret]
     go_ret
     exact ret_bool HG.out.symm (hE.alloc _)
    ·have HN : Hid (pcsOk (n + pt.size) (l.drop (i + 1)) = pcsRight l) := by
      rw [← HW.out, HD.out, hok, decide_eq_true m3]; rfl
     have t3 : decide ((1048576 : Int) - (n : Int) < (pt.size : Int)) = false := decide_eq_false (by omega)
     clear HW HD m1 m2
     go_wp2_with fail
     go_roundw
     case rel => exact ⟨i + 1, n + pt.size, by go_num, by go_num, by omega, m3, HN, hE.alloc _⟩
     case measure => simp [intOf]; omega
   ·subst hm
    rcases Int.lt_or_le (min kp kp) 0 with m1 | m1
    ·have HG : Hid (pcsRight l = false) := by
      rw [← HW.out, HD.out]
      have : pcOk ⟨kp, kp, pt⟩ = false := by simp [pcOk]; omega
      rw [this]; rfl
     have t1 : decide (kp < 0) = true := decide_eq_true (by omega)
     clear HW HD m1
     go_wp2_with fail
     go_step3
     (try simp only [Exit.then, Exit.inBlock])
     refine fwd_goto ?_
     go_wp2_with fail
     rw [Exit.noGoto_ret]
     go_ret
     exact ret_bool HG.out.symm (hE.alloc _)
    have t1 : decide (kp < 0) = false := decide_eq_false (by omega)
    rcases Int.lt_or_le 1048576 (max kp kp) with m2 | m2
    ·have HG : Hid (pcsRight l = false) := by
      rw [← HW.out, HD.out]
      have : pcOk ⟨kp, kp, pt⟩ = false := by simp [pcOk]; omega
      rw [this]; rfl
     have t2 : decide (1048576 < kp) = true := decide_eq_true (by omega)
     clear HW HD m1 m2
     go_wp2_with fail
     go_step3
     (try simp only [Exit.then, Exit.inBlock])
     refine fwd_goto ?_
     go_wp2_with fail
     rw [Exit.noGoto_ret]
     go_ret
     exact ret_bool HG.out.symm (hE.alloc _)
    have t2 : decide (1048576 < kp) = false := decide_eq_false (by omega)
    have hok : pcOk ⟨kp, kp, pt⟩ = true := by simp [pcOk]; omega
    rcases Nat.lt_or_ge 1048576 (n + pt.size) with m3 | m3
    ·have HG : Hid (pcsRight l = false) := by
      rw [← HW.out, HD.out, hok, decide_eq_false (by omega)]; rfl
     have t3 : decide ((1048576 : Int) - (n : Int) < (pt.size : Int)) = true := decide_eq_true (by omega)
     clear HW HD m1 m2
     go_wp2_with fail
     go_step3
     (try simp only [Exit.then, Exit.inBlock])
     refine fwd_goto ?_
     go_wp2_with fail
     rw [Exit.noGoto_ret]
     go_ret
     exact ret_bool HG.out.symm (hE.alloc _)
    ·have HN : Hid (pcsOk (n + pt.size) (l.drop (i + 1)) = pcsRight l) := by
      rw [← HW.out, HD.out, hok, decide_eq_true m3]; rfl
     have t3 : decide ((1048576 : Int) - (n : Int) < (pt.size : Int)) = false := decide_eq_false (by omega)
     clear HW HD m1 m2
     go_wp2_with fail
     go_roundw
     case rel => exact ⟨i + 1, n + pt.size, by go_num, by go_num, by omega, m3, HN, hE.alloc _⟩
     case measure => simp [intOf]; omega
   ·rcases Int.lt_or_le (min kp dp) 0 with m1 | m1
    ·have HG : Hid (pcsRight l = false) := by
      rw [← HW.out, HD.out]
      have : pcOk ⟨kp, dp, pt⟩ = false := by simp [pcOk]; omega
      rw [this]; rfl
     have t1 : decide (dp < 0) = true := decide_eq_true (by omega)
     clear HW HD m1
     go_wp2_with fail
     go_step3
     (try simp only [Exit.then, Exit.inBlock])
     refine fwd_goto ?_
     go_wp2_with fail
     rw [Exit.noGoto_ret]
     go_ret
     exact ret_bool HG.out.symm (hE.alloc _)
    have t1 : decide (dp < 0) = false := decide_eq_false (by omega)
    rcases Int.lt_or_le 1048576 (max kp dp) with m2 | m2
    ·have HG : Hid (pcsRight l = false) := by
      rw [← HW.out, HD.out]
      have : pcOk ⟨kp, dp, pt⟩ = false := by simp [pcOk]; omega
      rw [this]; rfl
     have t2 : decide (1048576 < kp) = true := decide_eq_true (by omega)
     clear HW HD m1 m2
     go_wp2_with fail
     go_step3
     (try simp only [Exit.then, Exit.inBlock])
     refine fwd_goto ?_
     go_wp2_with fail
     rw [Exit.noGoto_ret]
     go_ret
     exact ret_bool HG.out.symm (hE.alloc _)
    have t2 : decide (1048576 < kp) = false := decide_eq_false (by omega)
    have hok : pcOk ⟨kp, dp, pt⟩ = true := by simp [pcOk]; omega
    rcases Nat.lt_or_ge 1048576 (n + pt.size) with m3 | m3
    ·have HG : Hid (pcsRight l = false) := by
      rw [← HW.out, HD.out, hok, decide_eq_false (by omega)]; rfl
     have t3 : decide ((1048576 : Int) - (n : Int) < (pt.size : Int)) = true := decide_eq_true (by omega)
     clear HW HD m1 m2
     go_wp2_with fail
     go_step3
     (try simp only [Exit.then, Exit.inBlock])
     refine fwd_goto ?_
     go_wp2_with fail
     rw [Exit.noGoto_ret]
     go_ret
     exact ret_bool HG.out.symm (hE.alloc _)
    ·have HN : Hid (pcsOk (n + pt.size) (l.drop (i + 1)) = pcsRight l) := by
      rw [← HW.out, HD.out, hok, decide_eq_true m3]; rfl
     have t3 : decide ((1048576 : Int) - (n : Int) < (pt.size : Int)) = false := decide_eq_false (by omega)
     clear HW HD m1 m2
     go_wp2_with fail
     go_roundw
     case rel => exact ⟨i + 1, n + pt.size, by go_num, by go_num, by omega, m3, HN, hE.alloc _⟩
     case measure => simp [intOf]; omega
  ·have HG : Hid (pcsRight l = true) := by rw [← HW.out, List.drop_eq_nil_of_le hlt]; rfl
   clear HW a3 HF
   go_wp2_with fail
   go_ret
   exact ret_bool HG.out.symm hE
end Go.Proofs.Ytdnjkffmgmbfmaa.Bs
namespace Go.Proofs.Ytdnjkffmgmbfmaa.Bs
open Go.RowKit Go.Proofs.Ytdnjkffmgmbfmaa.Bw

set_option maxRecDepth 100000 in
set_option maxHeartbeats 2000000 in
theorem rightR_any (l : List Pc) (v : Value) (w : World) (h : RdP w l v) : Calls Try.prog 61 #[v] w (Ret w fun r _ => r = .bool (pcsRight l)) := by
 obtain ⟨A, c, rfl, a1, a2, a3⟩ := h
 unfold maxLen at a2
 rcases Nat.lt_or_ge 4096 l.length with hl | hl
 ·have HF := Lib.hid (show pcsRight l = false by rw [pcsRight, decide_eq_false (by omega), Bool.false_and])
  have hd : decide ((4096 : Int) < (l.length : Int)) = true := decide_eq_true (by omega)
  go_enter Try.func61, Try.ntmps61
  go_wp2_with fail
  go_ret
  exact ret_bool HF.out.symm (Ext.refl w)
 have HF := Lib.hid (show pcsRight l = pcsOk 0 l by rw [pcsRight, decide_eq_true hl, Bool.true_and])
 have hd : decide ((4096 : Int) < (l.length : Int)) = false := decide_eq_false (by omega)
 go_enter Try.func61, Try.ntmps61
 go_wp2_with fail
 go_loopw [3, 4] (fun s3 s4 wr => ∃ i n : Nat, s4 = .int .i64 i ∧ s3 = .int .i64 n ∧ i ≤ l.length ∧ n ≤ 1048576 ∧ Hid (pcsOk n (l.drop i) = pcsRight l) ∧ Ext w wr) (fun _ i _ => l.length - (intOf i).toNat)
 case atStart => exact ⟨0, 0, rfl, rfl, Nat.zero_le _, by omega, HF.out.symm, Ext.refl _⟩
 case round =>
  obtain ⟨i, n, rfl, rfl, hi, hn, HW, hE⟩ := hrel
  have q1 : (0 : Int) ≤ (i : Int) := by omega
  rcases Nat.lt_or_ge i l.length with hlt | hlt
  ·obtain ⟨p, hp⟩ : ∃ p, l[i]? = some p := ⟨_, List.getElem?_eq_getElem hlt⟩
   obtain ⟨ba, oa, rfl, ra⟩ := a3 (by omega)
   obtain ⟨e1, e2, e3, e4⟩ := rdPcs_at (rdPcs_ext hE ra) hp
   have HD := Lib.hid (pcs_at n hp)
   have q2 : (i : Int) < (l.length : Int) := by omega
   unfold maxLen at e4
   obtain ⟨kp, dp, pt⟩ := p
   simp only at e1 e2 e3 e4 HD
   clear hp ra a3 HF
   rcases Int.lt_or_le kp 0 with m0 | m0
   ·have HG : Hid (pcsRight l = false) := by
     rw [← HW.out, HD.out]
     have : pcOk ⟨kp, dp, pt⟩ = false := by simp [pcOk]; omega
     rw [this]; rfl
    have t0 : decide (kp < 0) = true := decide_eq_true (by omega)
    clear HW HD m0
    go_wp2_with fail
    go_ret
    exact ret_bool HG.out.symm hE
   have t0 : decide (kp < 0) = false := decide_eq_false (by omega)
   rcases Int.lt_or_le 1048576 kp with m1 | m1
   ·have HG : Hid (pcsRight l = false) := by
     rw [← HW.out, HD.out]
     have : pcOk ⟨kp, dp, pt⟩ = false := by simp [pcOk]; omega
     rw [this]; rfl
    have t1 : decide (1048576 < kp) = true := decide_eq_true (by omega)
    clear HW HD m0 m1
    go_wp2_with fail
    go_ret
    exact ret_bool HG.out.symm hE
   have t1 : decide (1048576 < kp) = false := decide_eq_false (by omega)
   rcases Int.lt_or_le dp 0 with m2 | m2
   ·have HG : Hid (pcsRight l = false) := by
     rw [← HW.out, HD.out]
     have : pcOk ⟨kp, dp, pt⟩ = false := by simp [pcOk]; omega
     rw [this]; rfl
    have t2 : decide (dp < 0) = true := decide_eq_true (by omega)
    clear HW HD m0 m1 m2
    go_wp2_with fail
    go_ret
    exact ret_bool HG.out.symm hE
   have t2 : decide (dp < 0) = false := decide_eq_false (by omega)
   rcases Int.lt_or_le 1048576 dp with m3 | m3
   ·have HG : Hid (pcsRight l = false) := by
     rw [← HW.out, HD.out]
     have : pcOk ⟨kp, dp, pt⟩ = false := by simp [pcOk]; omega
     rw [this]; rfl
    have t3 : decide (1048576 < dp) = true := decide_eq_true (by omega)
    clear HW HD m0 m1 m2 m3
    go_wp2_with fail
    go_ret
    exact ret_bool HG.out.symm hE
   have t3 : decide (1048576 < dp) = false := decide_eq_false (by omega)
   have hok : pcOk ⟨kp, dp, pt⟩ = true := by simp [pcOk]; omega
   rcases Nat.lt_or_ge 1048576 (n + pt.size) with m4 | m4
   ·have HG : Hid (pcsRight l = false) := by
     rw [← HW.out, HD.out, hok, decide_eq_false (by omega)]; rfl
    have t4 : decide ((1048576 : Int) - (n : Int) < (pt.size : Int)) = true := decide_eq_true (by omega)
    clear HW HD m0 m1 m2 m3
    go_wp2_with fail
    go_ret
    exact ret_bool HG.out.symm hE
   ·have HN : Hid (pcsOk (n + pt.size) (l.drop (i + 1)) = pcsRight l) := by
     rw [← HW.out, HD.out, hok, decide_eq_true m4]; rfl
    have t4 : decide ((1048576 : Int) - (n : Int) < (pt.size : Int)) = false := decide_eq_false (by omega)
    clear HW HD m0 m1 m2 m3
    go_wp2_with fail
    go_roundw
    case rel => exact ⟨i + 1, n + pt.size, by go_num, by go_num, by omega, m4, HN, hE⟩
    case measure => simp [intOf]; omega
  ·have HG : Hid (pcsRight l = true) := by rw [← HW.out, List.drop_eq_nil_of_le hlt]; rfl
   have q2 : decide ((i : Int) < (l.length : Int)) = false := decide_eq_false (by omega)
   clear HW a3 HF
   go_wp2_with fail
   go_ret
   exact ret_bool HG.out.symm hE

/-! ### Light operations -/
def pcsLight (top : Nat) : Nat → List Pc → Bool
 | _, [] => true
 | n, p :: r => decide (n + p.put.size ≤ top) && pcsLight top (n + p.put.size) r
def OpD.light (o : OpD) (top : Nat) : Bool := decide (o.path.length ≤ top) && decide (o.to.length ≤ top) && decide (o.label.size ≤ top) && decide (o.key.size ≤ top) && decide (o.value.size ≤ top) && decide (o.pcs.length ≤ top) && pcsLight top 0 o.pcs
theorem light_at {top : Nat} {l : List Pc} {i : Nat} {p : Pc} (n : Nat) (h : l[i]? = some p) : pcsLight top n (l.drop i) = (decide (n + p.put.size ≤ top) && pcsLight top (n + p.put.size) (l.drop (i + 1))) := by
 rw [drop_at h, pcsLight]
theorem light_open {o : OpD} {top : Nat} (h : o.light top = true) : o.path.length ≤ top ∧ o.to.length ≤ top := by
 simp only [OpD.light, Bool.and_eq_true, decide_eq_true_eq] at h
 exact ⟨h.1.1.1.1.1.1, h.1.1.1.1.1.2⟩

set_option maxRecDepth 100000 in
set_option maxHeartbeats 2000000 in
theorem light_any (o : OpD) (v : Value) (top : Nat) (w : World) (h : o.rd w v) (htop : top ≤ 1000000) : Calls Try.prog 8 #[v, .int .i64 top] w (Ret w fun r _ => r = .bool (o.light top)) := by
 obtain ⟨pv, tv, cv, rfl, ⟨pA, pc, rfl, _, p1, p2, _⟩, ⟨tA, tc, rfl, _, t1, t2, _⟩, ⟨cA, cc, rfl, c1, c2, c3⟩, s1, s2, s3⟩ := h
 unfold maxLen at p2 t2 c2
 unfold okStr maxLen at s1 s2 s3
 rcases Nat.lt_or_ge top o.path.length with m0 | m0
 ·have HF := Lib.hid (show o.light top = false by simp [OpD.light]; omega)
  have d0 : decide ((top : Int) < (o.path.length : Int)) = true := decide_eq_true (by omega)
  have dn0 : top < o.path.length := m0
  clear c3 m0
  go_enter Try.func8, Try.ntmps8
  go_wp2_with fail
  go_ret
  exact ret_bool HF.out.symm ((Ext.refl w).alloc _)
 have d0 : decide ((top : Int) < (o.path.length : Int)) = false := decide_eq_false (by omega)
 have dn0 : decide (top < o.path.length) = false := decide_eq_false (by omega)
 rcases Nat.lt_or_ge top o.to.length with m1 | m1
 ·have HF := Lib.hid (show o.light top = false by simp [OpD.light]; omega)
  have d1 : decide ((top : Int) < (o.to.length : Int)) = true := decide_eq_true (by omega)
  have dn1 : top < o.to.length := m1
  clear c3 m0 m1
  go_enter Try.func8, Try.ntmps8
  go_wp2_with fail
  go_ret
  exact ret_bool HF.out.symm ((Ext.refl w).alloc _)
 have d1 : decide ((top : Int) < (o.to.length : Int)) = false := decide_eq_false (by omega)
 have dn1 : decide (top < o.to.length) = false := decide_eq_false (by omega)
 rcases Nat.lt_or_ge top o.label.size with m2 | m2
 ·have HF := Lib.hid (show o.light top = false by simp [OpD.light]; omega)
  have d2 : decide ((top : Int) < (o.label.size : Int)) = true := decide_eq_true (by omega)
  have dn2 : top < o.label.size := m2
  clear c3 m0 m1 m2
  go_enter Try.func8, Try.ntmps8
  go_wp2_with fail
  go_ret
  exact ret_bool HF.out.symm ((Ext.refl w).alloc _)
 have d2 : decide ((top : Int) < (o.label.size : Int)) = false := decide_eq_false (by omega)
 have dn2 : decide (top < o.label.size) = false := decide_eq_false (by omega)
 rcases Nat.lt_or_ge top o.key.size with m3 | m3
 ·have HF := Lib.hid (show o.light top = false by simp [OpD.light]; omega)
  have d3 : decide ((top : Int) < (o.key.size : Int)) = true := decide_eq_true (by omega)
  have dn3 : top < o.key.size := m3
  clear c3 m0 m1 m2 m3
  go_enter Try.func8, Try.ntmps8
  go_wp2_with fail
  go_ret
  exact ret_bool HF.out.symm ((Ext.refl w).alloc _)
 have d3 : decide ((top : Int) < (o.key.size : Int)) = false := decide_eq_false (by omega)
 have dn3 : decide (top < o.key.size) = false := decide_eq_false (by omega)
 rcases Nat.lt_or_ge top o.value.size with m4 | m4
 ·have HF := Lib.hid (show o.light top = false by simp [OpD.light]; omega)
  have d4 : decide ((top : Int) < (o.value.size : Int)) = true := decide_eq_true (by omega)
  have dn4 : top < o.value.size := m4
  clear c3 m0 m1 m2 m3 m4
  go_enter Try.func8, Try.ntmps8
  go_wp2_with fail
  go_ret
  exact ret_bool HF.out.symm ((Ext.refl w).alloc _)
 have d4 : decide ((top : Int) < (o.value.size : Int)) = false := decide_eq_false (by omega)
 have dn4 : decide (top < o.value.size) = false := decide_eq_false (by omega)
 rcases Nat.lt_or_ge top o.pcs.length with m5 | m5
 ·have HF := Lib.hid (show o.light top = false by simp [OpD.light]; omega)
  have d5 : decide ((top : Int) < (o.pcs.length : Int)) = true := decide_eq_true (by omega)
  have dn5 : top < o.pcs.length := m5
  clear c3 m0 m1 m2 m3 m4 m5
  go_enter Try.func8, Try.ntmps8
  go_wp2_with fail
  go_ret
  exact ret_bool HF.out.symm ((Ext.refl w).alloc _)
 have d5 : decide ((top : Int) < (o.pcs.length : Int)) = false := decide_eq_false (by omega)
 have dn5 : decide (top < o.pcs.length) = false := decide_eq_false (by omega)
 have HF : Hid (o.light top = pcsLight top 0 o.pcs) := by simp [Hid, OpD.light, m0, m1, m2, m3, m4, m5]
 clear m0 m1 m2 m3 m4
 obtain ⟨w1, hw1⟩ : ∃ w1, w.alloc (.cells #[.int .u8 o.kind, .slice pA o.path.length pc, .int .i64 o.at_, .slice tA o.to.length tc, .int .u64 o.id, .bool o.leaf, .string o.label, .string o.key, .string o.value, .bool o.gone, .slice cA o.pcs.length cc] 26) = w1 := ⟨_, rfl⟩
 have hE1 : Ext w w1 := by rw [← hw1]; exact (Ext.refl w).alloc _
 have b10 : w1.cell? ⟨w.heap.size, 10, none⟩ = some (.slice cA o.pcs.length cc) := by rw [← hw1]; exact (NBox.new _ _ _).cell 10
 have b1 : w1.cell? ⟨w.heap.size, 1, none⟩ = some (.slice pA o.path.length pc) := by rw [← hw1]; exact (NBox.new _ _ _).cell 1
 have b3 : w1.cell? ⟨w.heap.size, 3, none⟩ = some (.slice tA o.to.length tc) := by rw [← hw1]; exact (NBox.new _ _ _).cell 3
 have b6 : w1.cell? ⟨w.heap.size, 6, none⟩ = some (.string o.label) := by rw [← hw1]; exact (NBox.new _ _ _).cell 6
 have b7 : w1.cell? ⟨w.heap.size, 7, none⟩ = some (.string o.key) := by rw [← hw1]; exact (NBox.new _ _ _).cell 7
 have b8 : w1.cell? ⟨w.heap.size, 8, none⟩ = some (.string o.value) := by rw [← hw1]; exact (NBox.new _ _ _).cell 8
 have H1 := Lib.hid hw1
 clear hw1
 go_enter Try.func8, Try.ntmps8
 go_wp2_with fail
 rw [H1.out]
 clear H1
 go_wp2_with fail
 go_loopw [5, 6] (fun s5 s6 wr => ∃ i n : Nat, s6 = .int .i64 i ∧ s5 = .int .i64 n ∧ i ≤ o.pcs.length ∧ n ≤ top ∧ Hid (pcsLight top n (o.pcs.drop i) = o.light top) ∧ Ext w1 wr) (fun _ i _ => o.pcs.length - (intOf i).toNat)
 case atStart => exact ⟨0, 0, rfl, rfl, Nat.zero_le _, by omega, HF.out.symm, Ext.refl _⟩
 case round =>
  obtain ⟨i, n, rfl, rfl, hi, hn, HW, hE⟩ := hrel
  have q1 : (0 : Int) ≤ (i : Int) := by omega
  have b := hE.cell b10
  rcases Nat.lt_or_ge i o.pcs.length with hlt | hlt
  ·obtain ⟨p, hp⟩ : ∃ p, o.pcs[i]? = some p := ⟨_, List.getElem?_eq_getElem hlt⟩
   obtain ⟨ba, oa, rfl, ra⟩ := c3 (by omega)
   obtain ⟨e1, e2, e3, e4⟩ := rdPcs_at (rdPcs_ext (hE1.trans hE) ra) hp
   have HD := Lib.hid (light_at (top := top) n hp)
   have q2 : (i : Int) < (o.pcs.length : Int) := by omega
   unfold maxLen at e4
   obtain ⟨kp, dp, pt⟩ := p
   simp only at e1 e2 e3 e4 HD
   clear hp ra c3 HF b10 b1 b3 b6 b7 b8
   rcases Nat.lt_or_ge top (n + pt.size) with m4 | m4
   ·have HG : Hid (o.light top = false) := by
     rw [← HW.out, HD.out, decide_eq_false (by omega)]; rfl
    have t4 : decide ((top : Int) - (n : Int) < (pt.size : Int)) = true := decide_eq_true (by omega)
    clear HW HD
    go_wp2_with fail
    go_ret
    exact ret_bool HG.out.symm (hE1.trans hE)
   ·have HN : Hid (pcsLight top (n + pt.size) (o.pcs.drop (i + 1)) = o.light top) := by
     rw [← HW.out, HD.out, decide_eq_true m4]; rfl
    have t4 : decide ((top : Int) - (n : Int) < (pt.size : Int)) = false := decide_eq_false (by omega)
    clear HW HD
    go_wp2_with fail
    go_roundw
    case rel => exact ⟨i + 1, n + pt.size, by go_num, by go_num, by omega, m4, HN, hE⟩
    case measure => simp [intOf]; omega
  ·have HG : Hid (o.light top = true) := by rw [← HW.out, List.drop_eq_nil_of_le hlt]; rfl
   have q2 : decide ((i : Int) < (o.pcs.length : Int)) = false := decide_eq_false (by omega)
   clear HW c3 HF b10 b1 b3 b6 b7 b8
   go_wp2_with fail
   go_ret
   exact ret_bool HG.out.symm (hE1.trans hE)
end Go.Proofs.Ytdnjkffmgmbfmaa.Bs
