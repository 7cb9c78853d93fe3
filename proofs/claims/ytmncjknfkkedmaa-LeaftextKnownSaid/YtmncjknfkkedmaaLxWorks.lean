/- Chapter 05: the chapter's examples. -/
import Derived.Test.YtmncjknfkkedmaaLxTrans
import Derived.Test.YtmncjknfkkedmaaLxInvert
import Derived.Test.YtmncjknfkkedmaaLxSame
namespace Go.Proofs.Ytmncjknfkkedmaa.Lx
open Go.RowKit Go.Proofs.Ytmncjknfkkedmaa.Bw Go.Proofs.Ytmncjknfkkedmaa.Bs

theorem rdp_lit (w : World) (l : List Pc) (hl : l.length ≤ maxLen) (hs : ∀ p ∈ l, okStr p.put) : RdP (w.alloc (.cells (pcVals l).toArray 29)) l (.slice (some ⟨w.heap.size, 0, none⟩) l.length l.length) := by
  refine ⟨_, l.length, rfl, Nat.le_refl _, hl, fun _ => ⟨w.heap.size, 0, rfl, rdPcs_of_vals (fun i x hx => ?_) hs⟩⟩
  rw [(NBox.new w 29 (pcVals l).toArray).cell]
  simpa using hx
def e1 : List Pc := [⟨1, 2, ⟨#[88]⟩⟩, ⟨1, 0, ⟨#[89]⟩⟩]
def e2 : List Pc := [⟨1, 0, ⟨#[]⟩⟩, ⟨2, 0, ⟨#[97]⟩⟩, ⟨0, 1, ⟨#[98]⟩⟩]
def e3 : List Pc := [⟨2, 0, ⟨#[88]⟩⟩]
def e4 : List Pc := [⟨2, 0, ⟨#[89]⟩⟩]
def e5 : List Pc := [⟨0, 3, ⟨#[]⟩⟩]
def e6 : List Pc := [⟨1, 1, ⟨#[89]⟩⟩]
def e7 : List Pc := [⟨1, 1, ⟨#[88, 89]⟩⟩]
def f1 : List Pc := [⟨3, 1, ⟨#[97, 98]⟩⟩]
def f2 : List Pc := [⟨2, 0, ⟨#[88]⟩⟩]
def f3 : List Pc := [⟨3, 0, ⟨#[89]⟩⟩]
def f4 : List Pc := [⟨0, 1, ⟨#[]⟩⟩, ⟨1, 1, ⟨#[]⟩⟩]
def f5 : List Pc := [⟨0, 0, ⟨#[89]⟩⟩]
def f6 : List Pc := [⟨1, 2, ⟨#[98]⟩⟩]

theorem k1 : apE (⟨#[97, 98, 99, 100, 101, 102]⟩ : ByteArray) e1 = 0 := by kernel_rfl
theorem k2 : apS (⟨#[97, 98, 99, 100, 101, 102]⟩ : ByteArray) e1 = ⟨#[97, 88, 100, 89, 101, 102]⟩ := by kernel_rfl
theorem k3 : pcsEq (normR e2) f1 = true := by kernel_rfl
theorem k4 : trE true e3 e4 = 0 := by kernel_rfl
theorem k5 : pcsEq (trX true e3 e4) f2 = true := by kernel_rfl
theorem k6 : pcsEq (trY true e3 e4) f3 = true := by kernel_rfl
theorem k7 : trE true e5 e6 = 0 := by kernel_rfl
theorem k8 : pcsEq (trX true e5 e6) f4 = true := by kernel_rfl
theorem k9 : pcsEq (trY true e5 e6) f5 = true := by kernel_rfl
theorem k10 : inE (⟨#[97, 98, 99]⟩ : ByteArray) e7 = 0 := by kernel_rfl
theorem k11 : pcsEq (inL (⟨#[97, 98, 99]⟩ : ByteArray) e7) f6 = true := by kernel_rfl
theorem ok_e1 : ∀ p ∈ e1, okStr p.put := by
  intro p hp
  simp only [e1, List.mem_cons, List.not_mem_nil, or_false] at hp
  rcases hp with rfl | rfl <;> (unfold okStr maxLen; decide)
theorem ok_e2 : ∀ p ∈ e2, okStr p.put := by
  intro p hp
  simp only [e2, List.mem_cons, List.not_mem_nil, or_false] at hp
  rcases hp with rfl | rfl | rfl <;> (unfold okStr maxLen; decide)
theorem ok_e3 : ∀ p ∈ e3, okStr p.put := by
  intro p hp
  simp only [e3, List.mem_cons, List.not_mem_nil, or_false] at hp
  subst hp <;> (unfold okStr maxLen; decide)
theorem ok_e4 : ∀ p ∈ e4, okStr p.put := by
  intro p hp
  simp only [e4, List.mem_cons, List.not_mem_nil, or_false] at hp
  subst hp <;> (unfold okStr maxLen; decide)
theorem ok_e5 : ∀ p ∈ e5, okStr p.put := by
  intro p hp
  simp only [e5, List.mem_cons, List.not_mem_nil, or_false] at hp
  subst hp <;> (unfold okStr maxLen; decide)
theorem ok_e6 : ∀ p ∈ e6, okStr p.put := by
  intro p hp
  simp only [e6, List.mem_cons, List.not_mem_nil, or_false] at hp
  subst hp <;> (unfold okStr maxLen; decide)
theorem ok_e7 : ∀ p ∈ e7, okStr p.put := by
  intro p hp
  simp only [e7, List.mem_cons, List.not_mem_nil, or_false] at hp
  subst hp <;> (unfold okStr maxLen; decide)
theorem ok_f1 : ∀ p ∈ f1, okStr p.put := by
  intro p hp
  simp only [f1, List.mem_cons, List.not_mem_nil, or_false] at hp
  subst hp <;> (unfold okStr maxLen; decide)
theorem ok_f2 : ∀ p ∈ f2, okStr p.put := by
  intro p hp
  simp only [f2, List.mem_cons, List.not_mem_nil, or_false] at hp
  subst hp <;> (unfold okStr maxLen; decide)
theorem ok_f3 : ∀ p ∈ f3, okStr p.put := by
  intro p hp
  simp only [f3, List.mem_cons, List.not_mem_nil, or_false] at hp
  subst hp <;> (unfold okStr maxLen; decide)
theorem ok_f4 : ∀ p ∈ f4, okStr p.put := by
  intro p hp
  simp only [f4, List.mem_cons, List.not_mem_nil, or_false] at hp
  rcases hp with rfl | rfl <;> (unfold okStr maxLen; decide)
theorem ok_f5 : ∀ p ∈ f5, okStr p.put := by
  intro p hp
  simp only [f5, List.mem_cons, List.not_mem_nil, or_false] at hp
  subst hp <;> (unfold okStr maxLen; decide)
theorem ok_f6 : ∀ p ∈ f6, okStr p.put := by
  intro p hp
  simp only [f6, List.mem_cons, List.not_mem_nil, or_false] at hp
  subst hp <;> (unfold okStr maxLen; decide)

set_option maxRecDepth 100000 in
set_option maxHeartbeats 4000000 in
theorem works_any (w : World) : Calls Try.prog 13 #[] w (Ret w fun r _ => r = .bool true) := by
  go_enter Try.func13, Try.ntmps13
  have r1 : RdP (w.alloc (.cells #[.int .i64 1, .int .i64 2, .string ⟨#[88]⟩, .int .i64 1, .int .i64 0, .string ⟨#[89]⟩] 29)) e1 (.slice (some ⟨w.heap.size, 0, none⟩) 2 2) := rdp_lit w e1 (by decide) (ok_e1)
  have hc := apply_any (⟨#[97, 98, 99, 100, 101, 102]⟩ : ByteArray) e1 _ _ r1 (by decide)
  rw [k1, k2] at hc
  go_wp2_with fail
  refine hc.mono ?_
  clear hc r1
  rintro e w1 ⟨_, rfl, rfl, hE⟩
  have E1 : Ext w w1 := ((Ext.refl w).alloc _).trans hE
  clear hE
  have r1 : RdP (w1.alloc (.cells #[.int .i64 1, .int .i64 0, .string ⟨#[]⟩, .int .i64 2, .int .i64 0, .string ⟨#[97]⟩, .int .i64 0, .int .i64 1, .string ⟨#[98]⟩] 29)) e2 (.slice (some ⟨w1.heap.size, 0, none⟩) 3 3) := rdp_lit w1 e2 (by decide) (ok_e2)
  have hc := Norm_any e2 _ _ r1
  go_wp2_with fail
  refine hc.mono ?_
  clear hc r1
  rintro e w2 ⟨v2, rfl, O2, hE⟩
  have E2 : Ext w w2 := (E1.alloc _).trans hE
  have R2 : RdP w2 (normR e2) v2 := RdP.of_owns O2 (by rw [pcsEq_iff.1 k3]; exact ok_f1)
  clear hE E1 O2
  have r1 : RdP (w2.alloc (.cells #[.int .i64 2, .int .i64 0, .string ⟨#[88]⟩] 29)) e3 (.slice (some ⟨w2.heap.size, 0, none⟩) 1 1) := rdp_lit w2 e3 (by decide) (ok_e3)
  obtain ⟨w2a, hw2a⟩ : ∃ W, w2.alloc (.cells #[.int .i64 2, .int .i64 0, .string ⟨#[88]⟩] 29) = W := ⟨_, rfl⟩
  have E2a : Ext w2 w2a := by rw [← hw2a]; exact (Ext.refl w2).alloc _
  have n2a : w2.heap.size + 1 = w2a.heap.size := by rw [← hw2a]; simp
  rw [hw2a] at r1
  have r2 : RdP (w2a.alloc (.cells #[.int .i64 2, .int .i64 0, .string ⟨#[89]⟩] 29)) e4 (.slice (some ⟨w2a.heap.size, 0, none⟩) 1 1) := rdp_lit w2a e4 (by decide) (ok_e4)
  have hc := transform_any e3 e4 _ _ true _ (r1.ext ((Ext.refl w2a).alloc (.cells #[.int .i64 2, .int .i64 0, .string ⟨#[89]⟩] 29))) r2
  rw [k4] at hc
  go_wp2_with fail

  refine hc.mono ?_
  clear hc r1 r2 hw2a n2a
  rintro e w3 ⟨x3, y3, rfl, X3, Y3, hE⟩
  have E3 : Ext w w3 := ((E2.trans E2a).alloc _).trans hE
  replace R2 := R2.ext ((E2a.alloc _).trans hE)
  clear hE E2 E2a
  have r1 : RdP (w3.alloc (.cells #[.int .i64 0, .int .i64 3, .string ⟨#[]⟩] 29)) e5 (.slice (some ⟨w3.heap.size, 0, none⟩) 1 1) := rdp_lit w3 e5 (by decide) (ok_e5)
  obtain ⟨w3a, hw3a⟩ : ∃ W, w3.alloc (.cells #[.int .i64 0, .int .i64 3, .string ⟨#[]⟩] 29) = W := ⟨_, rfl⟩
  have E3a : Ext w3 w3a := by rw [← hw3a]; exact (Ext.refl w3).alloc _
  have n3a : w3.heap.size + 1 = w3a.heap.size := by rw [← hw3a]; simp
  rw [hw3a] at r1
  have r2 : RdP (w3a.alloc (.cells #[.int .i64 1, .int .i64 1, .string ⟨#[89]⟩] 29)) e6 (.slice (some ⟨w3a.heap.size, 0, none⟩) 1 1) := rdp_lit w3a e6 (by decide) (ok_e6)
  have hc := transform_any e5 e6 _ _ true _ (r1.ext ((Ext.refl w3a).alloc (.cells #[.int .i64 1, .int .i64 1, .string ⟨#[89]⟩] 29))) r2
  rw [k7] at hc
  go_wp2_with fail

  refine hc.mono ?_
  clear hc r1 r2 hw3a n3a
  rintro e w4 ⟨x4, y4, rfl, X4, Y4, hE⟩
  have E4 : Ext w w4 := ((E3.trans E3a).alloc _).trans hE
  have E34 := (E3a.alloc (.cells #[.int .i64 1, .int .i64 1, .string ⟨#[89]⟩] 29)).trans hE
  replace R2 := R2.ext E34
  replace X3 := X3.ext E34
  replace Y3 := Y3.ext E34
  clear hE E3 E3a E34
  have r1 : RdP (w4.alloc (.cells #[.int .i64 1, .int .i64 1, .string ⟨#[88, 89]⟩] 29)) e7 (.slice (some ⟨w4.heap.size, 0, none⟩) 1 1) := rdp_lit w4 e7 (by decide) (ok_e7)
  have hc := invert_any (⟨#[97, 98, 99]⟩ : ByteArray) e7 _ _ r1 (by decide)
  rw [k10] at hc
  go_wp2_with fail
  refine hc.mono ?_
  clear hc r1
  rintro e w5 ⟨v5, rfl, V5, hE⟩
  have E5 : Ext w w5 := (E4.alloc _).trans hE
  have E45 : Ext w4 w5 := ((Ext.refl w4).alloc _).trans hE
  replace R2 := R2.ext E45
  replace X3 := X3.ext E45
  replace Y3 := Y3.ext E45
  replace X4 := X4.ext E45
  replace Y4 := Y4.ext E45
  clear hE E4 E45
  have r1 : RdP (w5.alloc (.cells #[.int .i64 3, .int .i64 1, .string ⟨#[97, 98]⟩] 29)) f1 (.slice (some ⟨w5.heap.size, 0, none⟩) 1 1) := rdp_lit w5 f1 (by decide) (ok_f1)
  have hc := same_any (normR e2) f1 _ _ _ (R2.ext ((Ext.refl w5).alloc (.cells #[.int .i64 3, .int .i64 1, .string ⟨#[97, 98]⟩] 29))) r1
  rw [k3] at hc
  go_wp2_with fail
  refine hc.mono ?_
  clear hc r1 R2
  rintro e w6 ⟨_, rfl, rfl, hE⟩
  have E6 : Ext w w6 := (E5.alloc _).trans hE
  have EE : Ext w5 w6 := ((Ext.refl w5).alloc _).trans hE
  replace X3 := X3.ext EE
  replace Y3 := Y3.ext EE
  replace X4 := X4.ext EE
  replace Y4 := Y4.ext EE
  replace V5 := V5.ext EE
  clear hE E5 EE
  have r1 : RdP (w6.alloc (.cells #[.int .i64 2, .int .i64 0, .string ⟨#[88]⟩] 29)) f2 (.slice (some ⟨w6.heap.size, 0, none⟩) 1 1) := rdp_lit w6 f2 (by decide) (ok_f2)
  have hc := same_any (trX true e3 e4) f2 _ _ _ (X3.ext ((Ext.refl w6).alloc (.cells #[.int .i64 2, .int .i64 0, .string ⟨#[88]⟩] 29))) r1
  rw [k5] at hc
  go_wp2_with fail
  refine hc.mono ?_
  clear hc r1 X3
  rintro e w7 ⟨_, rfl, rfl, hE⟩
  have E7 : Ext w w7 := (E6.alloc _).trans hE
  have EE : Ext w6 w7 := ((Ext.refl w6).alloc _).trans hE
  replace Y3 := Y3.ext EE
  replace X4 := X4.ext EE
  replace Y4 := Y4.ext EE
  replace V5 := V5.ext EE
  clear hE E6 EE
  have r1 : RdP (w7.alloc (.cells #[.int .i64 3, .int .i64 0, .string ⟨#[89]⟩] 29)) f3 (.slice (some ⟨w7.heap.size, 0, none⟩) 1 1) := rdp_lit w7 f3 (by decide) (ok_f3)
  have hc := same_any (trY true e3 e4) f3 _ _ _ (Y3.ext ((Ext.refl w7).alloc (.cells #[.int .i64 3, .int .i64 0, .string ⟨#[89]⟩] 29))) r1
  rw [k6] at hc
  go_wp2_with fail
  refine hc.mono ?_
  clear hc r1 Y3
  rintro e w8 ⟨_, rfl, rfl, hE⟩
  have E8 : Ext w w8 := (E7.alloc _).trans hE
  have EE : Ext w7 w8 := ((Ext.refl w7).alloc _).trans hE
  replace X4 := X4.ext EE
  replace Y4 := Y4.ext EE
  replace V5 := V5.ext EE
  clear hE E7 EE
  have r1 : RdP (w8.alloc (.cells #[.int .i64 0, .int .i64 1, .string ⟨#[]⟩, .int .i64 1, .int .i64 1, .string ⟨#[]⟩] 29)) f4 (.slice (some ⟨w8.heap.size, 0, none⟩) 2 2) := rdp_lit w8 f4 (by decide) (ok_f4)
  have hc := same_any (trX true e5 e6) f4 _ _ _ (X4.ext ((Ext.refl w8).alloc (.cells #[.int .i64 0, .int .i64 1, .string ⟨#[]⟩, .int .i64 1, .int .i64 1, .string ⟨#[]⟩] 29))) r1
  rw [k8] at hc
  go_wp2_with fail
  refine hc.mono ?_
  clear hc r1 X4
  rintro e w9 ⟨_, rfl, rfl, hE⟩
  have E9 : Ext w w9 := (E8.alloc _).trans hE
  have EE : Ext w8 w9 := ((Ext.refl w8).alloc _).trans hE
  replace Y4 := Y4.ext EE
  replace V5 := V5.ext EE
  clear hE E8 EE
  have r1 : RdP (w9.alloc (.cells #[.int .i64 0, .int .i64 0, .string ⟨#[89]⟩] 29)) f5 (.slice (some ⟨w9.heap.size, 0, none⟩) 1 1) := rdp_lit w9 f5 (by decide) (ok_f5)
  have hc := same_any (trY true e5 e6) f5 _ _ _ (Y4.ext ((Ext.refl w9).alloc (.cells #[.int .i64 0, .int .i64 0, .string ⟨#[89]⟩] 29))) r1
  rw [k9] at hc
  go_wp2_with fail
  refine hc.mono ?_
  clear hc r1 Y4
  rintro e w10 ⟨_, rfl, rfl, hE⟩
  have E10 : Ext w w10 := (E9.alloc _).trans hE
  have EE : Ext w9 w10 := ((Ext.refl w9).alloc _).trans hE
  replace V5 := V5.ext EE
  clear hE E9 EE
  have r1 : RdP (w10.alloc (.cells #[.int .i64 1, .int .i64 2, .string ⟨#[98]⟩] 29)) f6 (.slice (some ⟨w10.heap.size, 0, none⟩) 1 1) := rdp_lit w10 f6 (by decide) (ok_f6)
  have hc := same_any (inL (⟨#[97, 98, 99]⟩ : ByteArray) e7) f6 _ _ _ (V5.ext ((Ext.refl w10).alloc (.cells #[.int .i64 1, .int .i64 2, .string ⟨#[98]⟩] 29))) r1
  rw [k11] at hc
  go_wp2_with fail
  refine hc.mono ?_
  clear hc r1 V5
  rintro e w11 ⟨_, rfl, rfl, hE⟩
  have E11 : Ext w w11 := (E10.alloc _).trans hE
  have EE : Ext w10 w11 := ((Ext.refl w10).alloc _).trans hE
  clear hE E10 EE
  go_wp2_with fail
  go_ret
  exact ⟨_, rfl, rfl, E11⟩
end Go.Proofs.Ytmncjknfkkedmaa.Lx
