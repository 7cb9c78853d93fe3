/- Chapter 17: a path is put. -/
import Derived.Test.YtoplaokimahdiaaWiPuts
namespace Go.Proofs.Ytoplaokimahdiaa.Wi
open Go.RowKit Go.Proofs.Ytoplaokimahdiaa.Bw Go.Proofs.Ytoplaokimahdiaa.Bs

theorem PutC.from {w0 w w1 : World} {B : Nat} {v : Value} {bs : List UInt8} {E : Nat → Prop} {enc : Option (List UInt8)} {e : Ending} {W' : World} (he : Ext w w1) (h : PutC w0 w1 B v bs E enc e W') : PutC w0 w B v bs E enc e W' := by
  cases enc with
  | none => exact ⟨h.1, h.2.ext, (Fr.of_ext he _).trans h.2.fr⟩
  | some b =>
    obtain ⟨v', h1, h2⟩ := h
    exact ⟨v', h1, h2.st, (Fr.of_ext he _).trans h2.fr, fun k hk => (h2.ow k hk).imp_right (Nat.le_trans he.size)⟩
theorem PutC.any {w0 w : World} {B : Nat} {v : Value} {bs : List UInt8} {E : Nat → Prop} {enc : Option (List UInt8)} {e : Ending} {W' : World} (h : PutC w0 w B v bs none_ enc e W') : PutC w0 w B v bs E enc e W' := by
  cases enc with
  | none => exact ⟨h.1, h.2.any⟩
  | some b =>
    obtain ⟨v', h1, h2⟩ := h
    exact ⟨v', h1, h2.any⟩
theorem keepsBox (w0 : World) (B C : Nat) (t : TypeId) (cs : Array Value) (h1 : t ≠ 106) (h2 : t ≠ 5) : Keeps w0 B (fun _ W => NBox W C t cs) :=
  ⟨fun _ W W' v bs hJ hS hF => hJ.fr hF (fun hk => by
    rcases hk with hk | hk | hk
    · exact NBox.apart hJ hS.box h1 hk
    · exact hJ.not_own hS.own h2 hk
    · exact hk.elim)⟩
theorem smallE_len {n below : Int} {b : List UInt8} (hb : below ≤ 4611686018427387904) (h : smallE n below = some b) : b.length ≤ 10 := by
  unfold smallE at h
  split at h
  next h1 =>
    cases h
    exact num_len (by omega)
  next => cases h
theorem seqE_len {α : Type} {f : α → Option (List UInt8)} {M : Nat} (hf : ∀ x b, f x = some b → b.length ≤ M) : ∀ (l : List α) (b : List UInt8), seqE (l.map f) = some b → b.length ≤ l.length * M
  | [], b, h => by cases h; exact Nat.zero_le _
  | x :: l, b, h => by
    obtain ⟨a, c, h1, h2, rfl⟩ := seqE_cons_some (show seqE (f x :: l.map f) = some b from h)
    have := hf x a h1
    have := seqE_len hf l c h2
    rw [List.length_append, List.length_cons, Nat.succ_mul]
    omega
theorem rowE_len {α : Type} {f : α → Option (List UInt8)} {M : Nat} (hf : ∀ x b, f x = some b → b.length ≤ M) {l : List α} {most : Nat} (hm : most < 18446744073709551616) {b : List UInt8} (h : rowE l most f = some b) : b.length ≤ 10 + most * M := by
  unfold rowE at h
  split at h
  next h1 =>
    obtain ⟨a, c, h2, h3, rfl⟩ := seqE_cons_some h
    cases h2
    have := num_len (n := l.length) (by omega)
    have := seqE_len hf l c h3
    have : l.length * M ≤ most * M := Nat.mul_le_mul_right M h1
    rw [List.length_append]
    omega
  next => cases h
theorem pathE_len {p : List Int} {b : List UInt8} (h : pathE p = some b) : b.length ≤ 650 := rowE_len (M := 10) (fun _ _ hb => smallE_len (by decide) hb) (by decide) h
set_option maxRecDepth 100000 in
set_option maxHeartbeats 1000000 in
theorem path1_any (x : Int) (C : Nat) (w0 w : World) (B : Nat) (v : Value) (bs : List UInt8) (h : St w0 w B v bs) (hC : NBox w C 73 #[.pointer (some ⟨B, 0, none⟩)]) (hl : bs.length ≤ 100000000000000) : Calls Try.prog 78 #[.int .i64 x, .pointer (some ⟨C, 0, none⟩)] w (PutC w0 w B v bs none_ (smallE x 1048577)) := by
  have hc := small_any x 1048577 (by decide) w0 w B v bs h hl
  have c0 := hC.cell 0
  obtain ⟨r, hr⟩ : ∃ r, smallE x 1048577 = r := ⟨_, rfl⟩
  rw [hr] at hc ⊢
  clear hr h hC
  go_enter Try.func78, Try.ntmps78
  go_wp2_with fail
  refine hc.mono ?_
  clear hc
  intro e W' hP
  cases r with
  | none =>
    obtain ⟨rfl, hN⟩ := hP
    go_wp2_with fail
    exact ⟨rfl, rfl, hN⟩
  | some b =>
    obtain ⟨v', rfl, hP⟩ := hP
    go_wp2_with fail
    go_end0
    exact ⟨_, rfl, hP⟩
set_option maxRecDepth 100000 in
set_option maxHeartbeats 1000000 in
theorem path_any (l : List Int) (lv : Value) (w0 w : World) (B : Nat) (v : Value) (bs : List UInt8) (hlv : RdI w0 l lv) (h : St w0 w B v bs) (hl : bs.length + 650 ≤ 100000000000000) : Calls Try.prog 44 #[.pointer (some ⟨B, 0, none⟩), lv] w (PutC w0 w B v bs none_ (pathE l)) := by
  have hmf : ∀ (fn : Fn) (first cap : Array Value) (w : World), (Instr.makeFunc fn first cap).run Try.prog w = .ok (.func fn first cap) w := fun _ _ _ _ => rfl
  obtain ⟨w1, hw1⟩ : ∃ W, w.alloc (.cells #[.pointer (some ⟨B, 0, none⟩)] 73) = W := ⟨_, rfl⟩
  have E1 : Ext w w1 := by rw [← hw1]; exact (Ext.refl w).alloc _
  have hC : NBox w1 w.heap.size 73 #[.pointer (some ⟨B, 0, none⟩)] := by rw [← hw1]; exact NBox.new _ _ _
  obtain ⟨C, hCC⟩ : ∃ C, w.heap.size = C := ⟨_, rfl⟩
  rw [hCC] at hC
  have c0 := hC.cell 0
  have hc := puts77 78 #[.pointer (some ⟨C, 0, none⟩)] (fun n => smallE n 1048577) l 64 10 (by decide) none_ (fun _ W => NBox W C 73 #[.pointer (some ⟨B, 0, none⟩)]) w0 w1 B v lv bs hlv (h.more E1) (by omega) (keepsBox w0 B C 73 _ (by decide) (by decide)) hC enters78
    (fun i x W v1 b1 hx hJ hS hb => (path1_any x C w0 W B v1 b1 hS hJ (by omega)).mono fun e W' hP => ⟨hP, fun b hbb => ⟨smallE_len (by decide) hbb, by
      have hbb : smallE x 1048577 = some b := hbb
      rw [hbb] at hP
      obtain ⟨v', _, hP⟩ := hP
      exact (keepsBox w0 B C 73 _ (by decide) (by decide)).fr 0 W W' v1 b1 hJ hS hP.fr⟩⟩)
  have HC := Lib.hid hc
  have HW := Lib.hid hw1
  have HCC := Lib.hid hCC
  have HE := Lib.hid E1
  obtain ⟨A, c, rfl, -⟩ := hlv
  clear hc hw1 hCC hC h E1
  go_enter Try.func44, Try.ntmps44
  go_wp2_with fail
  rw [HW.out, HCC.out]
  go_wp2_with fail
  refine HC.out.mono ?_
  clear HC HW HCC c0
  rintro e W' ⟨hQ, -⟩
  have hP : PutC w0 w B v bs none_ (pathE l) e W' := PutC.from HE.out hQ
  clear hQ
  obtain ⟨r, hr⟩ : ∃ r, pathE l = r := ⟨_, rfl⟩
  rw [hr] at hP
  have HR := Lib.hid hr
  clear hr
  cases r with
  | none =>
    obtain ⟨rfl, hN⟩ := hP
    go_wp2_with fail
    refine ⟨rfl, ?_⟩
    rw [HR.out]
    exact ⟨rfl, hN⟩
  | some b =>
    obtain ⟨v', rfl, hP⟩ := hP
    go_wp2_with fail
    go_end0
    rw [HR.out]
    exact ⟨_, rfl, hP⟩
end Go.Proofs.Ytoplaokimahdiaa.Wi
