/- Chapter 17: tried: what throws is caught; put: what a writer has put. -/
import Derived.Test.YtoplaokimahdiaaWiPath
namespace Go.Proofs.Ytoplaokimahdiaa.Wi
open Go.RowKit Go.Proofs.Ytoplaokimahdiaa.Bw Go.Proofs.Ytoplaokimahdiaa.Bs

theorem is_wrong (W : World) : (Instr.typeAssert (.iface 119 (.agg #[])) 20 119 true).run Try.prog W = .ok (.tuple #[.agg #[], .bool true]) W := by kernel_rfl
set_option maxRecDepth 100000 in
theorem catch_throw (b : Nat) (x : Bool) (w : World) (h : NBox w b 4 #[.bool x]) :
    CallsD Try.prog 79 #[.pointer (some ⟨b, 0, none⟩)] (.panicking WR) w fun e u' w' => e = .returned (.tuple #[]) ∧ u' = .panicking [{ v := .iface 119 (.agg #[]), recovered := true }] ∧ ∃ w1, Ext w w1 ∧ w' = w1.setCell ⟨b, 0, none⟩ (.bool false) := by
  have hX : Ext w (w.alloc (.cells #[] 119)) := (Ext.refl w).alloc _
  have hc : (w.alloc (.cells #[] 119)).cell? ⟨b, 0, none⟩ = some (.bool x) := (h.ext hX).cell 0
  have hz := (h.ext hX).frozen 0
  have hta := is_wrong
  refine callsD_of_wpS Try.func79 rfl fun c₀ cs hu => ?_
  unfold WR at hu
  apply wpS_seq
  apply wpS_region
  simp [wpOpsS, go_sem, recoverD, hu, Try.ntmps79, Exit.thenS]
  refine wpS_of_wp ?_
  go_wp2_with fail
  simp [bodyPostS, results, Try.results79]
  exact ⟨_, hX, rfl⟩
set_option maxRecDepth 100000 in
theorem catch_idle (b : Nat) (x : Bool) (w : World) (h : NBox w b 4 #[.bool x]) :
    CallsD Try.prog 79 #[.pointer (some ⟨b, 0, none⟩)] .returning w fun e u' w' => e = .returned (.tuple #[]) ∧ u' = .returning ∧ w' = w.setCell ⟨b, 0, none⟩ (.bool true) := by
  have hc : w.cell? ⟨b, 0, none⟩ = some (.bool x) := h.cell 0
  have hz := h.frozen 0
  refine callsD_of_wpS Try.func79 rfl fun c₀ cs hu => ?_
  apply wpS_seq
  apply wpS_region
  simp [wpOpsS, go_sem, recoverD, hu, Try.ntmps79, Exit.thenS]
  refine wpS_of_wp ?_
  go_wp2_with fail
  cases c₀
  simp_all [bodyPostS, results, Try.results79]
set_option maxRecDepth 100000 in
set_option maxHeartbeats 1000000 in
theorem tried_any (fn : FuncId) (cap : Array Value) (hfn : ∀ args W, (callFunc fn args).run Try.prog W = .ok (.enter fn args) W) (Φ : Bool → World → Prop) (S : Nat → Prop) (w : World) (hS : ∀ k, S k → k < w.heap.size)
    (h : ∀ W0, Ext w W0 → Calls Try.prog fn cap W0 fun e W' => (e = .returned (.tuple #[]) ∧ Φ true W' ∧ Fr W0 W' S) ∨ (e = .panicked WR ∧ Φ false W' ∧ Fr W0 W' S)) :
    Calls Try.prog 45 #[.func (.func fn) #[] cap] w fun e W' => ∃ b W1 x, e = .returned (.bool b) ∧ Φ b W1 ∧ NBox W1 w.heap.size 4 #[.bool x] ∧ Fr W1 W' (fun k => k = w.heap.size) := by
  have hmf : ∀ (fn : Fn) (first cap : Array Value) (w : World), (Instr.makeFunc fn first cap).run Try.prog w = .ok (.func fn first cap) w := fun _ _ _ _ => rfl
  obtain ⟨w1, hw1⟩ : ∃ W, w.alloc (.cells #[.bool false] 4) = W := ⟨_, rfl⟩
  have E1 : Ext w w1 := by rw [← hw1]; exact (Ext.refl w).alloc _
  have hb : NBox w1 w.heap.size 4 #[.bool false] := by rw [← hw1]; exact NBox.new _ _ _
  obtain ⟨b, hbb⟩ : ∃ b, w.heap.size = b := ⟨_, rfl⟩
  rw [hbb] at hb hS ⊢
  have hc := h w1 E1
  have HW := Lib.hid hw1
  have HB := Lib.hid hbb
  clear h hw1 hbb
  go_enter_defers Try.func45, Try.ntmps45
  go_wp2_with fail
  rw [HW.out, HB.out]
  go_wp2_with fail
  refine hc.mono ?_
  clear hc
  rintro e W' (⟨rfl, hΦ, hF⟩ | ⟨rfl, hΦ, hF⟩)
  · have hb2 := hb.fr hF (fun hk => by have := hS b hk; omega)
    have c0 : W'.cell? ⟨b, 0, none⟩ = some (.bool false) := hb2.cell 0
    have c1 := hb2.frozen 0
    go_wp2_with fail
    have hb3 : NBox (W'.setCell ⟨b, 0, none⟩ (.bool true)) b 4 #[.bool true] := hb2.set 0 _
    refine leaves_cons (f := 79) (args := #[.pointer (some ⟨b, 0, none⟩)]) (by simp) (by simp [go_sem]) ?_
    refine (catch_idle b true _ hb3).mono ?_
    rintro e u' w'' ⟨rfl, rfl, rfl⟩
    have hb4 : NBox ((W'.setCell ⟨b, 0, none⟩ (.bool true)).setCell ⟨b, 0, none⟩ (.bool true)) b 4 #[.bool true] := hb3.set 0 _
    have c4 : ((W'.setCell ⟨b, 0, none⟩ (.bool true)).setCell ⟨b, 0, none⟩ (.bool true)).cell? ⟨b, 0, none⟩ = some (.bool true) := hb4.cell 0
    simp [Leaves, settle, results, Try.results45, go_sem, c4]
    exact ⟨W', hΦ, .inl hb2, (Fr.setCell _ _ _ _).trans (Fr.setCell _ _ _ _)⟩
  · have hb2 := hb.fr hF (fun hk => by have := hS b hk; omega)
    go_wp2_with fail
    refine leaves_cons (f := 79) (args := #[.pointer (some ⟨b, 0, none⟩)]) (by simp) (by simp [go_sem]) ?_
    refine (catch_throw b false _ hb2).mono ?_
    rintro e u' w'' ⟨rfl, rfl, w2, hX, rfl⟩
    have hb3 : NBox w2 b 4 #[.bool false] := hb2.ext hX
    have hb4 : NBox (w2.setCell ⟨b, 0, none⟩ (.bool false)) b 4 #[.bool false] := hb3.set 0 _
    have c4 : (w2.setCell ⟨b, 0, none⟩ (.bool false)).cell? ⟨b, 0, none⟩ = some (.bool false) := hb4.cell 0
    simp [Leaves, settle, results, Try.results45, go_sem, c4]
    exact ⟨W', hΦ, .inl hb2, (Fr.of_ext hX _).trans (Fr.setCell _ _ _ _)⟩
end Go.Proofs.Ytoplaokimahdiaa.Wi
