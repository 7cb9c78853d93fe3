/- Chapter 17: put: what a writer has put; nothing, if it threw. -/
import Derived.Test.YtoplaokimahdiaaWiTried
namespace Go.Proofs.Ytoplaokimahdiaa.Wi
open Go.RowKit Go.Proofs.Ytoplaokimahdiaa.Bw Go.Proofs.Ytoplaokimahdiaa.Bs

theorem enters65 : ∀ args W, (callFunc 65 args).run Try.prog W = .ok (.enter 65 args) W := fun args W => by kernel_rfl
set_option maxRecDepth 100000 in
set_option maxHeartbeats 1000000 in
theorem put1_any (fn : FuncId) (cap : Array Value) (hfn : ∀ args W, (callFunc fn args).run Try.prog W = .ok (.enter fn args) W) (enc : Option (List UInt8)) (E : Nat → Prop) (w0 W : World) (B D P : Nat) (v : Value) (bs : List UInt8)
    (hD : NBox W D 76 #[.func (.func fn) #[] cap]) (hP : NBox W P 73 #[.pointer (some ⟨B, 0, none⟩)]) (h : Calls Try.prog fn (#[.pointer (some ⟨B, 0, none⟩)] ++ cap) W (PutC w0 W B v bs E enc)) :
    Calls Try.prog 65 #[.pointer (some ⟨D, 0, none⟩), .pointer (some ⟨P, 0, none⟩)] W (PutC w0 W B v bs E enc) := by
  have c0 := hD.cell 0
  have c1 := hP.cell 0
  clear hD hP
  go_enter Try.func65, Try.ntmps65
  go_wp2_with fail
  refine h.mono ?_
  clear h
  intro e W' hC
  cases enc with
  | none =>
    obtain ⟨rfl, hN⟩ := hC
    go_wp2_with fail
    exact ⟨rfl, rfl, hN⟩
  | some b =>
    obtain ⟨v', rfl, hP⟩ := hC
    go_wp2_with fail
    go_end0
    exact ⟨_, rfl, hP⟩
/-- What put tells. -/
def PutR (w0 : World) (enc : Option (List UInt8)) (e : Ending) (W' : World) : Prop :=
  Ext w0 W' ∧ ∃ v', e = .returned v' ∧ W'.ownsRow w0.heap.size 5 1 v' (bytesOf enc).length (u8s (bytesOf enc))
set_option maxRecDepth 100000 in
set_option maxHeartbeats 2000000 in
theorem put_any (fn : FuncId) (cap : Array Value) (hfn : ∀ args W, (callFunc fn args).run Try.prog W = .ok (.enter fn args) W) (enc : Option (List UInt8)) (E : Nat → Prop) (w0 w : World) (h0 : Ext w0 w) (hE : ∀ k, E k → k < w.heap.size)
    (h : ∀ W B, Ext w W → w.heap.size ≤ B → St w0 W B (.slice none 0 0) [] → Calls Try.prog fn (#[.pointer (some ⟨B, 0, none⟩)] ++ cap) W (PutC w0 W B (.slice none 0 0) [] E enc)) :
    Calls Try.prog 36 #[.func (.func fn) #[] cap] w (PutR w0 enc) := by
  have hmf : ∀ (fn : Fn) (first cap : Array Value) (w : World), (Instr.makeFunc fn first cap).run Try.prog w = .ok (.func fn first cap) w := fun _ _ _ _ => rfl
  obtain ⟨w3, hw3⟩ : ∃ W, ((w.alloc (.cells #[.func (.func fn) #[] cap] 76)).alloc (.cells #[.slice none 0 0] 106)).alloc (.cells #[.pointer (some ⟨w.heap.size + 1, 0, none⟩)] 73) = W := ⟨_, rfl⟩
  obtain ⟨D, hDD⟩ : ∃ D, w.heap.size = D := ⟨_, rfl⟩
  have s1 : (w.alloc (.cells #[.func (.func fn) #[] cap] 76)).heap.size = D + 1 := by rw [World.size_alloc, hDD]
  have s2 : ((w.alloc (.cells #[.func (.func fn) #[] cap] 76)).alloc (.cells #[.slice none 0 0] 106)).heap.size = D + 1 + 1 := by rw [World.size_alloc, s1]
  have E3 : Ext w w3 := by rw [← hw3]; exact (((Ext.refl w).alloc _).alloc _).alloc _
  have bD : NBox w3 D 76 #[.func (.func fn) #[] cap] := by rw [← hw3, ← hDD]; exact (NBox.new w 76 _).ext (((Ext.refl _).alloc _).alloc _)
  have bB : NBox w3 (D + 1) 106 #[.slice none 0 0] := by rw [← hw3, ← s1]; exact (NBox.new _ 106 _).ext ((Ext.refl _).alloc _)
  have bP : NBox w3 (D + 1 + 1) 73 #[.pointer (some ⟨D + 1, 0, none⟩)] := by rw [← hw3, hDD, ← s2]; exact NBox.new _ 73 _
  rw [hDD] at hw3 hE
  have hlt := bP.lt
  have hD0 : w0.heap.size ≤ D := by rw [← hDD]; exact h0.size
  have hc := tried_any 65 #[.pointer (some ⟨D, 0, none⟩), .pointer (some ⟨D + 1 + 1, 0, none⟩)] enters65 (fun b W' => match b with | true => (∃ bb v', enc = some bb ∧ St w0 W' (D + 1) v' bb) ∧ NBox W' (D + 1 + 1) 73 #[.pointer (some ⟨D + 1, 0, none⟩)] | false => enc = none ∧ Ext w0 W') (Chg (D + 1) (.slice none 0 0) E) w3
    (fun k hk => by
      rcases hk with hk | hk | hk
      · omega
      · cases hk
      · have := hE k hk; omega)
    (fun W0 hW0 => (put1_any fn cap hfn enc E w0 W0 (D + 1) D (D + 1 + 1) (.slice none 0 0) [] (bD.ext hW0) (bP.ext hW0) (h W0 (D + 1) (E3.trans hW0) (by omega) ⟨(h0.trans E3).trans hW0, by omega, bB.ext hW0, ⟨rfl, .inl ⟨rfl, rfl⟩⟩⟩)).mono fun e W' hC => by
      cases henc : enc with
      | none =>
        rw [henc] at hC
        exact .inr ⟨hC.1, ⟨rfl, hC.2.ext⟩, hC.2.fr⟩
      | some bb =>
        rw [henc] at hC
        obtain ⟨v', h1, h2⟩ := hC
        refine .inl ⟨h1, ⟨⟨bb, v', rfl, h2.st⟩, (bP.ext hW0).fr h2.fr (fun hk => ?_)⟩, h2.fr⟩
        rcases hk with hk | hk | hk
        · omega
        · cases hk
        · have := hE _ hk; omega)
  have HC := Lib.hid hc
  have HW := Lib.hid hw3
  have HD := Lib.hid hDD
  clear hc hw3 hDD s1 s2 bD bB bP h
  go_enter Try.func36, Try.ntmps36
  go_wp2_with fail
  rw [HD.out, HW.out]
  refine HC.out.mono ?_
  clear HC HW
  rintro e W' ⟨b, W1, x, rfl, hΦ, hok, hF⟩
  cases b with
  | false =>
    obtain ⟨henc, hX⟩ := hΦ
    have HN := Lib.hid henc
    have hX2 : Ext w0 W' := Fr.ext hX hF (fun k hk => by have := E3.size; have := h0.size; omega)
    clear henc hok hF hX
    go_wp2_with fail
    go_ret
    rw [HN.out]
    exact ⟨hX2, _, rfl, ⟨rfl, .inl ⟨rfl, rfl⟩⟩⟩
  | true =>
    obtain ⟨⟨bb, v', henc, hS⟩, hbP⟩ := hΦ
    have HN := Lib.hid henc
    have c1 := (hbP.fr hF (by omega)).cell 0
    have c2 := (hS.box.fr hF (by omega)).cell 0
    have hO := owns_fr hF hS.own (fun g hg hk => by
      have := hok.not_own hS.own (by decide)
      rw [hk] at hg
      exact this hg)
    have hX2 : Ext w0 W' := Fr.ext hS.ext hF (fun k hk => by have := E3.size; have := h0.size; omega)
    have HO := Lib.hid hO
    obtain ⟨vA, vC, rfl, -⟩ := RdS.of_owns hO
    clear henc hok hF hS hbP hO
    go_wp2_with fail
    go_ret
    rw [HN.out]
    exact ⟨hX2, _, rfl, HO.out⟩
end Go.Proofs.Ytoplaokimahdiaa.Wi
