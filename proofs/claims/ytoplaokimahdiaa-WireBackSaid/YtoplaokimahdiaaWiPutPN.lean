/- Chapter 17: tried: what throws is caught; put: what a writer has put. -/
import Derived.Test.YtoplaokimahdiaaWiPath
namespace Go.Proofs.Ytoplaokimahdiaa.Wi
open Go.RowKit Go.Proofs.Ytoplaokimahdiaa.Bw Go.Proofs.Ytoplaokimahdiaa.Bs

theorem is_wrong (W : World) : (Instr.typeAssert (.iface 119 (.agg #[])) 20 119 true).run Try.prog W = .ok (.tuple #[.agg #[], .bool true]) W := by kernel_rfl
set_option maxRecDepth 100000 in
theorem catch_throw (b : Nat) (x : Bool) (w : World) (h : NBox w b 4 #[.bool x]) :
    CallsD Try.prog 79 #[.pointer (some ⟨b, 0, none⟩)] (.panicking WR) w fun e u' w' => e = .returned (.tuple #[]) ∧ u' = .panicking [{ v := .iface 119 (.agg #[]), recovered := true }] ∧ ∃ w1, Ext w w1 ∧ w' = w1.setCell ⟨b, 0, none⟩ (.bool false) := by
  have hX : Ext w (w.alloc (.cells #[] 119)) := (Ext.refl w).alloc _
  have hc : (w.alloc (.cells #[] 119)).cell? ⟨b, 0, none⟩ = some (.bool x) := (h.ext hX).cell 0
  have hz := (h.ext hX).frozen 0
  have hta := is_wrong
  refine callsD_of_wpS Try.func79 rfl fun c₀ cs hu => ?_
  unfold WR at hu
  apply wpS_seq
  apply wpS_region
  simp [wpOpsS, go_sem, recoverD, hu, Try.ntmps79, Exit.thenS]
  refine wpS_of_wp ?_
  go_wp2_with fail
  simp [bodyPostS, results, Try.results79]
  exact ⟨_, hX, rfl⟩
set_option maxRecDepth 100000 in
theorem catch_idle (b : Nat) (x : Bool) (w : World) (h : NBox w b 4 #[.bool x]) :
    CallsD Try.prog 79 #[.pointer (some ⟨b, 0, none⟩)] .returning w fun e u' w' => e = .returned (.tuple #[]) ∧ u' = .returning ∧ w' = w.setCell ⟨b, 0, none⟩ (.bool true) := by
  have hc : w.cell? ⟨b, 0, none⟩ = some (.bool x) := h.cell 0
  have hz := h.frozen 0
  refine callsD_of_wpS Try.func79 rfl fun c₀ cs hu => ?_
  apply wpS_seq
  apply wpS_region
  simp [wpOpsS, go_sem, recoverD, hu, Try.ntmps79, Exit.thenS]
  refine wpS_of_wp ?_
  go_wp2_with fail
  cases c₀
  simp_all [bodyPostS, results, Try.results79]
set_option maxRecDepth 100000 in
set_option maxHeartbeats 1000000 in
theorem tried_any (fn : FuncId) (cap : Array Value) (hfn : ∀ args W, (callFunc fn args).run Try.prog W = .ok (.enter fn args) W) (Φ : Bool → World → Prop) (S : Nat → Prop) (w : World) (hS : ∀ k, S k → k < w.heap.size)
    (h : ∀ W0, Ext w W0 → Calls Try.prog fn cap W0 fun e W' => (e = .returned (.tuple #[]) ∧ Φ true W' ∧ Fr W0 W' S) ∨ (e = .panicked WR ∧ Φ false W' ∧ Fr W0 W' S)) :
    Calls Try.prog 45 #[.func (.func fn) #[] cap] w fun e W' => ∃ b W1 x, e = .returned (.bool b) ∧ Φ b W1 ∧ NBox W1 w.heap.size 4 #[.bool x] ∧ Fr W1 W' (fun k => k = w.heap.size) := by
  have hmf : ∀ (fn : Fn) (first cap : Array Value) (w : World), (Instr.makeFunc fn first cap).run Try.prog w = .ok (.func fn first cap) w := fun _ _ _ _ => rfl
  obtain ⟨w1, hw1⟩ : ∃ W, w.alloc (.cells #[.bool false] 4) = W := ⟨_, rfl⟩
  have E1 : Ext w w1 := by rw [← hw1]; exact (Ext.refl w).alloc _
  have hb : NBox w1 w.heap.size 4 #[.bool false] := by rw [← hw1]; exact NBox.new _ _ _
  obtain ⟨b, hbb⟩ : ∃ b, w.heap.size = b := ⟨_, rfl⟩
  rw [hbb] at hb hS ⊢
  have hc := h w1 E1
  have HW := Lib.hid hw1
  have HB := Lib.hid hbb
  clear h hw1 hbb
  go_enter_defers Try.func45, Try.ntmps45
  go_wp2_with fail
  rw [HW.out, HB.out]
  go_wp2_with fail
  refine hc.mono ?_
  clear hc
  rintro e W' (⟨rfl, hΦ, hF⟩ | ⟨rfl, hΦ, hF⟩)
  · have hb2 := hb.fr hF (fun hk => by have := hS b hk; omega)
    have c0 : W'.cell? ⟨b, 0, none⟩ = some (.bool false) := hb2.cell 0
    have c1 := hb2.frozen 0
    go_wp2_with fail
    have hb3 : NBox (W'.setCell ⟨b, 0, none⟩ (.bool true)) b 4 #[.bool true] := hb2.set 0 _
    refine leaves_cons (f := 79) (args := #[.pointer (some ⟨b, 0, none⟩)]) (by simp) (by simp [go_sem]) ?_
    refine (catch_idle b true _ hb3).mono ?_
    rintro e u' w'' ⟨rfl, rfl, rfl⟩
    have hb4 : NBox ((W'.setCell ⟨b, 0, none⟩ (.bool true)).setCell ⟨b, 0, none⟩ (.bool true)) b 4 #[.bool true] := hb3.set 0 _
    have c4 : ((W'.setCell ⟨b, 0, none⟩ (.bool true)).setCell ⟨b, 0, none⟩ (.bool true)).cell? ⟨b, 0, none⟩ = some (.bool true) := hb4.cell 0
    simp [Leaves, settle, results, Try.results45, go_sem, c4]
    exact ⟨W', hΦ, .inl hb2, (Fr.setCell _ _ _ _).trans (Fr.setCell _ _ _ _)⟩
  · have hb2 := hb.fr hF (fun hk => by have := hS b hk; omega)
    go_wp2_with fail
    refine leaves_cons (f := 79) (args := #[.pointer (some ⟨b, 0, none⟩)]) (by simp) (by simp [go_sem]) ?_
    refine (catch_throw b false _ hb2).mono ?_
    rintro e u' w'' ⟨rfl, rfl, w2, hX, rfl⟩
    have hb3 : NBox w2 b 4 #[.bool false] := hb2.ext hX
    have hb4 : NBox (w2.setCell ⟨b, 0, none⟩ (.bool false)) b 4 #[.bool false] := hb3.set 0 _
    have c4 : (w2.setCell ⟨b, 0, none⟩ (.bool false)).cell? ⟨b, 0, none⟩ = some (.bool false) := hb4.cell 0
    simp [Leaves, settle, results, Try.results45, go_sem, c4]
    exact ⟨W', hΦ, .inl hb2, (Fr.of_ext hX _).trans (Fr.setCell _ _ _ _)⟩
end Go.Proofs.Ytoplaokimahdiaa.Wi
namespace Go.Proofs.Ytoplaokimahdiaa.Wi
open Go.RowKit Go.Proofs.Ytoplaokimahdiaa.Bw Go.Proofs.Ytoplaokimahdiaa.Bs

theorem enters65 : ∀ args W, (callFunc 65 args).run Try.prog W = .ok (.enter 65 args) W := fun args W => by kernel_rfl
set_option maxRecDepth 100000 in
set_option maxHeartbeats 1000000 in
theorem put1_any (fn : FuncId) (cap : Array Value) (hfn : ∀ args W, (callFunc fn args).run Try.prog W = .ok (.enter fn args) W) (enc : Option (List UInt8)) (E : Nat → Prop) (w0 W : World) (B D P : Nat) (v : Value) (bs : List UInt8)
    (hD : NBox W D 76 #[.func (.func fn) #[] cap]) (hP : NBox W P 73 #[.pointer (some ⟨B, 0, none⟩)]) (h : Calls Try.prog fn (#[.pointer (some ⟨B, 0, none⟩)] ++ cap) W (PutC w0 W B v bs E enc)) :
    Calls Try.prog 65 #[.pointer (some ⟨D, 0, none⟩), .pointer (some ⟨P, 0, none⟩)] W (PutC w0 W B v bs E enc) := by
  have c0 := hD.cell 0
  have c1 := hP.cell 0
  clear hD hP
  go_enter Try.func65, Try.ntmps65
  go_wp2_with fail
  refine h.mono ?_
  clear h
  intro e W' hC
  cases enc with
  | none =>
    obtain ⟨rfl, hN⟩ := hC
    go_wp2_with fail
    exact ⟨rfl, rfl, hN⟩
  | some b =>
    obtain ⟨v', rfl, hP⟩ := hC
    go_wp2_with fail
    go_end0
    exact ⟨_, rfl, hP⟩
/-- What put tells. -/
def PutR (w0 : World) (enc : Option (List UInt8)) (e : Ending) (W' : World) : Prop :=
  Ext w0 W' ∧ ∃ v', e = .returned v' ∧ W'.ownsRow w0.heap.size 5 1 v' (bytesOf enc).length (u8s (bytesOf enc))
set_option maxRecDepth 100000 in
set_option maxHeartbeats 2000000 in
theorem put_any (fn : FuncId) (cap : Array Value) (hfn : ∀ args W, (callFunc fn args).run Try.prog W = .ok (.enter fn args) W) (enc : Option (List UInt8)) (E : Nat → Prop) (w0 w : World) (h0 : Ext w0 w) (hE : ∀ k, E k → k < w.heap.size)
    (h : ∀ W B, Ext w W → w.heap.size ≤ B → St w0 W B (.slice none 0 0) [] → Calls Try.prog fn (#[.pointer (some ⟨B, 0, none⟩)] ++ cap) W (PutC w0 W B (.slice none 0 0) [] E enc)) :
    Calls Try.prog 36 #[.func (.func fn) #[] cap] w (PutR w0 enc) := by
  have hmf : ∀ (fn : Fn) (first cap : Array Value) (w : World), (Instr.makeFunc fn first cap).run Try.prog w = .ok (.func fn first cap) w := fun _ _ _ _ => rfl
  obtain ⟨w3, hw3⟩ : ∃ W, ((w.alloc (.cells #[.func (.func fn) #[] cap] 76)).alloc (.cells #[.slice none 0 0] 106)).alloc (.cells #[.pointer (some ⟨w.heap.size + 1, 0, none⟩)] 73) = W := ⟨_, rfl⟩
  obtain ⟨D, hDD⟩ : ∃ D, w.heap.size = D := ⟨_, rfl⟩
  have s1 : (w.alloc (.cells #[.func (.func fn) #[] cap] 76)).heap.size = D + 1 := by rw [World.size_alloc, hDD]
  have s2 : ((w.alloc (.cells #[.func (.func fn) #[] cap] 76)).alloc (.cells #[.slice none 0 0] 106)).heap.size = D + 1 + 1 := by rw [World.size_alloc, s1]
  have E3 : Ext w w3 := by rw [← hw3]; exact (((Ext.refl w).alloc _).alloc _).alloc _
  have bD : NBox w3 D 76 #[.func (.func fn) #[] cap] := by rw [← hw3, ← hDD]; exact (NBox.new w 76 _).ext (((Ext.refl _).alloc _).alloc _)
  have bB : NBox w3 (D + 1) 106 #[.slice none 0 0] := by rw [← hw3, ← s1]; exact (NBox.new _ 106 _).ext ((Ext.refl _).alloc _)
  have bP : NBox w3 (D + 1 + 1) 73 #[.pointer (some ⟨D + 1, 0, none⟩)] := by rw [← hw3, hDD, ← s2]; exact NBox.new _ 73 _
  rw [hDD] at hw3 hE
  have hlt := bP.lt
  have hD0 : w0.heap.size ≤ D := by rw [← hDD]; exact h0.size
  have hc := tried_any 65 #[.pointer (some ⟨D, 0, none⟩), .pointer (some ⟨D + 1 + 1, 0, none⟩)] enters65 (fun b W' => match b with | true => (∃ bb v', enc = some bb ∧ St w0 W' (D + 1) v' bb) ∧ NBox W' (D + 1 + 1) 73 #[.pointer (some ⟨D + 1, 0, none⟩)] | false => enc = none ∧ Ext w0 W') (Chg (D + 1) (.slice none 0 0) E) w3
    (fun k hk => by
      rcases hk with hk | hk | hk
      · omega
      · cases hk
      · have := hE k hk; omega)
    (fun W0 hW0 => (put1_any fn cap hfn enc E w0 W0 (D + 1) D (D + 1 + 1) (.slice none 0 0) [] (bD.ext hW0) (bP.ext hW0) (h W0 (D + 1) (E3.trans hW0) (by omega) ⟨(h0.trans E3).trans hW0, by omega, bB.ext hW0, ⟨rfl, .inl ⟨rfl, rfl⟩⟩⟩)).mono fun e W' hC => by
      cases henc : enc with
      | none =>
        rw [henc] at hC
        exact .inr ⟨hC.1, ⟨rfl, hC.2.ext⟩, hC.2.fr⟩
      | some bb =>
        rw [henc] at hC
        obtain ⟨v', h1, h2⟩ := hC
        refine .inl ⟨h1, ⟨⟨bb, v', rfl, h2.st⟩, (bP.ext hW0).fr h2.fr (fun hk => ?_)⟩, h2.fr⟩
        rcases hk with hk | hk | hk
        · omega
        · cases hk
        · have := hE _ hk; omega)
  have HC := Lib.hid hc
  have HW := Lib.hid hw3
  have HD := Lib.hid hDD
  clear hc hw3 hDD s1 s2 bD bB bP h
  go_enter Try.func36, Try.ntmps36
  go_wp2_with fail
  rw [HD.out, HW.out]
  refine HC.out.mono ?_
  clear HC HW
  rintro e W' ⟨b, W1, x, rfl, hΦ, hok, hF⟩
  cases b with
  | false =>
    obtain ⟨henc, hX⟩ := hΦ
    have HN := Lib.hid henc
    have hX2 : Ext w0 W' := Fr.ext hX hF (fun k hk => by have := E3.size; have := h0.size; omega)
    clear henc hok hF hX
    go_wp2_with fail
    go_ret
    rw [HN.out]
    exact ⟨hX2, _, rfl, ⟨rfl, .inl ⟨rfl, rfl⟩⟩⟩
  | true =>
    obtain ⟨⟨bb, v', henc, hS⟩, hbP⟩ := hΦ
    have HN := Lib.hid henc
    have c1 := (hbP.fr hF (by omega)).cell 0
    have c2 := (hS.box.fr hF (by omega)).cell 0
    have hO := owns_fr hF hS.own (fun g hg hk => by
      have := hok.not_own hS.own (by decide)
      rw [hk] at hg
      exact this hg)
    have hX2 : Ext w0 W' := Fr.ext hS.ext hF (fun k hk => by have := E3.size; have := h0.size; omega)
    have HO := Lib.hid hO
    obtain ⟨vA, vC, rfl, -⟩ := RdS.of_owns hO
    clear henc hok hF hS hbP hO
    go_wp2_with fail
    go_ret
    rw [HN.out]
    exact ⟨hX2, _, rfl, HO.out⟩
end Go.Proofs.Ytoplaokimahdiaa.Wi
namespace Go.Proofs.Ytoplaokimahdiaa.Wi
open Go.RowKit Go.Proofs.Ytoplaokimahdiaa.Bw Go.Proofs.Ytoplaokimahdiaa.Bs

theorem enters49 : ∀ args W, (callFunc 49 args).run Try.prog W = .ok (.enter 49 args) W := fun args W => by kernel_rfl
theorem enters43 : ∀ args W, (callFunc 43 args).run Try.prog W = .ok (.enter 43 args) W := fun args W => by kernel_rfl
set_option maxRecDepth 100000 in
set_option maxHeartbeats 1000000 in
theorem number1_any (n : Nat) (hn : n < 18446744073709551616) (w0 W : World) (B C : Nat) (v : Value) (bs : List UInt8) (hC : NBox W C 28 #[.int .u64 (n : Int)]) (h : St w0 W B v bs) (hl : bs.length ≤ 100000000000000) :
    Calls Try.prog 49 #[.pointer (some ⟨B, 0, none⟩), .pointer (some ⟨C, 0, none⟩)] W (PutC w0 W B v bs none_ (some (num n))) := by
  have c0 := hC.cell 0
  have hc := number_any n hn w0 W B v bs h hl
  clear hC h
  go_enter Try.func49, Try.ntmps49
  go_wp2_with fail
  refine hc.mono ?_
  clear hc
  rintro e W' ⟨v', rfl, hP⟩
  go_wp2_with fail
  go_end0
  exact ⟨_, rfl, hP⟩
set_option maxRecDepth 100000 in
set_option maxHeartbeats 1000000 in
theorem putNumber_any (n : Nat) (hn : n < 18446744073709551616) (w : World) : Calls Try.prog 22 #[.int .u64 (n : Int)] w (PutR w (some (num n))) := by
  have hmf : ∀ (fn : Fn) (first cap : Array Value) (w : World), (Instr.makeFunc fn first cap).run Try.prog w = .ok (.func fn first cap) w := fun _ _ _ _ => rfl
  have E1 : Ext w (w.alloc (.cells #[.int .u64 (n : Int)] 28)) := (Ext.refl w).alloc _
  have hb := NBox.new w 28 #[.int .u64 (n : Int)]
  have hc := put_any 49 #[.pointer (some ⟨w.heap.size, 0, none⟩)] enters49 (some (num n)) none_ w (w.alloc (.cells #[.int .u64 (n : Int)] 28)) E1 (fun k hk => hk.elim)
    (fun W B hW hB hS => number1_any n hn w W B w.heap.size (.slice none 0 0) [] (hb.ext hW) hS (Nat.zero_le _))
  clear hb E1
  go_enter Try.func22, Try.ntmps22
  go_wp2_with fail
  refine hc.mono ?_
  clear hc
  rintro e W' ⟨hX, v', rfl, hO⟩
  have HO := Lib.hid hO
  have HX := Lib.hid hX
  obtain ⟨vA, vC, rfl, -⟩ := RdS.of_owns hO
  clear hO hX
  go_wp2_with fail
  go_ret
  exact ⟨HX.out, _, rfl, HO.out⟩
set_option maxRecDepth 100000 in
set_option maxHeartbeats 1000000 in
theorem path2_any (l : List Int) (lv : Value) (w0 W : World) (B C : Nat) (v : Value) (bs : List UInt8) (hlv : RdI w0 l lv) (hC : NBox W C 33 #[lv]) (h : St w0 W B v bs) (hl : bs.length + 650 ≤ 100000000000000) :
    Calls Try.prog 43 #[.pointer (some ⟨B, 0, none⟩), .pointer (some ⟨C, 0, none⟩)] W (PutC w0 W B v bs none_ (pathE l)) := by
  have c0 := hC.cell 0
  have hc := path_any l lv w0 W B v bs hlv h hl
  obtain ⟨A, c, rfl, -⟩ := hlv
  obtain ⟨r, hr⟩ : ∃ r, pathE l = r := ⟨_, rfl⟩
  rw [hr] at hc ⊢
  clear hC h hr
  go_enter Try.func43, Try.ntmps43
  go_wp2_with fail
  refine hc.mono ?_
  clear hc
  intro e W' hP
  cases r with
  | none =>
    obtain ⟨rfl, hN⟩ := hP
    go_wp2_with fail
    exact ⟨rfl, rfl, hN⟩
  | some b =>
    obtain ⟨v', rfl, hP⟩ := hP
    go_wp2_with fail
    go_end0
    exact ⟨_, rfl, hP⟩
set_option maxRecDepth 100000 in
set_option maxHeartbeats 1000000 in
theorem putPath_any (l : List Int) (lv : Value) (w : World) (hlv : RdI w l lv) : Calls Try.prog 18 #[lv] w (PutR w (pathE l)) := by
  have hmf : ∀ (fn : Fn) (first cap : Array Value) (w : World), (Instr.makeFunc fn first cap).run Try.prog w = .ok (.func fn first cap) w := fun _ _ _ _ => rfl
  have E1 : Ext w (w.alloc (.cells #[lv] 33)) := (Ext.refl w).alloc _
  have hb := NBox.new w 33 #[lv]
  have hc := put_any 43 #[.pointer (some ⟨w.heap.size, 0, none⟩)] enters43 (pathE l) none_ w (w.alloc (.cells #[lv] 33)) E1 (fun k hk => hk.elim)
    (fun W B hW hB hS => path2_any l lv w W B w.heap.size (.slice none 0 0) [] hlv (hb.ext hW) hS (by decide))
  clear hb E1
  obtain ⟨A, c, rfl, -⟩ := hlv
  go_enter Try.func18, Try.ntmps18
  go_wp2_with fail
  refine hc.mono ?_
  clear hc
  rintro e W' ⟨hX, v', rfl, hO⟩
  have HO := Lib.hid hO
  have HX := Lib.hid hX
  obtain ⟨vA, vC, rfl, -⟩ := RdS.of_owns hO
  clear hO hX
  go_wp2_with fail
  go_ret
  exact ⟨HX.out, _, rfl, HO.out⟩
end Go.Proofs.Ytoplaokimahdiaa.Wi
