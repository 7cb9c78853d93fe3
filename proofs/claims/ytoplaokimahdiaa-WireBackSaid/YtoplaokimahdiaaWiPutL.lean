/- Chapter 17: PutNode. -/
import Derived.Test.YtoplaokimahdiaaWiNode
import Derived.Test.YtoplaokimahdiaaWiPutPN
import Derived.Test.YtoplaokimahdiaaWiOp
namespace Go.Proofs.Ytoplaokimahdiaa.Wi
open Go.RowKit Go.Proofs.Ytoplaokimahdiaa.Bw Go.Proofs.Ytoplaokimahdiaa.Bs

theorem enters41 : ∀ args W, (callFunc 41 args).run Try.prog W = .ok (.enter 41 args) W := fun args W => by kernel_rfl
set_option maxRecDepth 100000 in
set_option maxHeartbeats 1000000 in
theorem tree1_any (t : Nd) (tv : Value) (w0 W : World) (B C LB : Nat) (v : Value) (bs : List UInt8) (ht : t.rd w0 tv) (hC : NBox W C 32 tv.cells) (hL : NBox W LB 3 #[.int .i64 512]) (hL0 : w0.heap.size ≤ LB) (h : St w0 W B v bs) (hl : bs.length + 20000000000000 ≤ 100000000000000) :
    Calls Try.prog 41 #[.pointer (some ⟨B, 0, none⟩), .pointer (some ⟨C, 0, none⟩), .pointer (some ⟨LB, 0, none⟩)] W (PutC w0 W B v bs (fun k => k = LB) (treeE t)) := by
  have hc := (node_any t tv 0 512 LB w0 W B v bs ht (by decide) (by decide) (by decide) h hL hL0 (by omega)).mono (fun e W' hC => hC.1)
  rw [nodeC_tree] at hc
  obtain ⟨id, leaf, lb, ats, tx, ks⟩ := t
  unfold Nd.rd at ht
  obtain ⟨av, A, cc, rfl, -, -, -, ⟨aA, ac, rfl, -⟩, -⟩ := ht
  have d0 := hC.cell 0
  have d1 := hC.cell 1
  have d2 := hC.cell 2
  have d3 := hC.cell 3
  have d4 := hC.cell 4
  have d5 := hC.cell 5
  obtain ⟨r, hr⟩ : ∃ r, treeE (.mk id leaf lb ats tx ks) = r := ⟨_, rfl⟩
  rw [hr] at hc ⊢
  clear hC hL h hr
  go_enter Try.func41, Try.ntmps41
  go_wp2_with fail
  refine hc.mono ?_
  clear hc
  intro e W' hP
  cases r with
  | none =>
    obtain ⟨rfl, hN⟩ := hP
    go_wp2_with fail
    exact ⟨rfl, rfl, hN⟩
  | some b =>
    obtain ⟨v', rfl, hP⟩ := hP
    go_wp2_with fail
    go_end0
    exact ⟨_, rfl, hP⟩
set_option maxRecDepth 100000 in
set_option maxHeartbeats 1000000 in
theorem putNode_any (t : Nd) (tv : Value) (w : World) (ht : t.rd w tv) : Calls Try.prog 16 #[tv] w (PutR w (treeE t)) := by
  have hmf : ∀ (fn : Fn) (first cap : Array Value) (w : World), (Instr.makeFunc fn first cap).run Try.prog w = .ok (.func fn first cap) w := fun _ _ _ _ => rfl
  obtain ⟨w1, hw1⟩ : ∃ W, (w.alloc (.cells tv.cells 32)).alloc (.cells #[.int .i64 512] 3) = W := ⟨_, rfl⟩
  obtain ⟨N, hN⟩ : ∃ N, w.heap.size = N := ⟨_, rfl⟩
  have s1 : (w.alloc (.cells tv.cells 32)).heap.size = N + 1 := by rw [World.size_alloc, hN]
  have E1 : Ext w w1 := by rw [← hw1]; exact ((Ext.refl w).alloc _).alloc _
  have bN : NBox w1 N 32 tv.cells := by rw [← hw1, ← hN]; exact (NBox.new w 32 _).ext ((Ext.refl _).alloc _)
  have bL : NBox w1 (N + 1) 3 #[.int .i64 512] := by rw [← hw1, ← s1]; exact NBox.new _ 3 _
  have hsz := bL.lt
  have hc := put_any 41 #[.pointer (some ⟨N, 0, none⟩), .pointer (some ⟨N + 1, 0, none⟩)] enters41 (treeE t) (fun k => k = N + 1) w w1 E1 (fun k hk => by omega)
    (fun W B hW hB hS => tree1_any t tv w W B N (N + 1) (.slice none 0 0) [] ht (bN.ext hW) (bL.ext hW) (by omega) hS (by decide))
  have HW := Lib.hid hw1
  have HN := Lib.hid hN
  obtain ⟨r, hr⟩ : ∃ r, treeE t = r := ⟨_, rfl⟩
  rw [hr] at hc ⊢
  clear bN bL E1 s1 hsz hN hw1 hr
  obtain ⟨id, leaf, lb, ats, tx, ks⟩ := t
  unfold Nd.rd at ht
  obtain ⟨av, A, cc, rfl, -, -, -, ⟨aA, ac, rfl, -⟩, -⟩ := ht
  go_enter Try.func16, Try.ntmps16
  go_upto_region 2 with fail
  have e1 : (w.alloc (.cells #[.int .u64 id, .bool leaf, .string lb, .slice aA ats.length ac, .string tx, .slice A ks.length cc] 32)).alloc (.cells #[.int .i64 512] 3) = w1 := HW.out
  rw [e1, HN.out]
  clear e1 HW HN
  go_wp2_with fail
  refine hc.mono ?_
  clear hc
  rintro e W' ⟨hX, v', rfl, hO⟩
  have HO := Lib.hid hO
  have HX := Lib.hid hX
  obtain ⟨vA, vC, rfl, -⟩ := RdS.of_owns hO
  clear hO hX
  go_wp2_with fail
  go_ret
  exact ⟨HX.out, _, rfl, HO.out⟩
end Go.Proofs.Ytoplaokimahdiaa.Wi
namespace Go.Proofs.Ytoplaokimahdiaa.Wi
open Go.RowKit Go.Proofs.Ytoplaokimahdiaa.Bw Go.Proofs.Ytoplaokimahdiaa.Bs

theorem enters37 : ∀ args W, (callFunc 37 args).run Try.prog W = .ok (.enter 37 args) W := fun args W => by kernel_rfl
theorem enters39 : ∀ args W, (callFunc 39 args).run Try.prog W = .ok (.enter 39 args) W := fun args W => by kernel_rfl
theorem keepsTrue (w0 : World) (B : Nat) : Keeps w0 B (fun _ _ => True) := ⟨fun _ _ _ _ _ _ _ _ => trivial⟩
theorem OpD.rd_id {w : World} {o : OpD} {v : Value} (h : o.rd w v) : o.id ≤ 18446744073709551615 := by
  obtain ⟨pv, tv, cv, rfl, hP, hT, hC, hlb, hky, hvv, hid, hkd⟩ := h
  exact hid.2
theorem op_any (o : OpD) (xv : Value) (w0 w : World) (B : Nat) (v : Value) (bs : List UInt8) (h : St w0 w B v bs) (ho : o.rd w0 xv) (hl : bs.length + 4295200000 ≤ 100000000000000) :
    Calls Try.prog 39 #[.pointer (some ⟨B, 0, none⟩), xv] w (PutC w0 w B v bs none_ (opE o)) := by
  obtain ⟨k, p, a, t, i, lf, lb, ky, vv, g, c⟩ := o
  exact op_head k p a t i lf lb ky vv g c xv w0 w B v bs h ho hl
set_option maxRecDepth 100000 in
set_option maxHeartbeats 1000000 in
theorem list1_any (l : List OpD) (lv : Value) (w0 W : World) (B C : Nat) (v : Value) (bs : List UInt8) (hlv : RdL w0 l lv) (hC : NBox W C 22 #[lv]) (h : St w0 W B v bs) (hl : bs.length + 20000000000000 ≤ 100000000000000) :
    Calls Try.prog 37 #[.pointer (some ⟨B, 0, none⟩), .pointer (some ⟨C, 0, none⟩)] W (PutC w0 W B v bs none_ (listE l)) := by
  have hmf : ∀ (fn : Fn) (first cap : Array Value) (w : World), (Instr.makeFunc fn first cap).run Try.prog w = .ok (.func fn first cap) w := fun _ _ _ _ => rfl
  have c0 := hC.cell 0
  have hc := puts38 39 opE l 4096 4295200000 (by decide) none_ (fun _ _ => True) w0 W B v lv bs hlv h (by omega) (keepsTrue _ _) trivial enters39 (fun i x xv W v1 b1 hx hrd hJ hS hlen => (op_any x xv w0 W B v1 b1 hS hrd (by omega)).mono fun e W' hC => ⟨hC, fun b hb => ⟨Nat.le_trans (opE_len (OpD.rd_id hrd) hb) (by decide), trivial⟩⟩)
  replace hc := hc.mono (fun e W' h => h.1)
  obtain ⟨A, c, rfl, -⟩ := hlv
  obtain ⟨r, hr⟩ : ∃ r, rowE l 4096 opE = r := ⟨_, rfl⟩
  have HR : Hid (listE l = r) := Lib.hid hr
  rw [hr] at hc
  rw [HR.out]
  clear hC h hr HR
  go_enter Try.func37, Try.ntmps37
  go_wp2_with fail
  refine hc.mono ?_
  clear hc
  intro e W' hP
  cases r with
  | none =>
    obtain ⟨rfl, hN⟩ := hP
    go_wp2_with fail
    exact ⟨rfl, rfl, hN⟩
  | some b =>
    obtain ⟨v', rfl, hP⟩ := hP
    go_wp2_with fail
    go_end0
    exact ⟨_, rfl, hP⟩
set_option maxRecDepth 100000 in
set_option maxHeartbeats 1000000 in
theorem putList_any (l : List OpD) (lv : Value) (w : World) (hlv : RdL w l lv) : Calls Try.prog 12 #[lv] w (PutR w (listE l)) := by
  have hmf : ∀ (fn : Fn) (first cap : Array Value) (w : World), (Instr.makeFunc fn first cap).run Try.prog w = .ok (.func fn first cap) w := fun _ _ _ _ => rfl
  have E1 : Ext w (w.alloc (.cells #[lv] 22)) := (Ext.refl w).alloc _
  have hb := NBox.new w 22 #[lv]
  have hc := put_any 37 #[.pointer (some ⟨w.heap.size, 0, none⟩)] enters37 (listE l) none_ w (w.alloc (.cells #[lv] 22)) E1 (fun k hk => hk.elim)
    (fun W B hW hB hS => list1_any l lv w W B w.heap.size (.slice none 0 0) [] hlv (hb.ext hW) hS (by decide))
  clear hb E1
  obtain ⟨A, c, rfl, -⟩ := hlv
  go_enter Try.func12, Try.ntmps12
  go_wp2_with fail
  refine hc.mono ?_
  clear hc
  rintro e W' ⟨hX, v', rfl, hO⟩
  have HO := Lib.hid hO
  have HX := Lib.hid hX
  obtain ⟨vA, vC, rfl, -⟩ := RdS.of_owns hO
  clear hO hX
  go_wp2_with fail
  go_ret
  exact ⟨HX.out, _, rfl, HO.out⟩
end Go.Proofs.Ytoplaokimahdiaa.Wi
