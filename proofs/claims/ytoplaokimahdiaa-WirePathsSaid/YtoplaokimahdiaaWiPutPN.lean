/- Chapter 17: PutNumber, PutPath. -/
import Derived.Test.YtoplaokimahdiaaWiPutAll
namespace Go.Proofs.Ytoplaokimahdiaa.Wi
open Go.RowKit Go.Proofs.Ytoplaokimahdiaa.Bw Go.Proofs.Ytoplaokimahdiaa.Bs

theorem enters49 : ∀ args W, (callFunc 49 args).run Try.prog W = .ok (.enter 49 args) W := fun args W => by kernel_rfl
theorem enters43 : ∀ args W, (callFunc 43 args).run Try.prog W = .ok (.enter 43 args) W := fun args W => by kernel_rfl
set_option maxRecDepth 100000 in
set_option maxHeartbeats 1000000 in
theorem number1_any (n : Nat) (hn : n < 18446744073709551616) (w0 W : World) (B C : Nat) (v : Value) (bs : List UInt8) (hC : NBox W C 28 #[.int .u64 (n : Int)]) (h : St w0 W B v bs) (hl : bs.length ≤ 100000000000000) :
    Calls Try.prog 49 #[.pointer (some ⟨B, 0, none⟩), .pointer (some ⟨C, 0, none⟩)] W (PutC w0 W B v bs none_ (some (num n))) := by
  have c0 := hC.cell 0
  have hc := number_any n hn w0 W B v bs h hl
  clear hC h
  go_enter Try.func49, Try.ntmps49
  go_wp2_with fail
  refine hc.mono ?_
  clear hc
  rintro e W' ⟨v', rfl, hP⟩
  go_wp2_with fail
  go_end0
  exact ⟨_, rfl, hP⟩
set_option maxRecDepth 100000 in
set_option maxHeartbeats 1000000 in
theorem putNumber_any (n : Nat) (hn : n < 18446744073709551616) (w : World) : Calls Try.prog 22 #[.int .u64 (n : Int)] w (PutR w (some (num n))) := by
  have hmf : ∀ (fn : Fn) (first cap : Array Value) (w : World), (Instr.makeFunc fn first cap).run Try.prog w = .ok (.func fn first cap) w := fun _ _ _ _ => rfl
  have E1 : Ext w (w.alloc (.cells #[.int .u64 (n : Int)] 28)) := (Ext.refl w).alloc _
  have hb := NBox.new w 28 #[.int .u64 (n : Int)]
  have hc := put_any 49 #[.pointer (some ⟨w.heap.size, 0, none⟩)] enters49 (some (num n)) none_ w (w.alloc (.cells #[.int .u64 (n : Int)] 28)) E1 (fun k hk => hk.elim)
    (fun W B hW hB hS => number1_any n hn w W B w.heap.size (.slice none 0 0) [] (hb.ext hW) hS (Nat.zero_le _))
  clear hb E1
  go_enter Try.func22, Try.ntmps22
  go_wp2_with fail
  refine hc.mono ?_
  clear hc
  rintro e W' ⟨hX, v', rfl, hO⟩
  have HO := Lib.hid hO
  have HX := Lib.hid hX
  obtain ⟨vA, vC, rfl, -⟩ := RdS.of_owns hO
  clear hO hX
  go_wp2_with fail
  go_ret
  exact ⟨HX.out, _, rfl, HO.out⟩
set_option maxRecDepth 100000 in
set_option maxHeartbeats 1000000 in
theorem path2_any (l : List Int) (lv : Value) (w0 W : World) (B C : Nat) (v : Value) (bs : List UInt8) (hlv : RdI w0 l lv) (hC : NBox W C 33 #[lv]) (h : St w0 W B v bs) (hl : bs.length + 650 ≤ 100000000000000) :
    Calls Try.prog 43 #[.pointer (some ⟨B, 0, none⟩), .pointer (some ⟨C, 0, none⟩)] W (PutC w0 W B v bs none_ (pathE l)) := by
  have c0 := hC.cell 0
  have hc := path_any l lv w0 W B v bs hlv h hl
  obtain ⟨A, c, rfl, -⟩ := hlv
  obtain ⟨r, hr⟩ : ∃ r, pathE l = r := ⟨_, rfl⟩
  rw [hr] at hc ⊢
  clear hC h hr
  go_enter Try.func43, Try.ntmps43
  go_wp2_with fail
  refine hc.mono ?_
  clear hc
  intro e W' hP
  cases r with
  | none =>
    obtain ⟨rfl, hN⟩ := hP
    go_wp2_with fail
    exact ⟨rfl, rfl, hN⟩
  | some b =>
    obtain ⟨v', rfl, hP⟩ := hP
    go_wp2_with fail
    go_end0
    exact ⟨_, rfl, hP⟩
set_option maxRecDepth 100000 in
set_option maxHeartbeats 1000000 in
theorem putPath_any (l : List Int) (lv : Value) (w : World) (hlv : RdI w l lv) : Calls Try.prog 18 #[lv] w (PutR w (pathE l)) := by
  have hmf : ∀ (fn : Fn) (first cap : Array Value) (w : World), (Instr.makeFunc fn first cap).run Try.prog w = .ok (.func fn first cap) w := fun _ _ _ _ => rfl
  have E1 : Ext w (w.alloc (.cells #[lv] 33)) := (Ext.refl w).alloc _
  have hb := NBox.new w 33 #[lv]
  have hc := put_any 43 #[.pointer (some ⟨w.heap.size, 0, none⟩)] enters43 (pathE l) none_ w (w.alloc (.cells #[lv] 33)) E1 (fun k hk => hk.elim)
    (fun W B hW hB hS => path2_any l lv w W B w.heap.size (.slice none 0 0) [] hlv (hb.ext hW) hS (by decide))
  clear hb E1
  obtain ⟨A, c, rfl, -⟩ := hlv
  go_enter Try.func18, Try.ntmps18
  go_wp2_with fail
  refine hc.mono ?_
  clear hc
  rintro e W' ⟨hX, v', rfl, hO⟩
  have HO := Lib.hid hO
  have HX := Lib.hid hX
  obtain ⟨vA, vC, rfl, -⟩ := RdS.of_owns hO
  clear hO hX
  go_wp2_with fail
  go_ret
  exact ⟨HX.out, _, rfl, HO.out⟩
end Go.Proofs.Ytoplaokimahdiaa.Wi
