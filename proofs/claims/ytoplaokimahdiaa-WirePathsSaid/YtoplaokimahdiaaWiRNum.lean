/- Chapter 17: the document's small, flag, May, Number, text, Path, walked. -/
import Derived.Test.YtoplaokimahdiaaWiOp1
import Derived.Test.YtoplaokimahdiaaWiPutAll
import Derived.Test.YtoplaokimahdiaaWiRefT
namespace Go.Proofs.Ytoplaokimahdiaa.Wi
open Go.RowKit Go.Proofs.Ytoplaokimahdiaa.Bw Go.Proofs.Ytoplaokimahdiaa.Bs

set_option maxRecDepth 100000 in
theorem smallR_any (n : Int) (w : World) : Calls Try.prog 51 #[.int .i64 n] w fun e w' => e = .returned (.bool (smallB n)) ∧ w = w' := by
  unfold smallB
  rcases Int.lt_or_le n 0 with h | h
  · have t1 : decide ((0 : Int) ≤ n) = false := decide_eq_false (by omega)
    rw [t1]
    go_enter Try.func51, Try.ntmps51
    go_wp2_with fail
    go_ret
    exact ⟨rfl, rfl⟩
  · have t1 : decide ((0 : Int) ≤ n) = true := decide_eq_true h
    rw [t1]
    obtain ⟨t, ht⟩ : ∃ t, decide (n ≤ 1048576) = t := ⟨_, rfl⟩
    rw [ht]
    cases t <;>
    · go_enter Try.func51, Try.ntmps51
      go_wp2_with fail
      go_ret
      exact ⟨rfl, rfl⟩
set_option maxRecDepth 100000 in
theorem flagR_any (f : Bool) (w : World) : Calls Try.prog 55 #[.bool f] w fun e w' => e = .returned (.int .u8 (((if f then 1 else 0 : UInt8).toNat : Nat) : Int)) ∧ w = w' := by
  cases f <;>
  · go_enter Try.func55, Try.ntmps55
    go_wp2_with fail
    go_ret
    exact ⟨rfl, rfl⟩
theorem mayP_at {p : List Int} {i : Nat} {x : Int} (h : p[i]? = some x) : (p.drop i).all smallB = (smallB x && (p.drop (i + 1)).all smallB) := by
  have hlt := (List.getElem?_eq_some_iff.1 h).1
  have hx := (List.getElem?_eq_some_iff.1 h).2
  rw [List.drop_eq_getElem_cons hlt, hx]
  rfl
set_option maxRecDepth 100000 in
set_option maxHeartbeats 1000000 in
theorem mayR_any (p : List Int) (v : Value) (w : World) (h : RdI w p v) : Calls Try.prog 24 #[v] w fun e w' => e = .returned (.bool (mayP p)) ∧ w = w' := by
  obtain ⟨A, c, rfl, _, a1, a2, hcell⟩ := h
  unfold maxLen at a2
  rcases Nat.lt_or_ge 64 p.length with h0 | h0
  · have q : decide ((p.length : Int) ≤ 64) = false := decide_eq_false (by omega)
    have q' : decide ((64 : Int) < (p.length : Int)) = true := decide_eq_true (by omega)
    have e : mayP p = false := by rw [mayP, decide_eq_false (by omega), Bool.false_and]
    rw [e]
    go_enter Try.func24, Try.ntmps24
    go_wp2_with fail
    go_ret
    exact ⟨rfl, rfl⟩
  have q : decide ((p.length : Int) ≤ 64) = true := decide_eq_true (by omega)
  have q' : decide ((64 : Int) < (p.length : Int)) = false := decide_eq_false (by omega)
  go_enter Try.func24, Try.ntmps24
  go_wp2_with fail
  go_loop [3] (fun s => ∃ i : Nat, s = .int .i64 i ∧ i ≤ p.length ∧ Hid ((p.drop i).all smallB = mayP p)) (fun i => p.length - (intOf i).toNat)
  case atStart => exact ⟨0, rfl, Nat.zero_le _, Lib.hid (by rw [mayP, decide_eq_true h0]; rfl)⟩
  case round =>
    obtain ⟨i, rfl, hi, HF⟩ := hrel
    rcases Nat.lt_or_ge i p.length with hlt | hlt
    · obtain ⟨x, hx⟩ : ∃ x, p[i]? = some x := ⟨_, List.getElem?_eq_getElem hlt⟩
      obtain ⟨b0, off, rfl, cells⟩ := hcell (by omega)
      have cx := cells i (.int .i64 x) (by rw [List.getElem?_map, hx]; rfl)
      have q1 : (0 : Int) ≤ (i : Int) := by omega
      have q2 : (i : Int) < (p.length : Int) := by omega
      have hat := mayP_at hx
      have hc := smallR_any x w
      obtain ⟨t, ht⟩ : ∃ t, smallB x = t := ⟨_, rfl⟩
      rw [ht] at hc hat
      have HR := Lib.hid (hat.symm.trans HF.out)
      clear hat ht cells hcell hx HF
      cases t with
      | true =>
        go_wp2_with fail
        refine hc.mono ?_
        clear hc
        rintro e w' ⟨rfl, rfl⟩
        go_wp2_with fail
        go_round
        case rel => exact ⟨i + 1, by go_num, by omega, HR⟩
        case measure => simp [intOf]; omega
      | false =>
        go_wp2_with fail
        refine hc.mono ?_
        clear hc
        rintro e w' ⟨rfl, rfl⟩
        go_wp2_with fail
        go_ret
        rw [← HR.out]
        exact ⟨rfl, rfl⟩
    · have hR : mayP p = true := by rw [← HF.out, List.drop_eq_nil_of_le hlt]; rfl
      have HR := Lib.hid hR
      clear hR HF hcell
      go_wp2_with fail
      go_ret
      rw [HR.out]
      exact ⟨rfl, rfl⟩

/-! ### Rows of bytes, new -/
/-- New bytes, owned. -/
structure New (w0 W : World) (v : Value) (bs : List UInt8) : Prop where
  ext : Ext w0 W
  own : W.ownsRow w0.heap.size 5 1 v bs.length (u8s bs)
theorem New.nil (w : World) : New w w (.slice none 0 0) [] := ⟨Ext.refl w, ⟨rfl, .inl ⟨rfl, rfl⟩⟩⟩
theorem New.more {w0 W W' : World} {v : Value} {bs : List UInt8} (h : New w0 W v bs) (k : Ext W W') : New w0 W' v bs := ⟨h.ext.trans k, owns_ext k h.own⟩
theorem New.app {w0 W W' : World} {v v' : Value} {bs b : List UInt8} (h : New w0 W v bs) (hown : W'.ownsRow w0.heap.size 5 1 v' (bs.length + b.length) (u8s bs ++ u8s b)) (hg : W.grownBy W' v.ownBlock) : New w0 W' v' (bs ++ b) := by
  refine ⟨?_, by rw [List.length_append, u8s_app]; exact hown⟩
  exact Fr.ext h.ext (Fr.grown hg) (fun k hk => owns_base h.own k hk)
theorem New.putR {w0 W : World} {v : Value} {bs : List UInt8} (h : New w0 W v bs) : PutR w0 (some bs) (.returned v) W := ⟨h.ext, v, rfl, h.own⟩
/-- What is told reads as these bytes. -/
theorem rd_of_new {w0 W : World} {v : Value} {bs : List UInt8} (h : W.ownsRow w0.heap.size 5 1 v bs.length (u8s bs)) : RdS W 1 bs.length (u8s bs) v := RdS.of_owns h

theorem u8_add_all : ∀ x : Fin 128, IntKind.u8.wrap (IntKind.u8.wrap ((x.val : Nat) : Int) + 128) = ((x.val + 128 : Nat) : Int) := by decide
end Go.Proofs.Ytoplaokimahdiaa.Wi
