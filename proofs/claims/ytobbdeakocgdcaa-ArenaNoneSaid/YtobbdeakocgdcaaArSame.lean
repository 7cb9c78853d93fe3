/- Chapter 07: are two rows of numbers the same (27). -/
import Derived.Test.YtobbdeakocgdcaaArProg
namespace Go.Proofs.Ytobbdeakocgdcaa.Ar
open Go.RowKit Go.Proofs.Ytobbdeakocgdcaa.Bw

theorem rd_at {w : World} {l : List Nat} {A : Option Addr} {n c k x : Nat} (h : RdS w 1 n (ints l) (.slice A n c)) (hn : l.length = n) (hx : l[k]? = some x) : ∃ b off, A = some ⟨b, off, none⟩ ∧ w.cell? ⟨b, off + k, none⟩ = some (.int .i64 (x : Int)) := by
  obtain ⟨A', c', he, _, _, _, h4⟩ := h
  cases he
  obtain ⟨b, off, rfl, h5⟩ := h4 (by have := (List.getElem?_eq_some_iff.1 hx).1; omega)
  exact ⟨b, off, rfl, h5 k _ (ints_at hx)⟩
theorem rd_ext' {w w' : World} (E : Ext w w') {size n : Nat} {xs : List Value} {v : Value} (h : RdS w size n xs v) : RdS w' size n xs v := RdS.ext E h
theorem drop_same {a b : List Nat} {k x y : Nat} (ha : a[k]? = some x) (hb : b[k]? = some y) : (a.drop k = b.drop k) ↔ (x = y ∧ a.drop (k + 1) = b.drop (k + 1)) := by
  rw [drop_at ha, drop_at hb]
  constructor
  · intro h; obtain ⟨h1, h2⟩ := List.cons.inj h; exact ⟨h1, h2⟩
  · rintro ⟨rfl, h⟩; rw [h]

set_option maxRecDepth 100000 in
set_option maxHeartbeats 2000000 in
theorem same_any (a b : List Nat) (av bv : Value) (w : World) (ha : RdS w 1 a.length (ints a) av) (hb : RdS w 1 b.length (ints b) bv) :
    Calls Try.prog 27 #[av, bv] w (Ret w fun r _ => r = .bool (decide (a = b))) := by
  obtain ⟨aA, ac, rfl, _, a1, a2, _⟩ := id ha
  obtain ⟨bA, bc, rfl, _, b1, b2, _⟩ := id hb
  unfold maxLen at a2 b2
  by_cases hl : a.length = b.length
  · have t1 : decide ((a.length : Int) = (b.length : Int)) = true := decide_eq_true (by omega)
    have t2 : ((a.length : Int) == (b.length : Int)) = true := by simp; omega
    have t3 : ((a.length : Int) != (b.length : Int)) = false := by simp; omega
    have HL := Lib.hid hl
    have HA := Lib.hid ha
    have HB := Lib.hid hb
    clear hl ha hb
    go_enter Try.func27, Try.ntmps27
    go_wp2_with fail
    go_loopw [5] (fun s5 wr => ∃ k : Nat, s5 = .int .i64 (k : Int) ∧ k ≤ a.length ∧ Hid (a.drop k = b.drop k ↔ a = b) ∧ Hid (Ext w wr)) (fun s5 _ => a.length - (intOf s5).toNat)
    case atStart => exact ⟨0, rfl, Nat.zero_le _, Lib.hid (by rw [List.drop_zero, List.drop_zero]), Lib.hid (Ext.refl _)⟩
    case round =>
      obtain ⟨k, rfl, hk, HD, HX⟩ := hrel
      rcases Nat.lt_or_ge k a.length with hkl | hkl
      · obtain ⟨x, hx⟩ : ∃ x, a[k]? = some x := ⟨_, List.getElem?_eq_getElem hkl⟩
        obtain ⟨y, hy⟩ : ∃ y, b[k]? = some y := ⟨_, List.getElem?_eq_getElem (by have := HL.out; omega)⟩
        obtain ⟨ab, ao, rfl, ca⟩ := rd_at (RdS.ext HX.out HA.out) rfl hx
        obtain ⟨bb, bo, rfl, cb⟩ := rd_at (RdS.ext HX.out HB.out) rfl hy
        have hkb : k < b.length := by have := HL.out; omega
        have HDS := Lib.hid (drop_same hx hy)
        clear hx hy
        by_cases hxy : x = y
        · subst hxy
          have HD2 := Lib.hid (show a.drop (k + 1) = b.drop (k + 1) ↔ a = b from by rw [← HD.out, HDS.out]; exact ⟨fun h => ⟨rfl, h⟩, fun h => h.2⟩)
          have t4 : ((x : Int) == (x : Int)) = true := by simp
          have t5 : ((x : Int) != (x : Int)) = false := by simp
          clear HD HDS
          go_upto_region 6 with fail
          go_quiet (fail)
          go_wp2_with fail
          go_roundw
          case rel => exact ⟨k + 1, by go_num, by omega, HD2, Lib.hid (HX.out.drewN _)⟩
          case measure => simp [intOf]; omega
        · have t4 : ((x : Int) == (y : Int)) = false := by simp; omega
          have t5 : ((x : Int) != (y : Int)) = true := by simp; omega
          have t6 : decide ((x : Int) = (y : Int)) = false := decide_eq_false (by omega)
          have HN := Lib.hid (show decide (a = b) = false from decide_eq_false (fun e => hxy (HDS.out.1 (HD.out.2 e)).1))
          clear HD HDS
          go_upto_region 6 with fail
          go_quiet (fail)
          go_wp2_with fail
          go_ret
          exact ⟨_, rfl, by rw [HN.out]; rfl, HX.out.drewN _⟩
      · have HN := Lib.hid (show decide (a = b) = true from decide_eq_true (HD.out.1 (by rw [List.drop_eq_nil_of_le hkl, List.drop_eq_nil_of_le (by have := HL.out; omega)])))
        clear HD
        go_wp2_with fail
        go_ret
        exact ⟨_, rfl, by rw [HN.out]; rfl, HX.out⟩
  · have t1 : decide ((a.length : Int) = (b.length : Int)) = false := decide_eq_false (by omega)
    have t2 : ((a.length : Int) == (b.length : Int)) = false := by simp; omega
    have t3 : ((a.length : Int) != (b.length : Int)) = true := by simp; omega
    have HN := Lib.hid (show decide (a = b) = false from decide_eq_false (fun e => hl (by rw [e])))
    clear ha hb hl
    go_enter Try.func27, Try.ntmps27
    go_wp2_with fail
    go_ret
    exact ⟨_, rfl, by rw [HN.out]; rfl, Ext.refl _⟩
end Go.Proofs.Ytobbdeakocgdcaa.Ar
