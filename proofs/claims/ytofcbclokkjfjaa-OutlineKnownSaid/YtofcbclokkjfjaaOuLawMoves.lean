/- Chapter 24: the law OutlineText (4). (Printed by goulawt.py.) -/
import Derived.Test.YtofcbclokkjfjaaOuJoinR
import Derived.Test.YtofcbclokkjfjaaOuSameG
import Derived.Test.YtofcbclokkjfjaaOuOps
import Derived.Test.YtofcbclokkjfjaaOuAsks
namespace Go.Proofs.Ytofcbclokkjfjaa.Wi
open Go.RowKit Go.Proofs.Ytofcbclokkjfjaa.Bw Go.Proofs.Ytofcbclokkjfjaa.Bs

/-- An answer of ask, as two values: a list, or none. -/
def AnL (lo : Nat) (W : World) (o : Except Int (List OpD)) (lv ev : Value) : Prop := match o with
 | .error k => lv = .slice none 0 0 ∧ ev = .int .i64 k
 | .ok x => lsV lo x lv W ∧ ev = .int .i64 0
theorem AskG.anL {w W' : World} {o : Except Int (List OpD)} {e : Ending} (h : AskG lsV w o e W') : Ext w W' ∧ ∃ A n c k, e = .returned (.tuple #[.slice A n c, .int .i64 k]) ∧ AnL w.heap.size W' o (.slice A n c) (.int .i64 k) := by
 obtain ⟨hE, h⟩ := h
 refine ⟨hE, ?_⟩
 cases o with
 | error k => exact ⟨none, 0, 0, k, h, rfl, rfl⟩
 | ok x =>
  obtain ⟨v, rfl, hv⟩ := h
  obtain ⟨A, c, rfl⟩ := lsV.slice hv
  exact ⟨A, x.length, c, 0, rfl, hv, rfl⟩
theorem AnL.ext {lo : Nat} {W W' : World} {o : Except Int (List OpD)} {lv ev : Value} (h : AnL lo W o lv ev) (X : Ext W W') : AnL lo W' o lv ev := by
 cases o with
 | error k => exact h
 | ok x => exact ⟨h.1.ext X, h.2⟩
theorem same13_anL {lo lo' : Nat} {W : World} {o : Except Int (List OpD)} {u v : Value} {j k : Int} (hu : AnL lo W o u (.int .i64 j)) (hv : AnL lo' W o v (.int .i64 k)) (ho : ∀ x, o = .ok x → ∀ a ∈ x, OkLen a) :
  Calls Try.prog 13 #[u, v, .int .i64 j, .int .i64 k] W (Ret W fun r _ => r = .bool true) := by
 cases o with
 | error q =>
  obtain ⟨rfl, h1⟩ := hu
  obtain ⟨rfl, h2⟩ := hv
  cases h1
  cases h2
  exact same13_nil _ W
 | ok x =>
  obtain ⟨hu, h1⟩ := hu
  obtain ⟨hv, h2⟩ := hv
  cases h1
  cases h2
  exact same13_ls x 0 u v W hu.rd hv.rd (ho x rfl)
theorem editL_okl {rest : ByteArray} {p : List Int} {x : Pc} (hp : p.length ≤ 100000) : ∀ a ∈ editL rest p x, OkLen a := by
 intro a ha
 unfold editL at ha
 split at ha
 ·cases ha
 ·rw [List.mem_singleton] at ha
  subst ha
  exact ⟨hp, Nat.zero_le _, by simp [editO]⟩
theorem spot_up {t : Nd} {p : List Int} {s : SpD} (hs : spotP t p = .ok s) : s.up = p.dropLast ∧ s.p = p := by
 unfold spotP at hs
 split at hs
 ·cases hs
 ·split at hs
  ·cases hs
  ·split at hs
   ·cases hs
   ·cases hs; exact ⟨rfl, rfl⟩
theorem splP_okl {t : Nd} {p : List Int} {cut id : Int} (hp : p.length ≤ 1000) : ∀ x, askG t p (splP cut id) = .ok x → ∀ a ∈ x, OkLen a := by
 intro x hx
 unfold askG at hx
 split at hx
 ·cases hx
 next s hs =>
  obtain ⟨h1, h2⟩ := spot_up hs
  have h3 : s.up.length ≤ 1000 := by rw [h1, List.length_dropLast]; omega
  unfold splP at hx
  split at hx
  ·cases hx
  ·split at hx
   ·cases hx
    intro a ha
    unfold splL at ha
    rw [h2] at ha
    rcases List.mem_append.1 ha with ha | ha
    ·rcases List.mem_append.1 ha with ha | ha
     ·rcases List.mem_append.1 ha with ha | ha
      ·exact editL_okl (by omega) a ha
      ·rw [List.mem_singleton] at ha
       subst ha
       exact ⟨show s.up.length ≤ 100000 by omega, Nat.zero_le _, Nat.zero_le _⟩
     ·obtain ⟨b, _, rfl⟩ := List.mem_map.1 ha
      exact ⟨show (s.up ++ [s.i + 1]).length ≤ 100000 by rw [List.length_append]; simp only [List.length_cons, List.length_nil]; omega, Nat.zero_le _, Nat.zero_le _⟩
    ·exact editL_okl (by rw [List.length_append]; simp only [List.length_cons, List.length_nil]; omega) a ha
   ·cases hx
theorem joinL_okl {s : SpD} {txt : ByteArray} (h3 : s.up.length ≤ 1000) (h2 : s.p.length ≤ 1000) : ∀ a ∈ joinL s txt, OkLen a := by
 intro a ha
 unfold joinL at ha
 rcases List.mem_append.1 ha with ha | ha
 ·exact editL_okl (by omega) a ha
 ·rw [List.mem_singleton] at ha
  subst ha
  exact ⟨show (s.up ++ [s.i + 1]).length ≤ 100000 by rw [List.length_append]; simp only [List.length_cons, List.length_nil]; omega, Nat.zero_le _, Nat.zero_le _⟩
theorem joinP_okl {t : Nd} {p : List Int} (hp : p.length ≤ 1000) : ∀ x, askG t p joinP = .ok x → ∀ a ∈ x, OkLen a := by
 intro x hx
 unfold askG at hx
 split at hx
 ·cases hx
 next s hs =>
  obtain ⟨h1, h2⟩ := spot_up hs
  have h3 : s.up.length ≤ 1000 := by rw [h1, List.length_dropLast]; omega
  have h4 : s.p.length ≤ 1000 := by rw [h2]; omega
  unfold joinP at hx
  split at hx
  ·cases hx
  ·split at hx
   ·split at hx
    ·split at hx
     ·cases hx
      exact joinL_okl h3 h4
     ·cases hx
    ·cases hx
   ·cases hx
set_option maxRecDepth 100000 in
set_option maxHeartbeats 8000000 in
theorem lawText (t : Nd) (p : List Int) (cut id : Int) (hid : 0 ≤ id ∧ id ≤ 18446744073709551615) (tv pv : Value) (w : World) (ht : t.rd w tv) (hp : RdI w p pv) : Calls Try.prog 4 #[tv, pv, .int .i64 cut, .int .u64 id] w (Ret w fun r _ => r = .bool true) := by
 obtain ⟨tA, tc, tK, td, rfl⟩ := rd_open6 ht
 obtain ⟨w1, hw1⟩ : ∃ W, w.alloc (.cells #[.int .u64 t.id, .bool t.leaf, .string t.label, .slice tA t.attrs.length tc, .string t.text, .slice tK t.kids.length td] 26) = W := ⟨_, rfl⟩
 obtain ⟨T, hT⟩ : ∃ T, w.heap.size = T := ⟨_, rfl⟩
 have E1 : Ext w w1 := by rw [← hw1]; exact (Ext.refl w).alloc _
 have HE := Lib.hid E1
 have HB := Lib.hid (show NBox w1 T 26 #[.int .u64 t.id, .bool t.leaf, .string t.label, .slice tA t.attrs.length tc, .string t.text, .slice tK t.kids.length td] from by rw [← hw1, ← hT]; exact NBox.new _ _ _)
 have HTR := Lib.hid ht
 have HP := Lib.hid hp
 have HW := Lib.hid hw1
 have HTT := Lib.hid hT
 have HID := Lib.hid hid
 have hwg := weigh_any t.cnt t _ 400 w1 (Nat.le_refl _) (Nd.rd_ext E1 ht) (by omega) (by omega)
 have hiff := Nd.weigh_iff t (top := 400) (by omega)
 have HIFF := Lib.hid hiff
 have hle := Nd.weigh_le t 400 (by omega)
 have hlp := hp
 obtain ⟨pA, pc, rfl, -, lp1, lp2, -⟩ := hlp
 unfold maxLen at lp2
 clear hw1 hT E1 ht hp hiff hid
 rcases Int.lt_or_le 400 (t.weigh 400) with h1 | h1
 ·have t1 : decide (400 < t.weigh 400) = true := decide_eq_true h1
  obtain ⟨k0, k1, k2, k3, k4, k5⟩ := HB.out.c6
  go_enter Try.func4, Try.ntmps4
  go_upto_region 1 with fail
  rw [HW.out, HTT.out]
  go_wp2_with fail
  refine hwg.mono ?_
  clear hwg k0 k1 k2 k3 k4 k5
  rintro e w2 ⟨r, rfl, rfl, hE⟩
  have HE' := Lib.hid (HE.out.trans hE)
  have HB' := Lib.hid (HB.out.ext hE)
  clear hE
  replace HE := HE'; replace HB := HB'
  clear HE' HB'
  go_wp2_with fail
  refine (works_any w2).mono ?_
  rintro e u ⟨r, rfl, rfl, hE⟩
  go_wp2_with fail
  go_ret
  exact ret_bool (by rfl) (HE.out.trans hE)
 have hwt : t.wt ≤ 1000000 := by have := HIFF.out.1 h1; omega
 have t1 : decide (400 < t.weigh 400) = false := decide_eq_false (by omega)
 rcases Nat.lt_or_ge 100 p.length with h2 | h2
 ·have t2 : decide (100 < (p.length : Int)) = true := decide_eq_true (by omega)
  obtain ⟨k0, k1, k2, k3, k4, k5⟩ := HB.out.c6
  go_enter Try.func4, Try.ntmps4
  go_upto_region 1 with fail
  rw [HW.out, HTT.out]
  go_wp2_with fail
  refine hwg.mono ?_
  clear hwg k0 k1 k2 k3 k4 k5
  rintro e w2 ⟨r, rfl, rfl, hE⟩
  have HE' := Lib.hid (HE.out.trans hE)
  have HB' := Lib.hid (HB.out.ext hE)
  clear hE
  replace HE := HE'; replace HB := HB'
  clear HE' HB'
  go_wp2_with fail
  refine (works_any w2).mono ?_
  rintro e u ⟨r, rfl, rfl, hE⟩
  go_wp2_with fail
  go_ret
  exact ret_bool (by rfl) (HE.out.trans hE)
 have t2 : decide (100 < (p.length : Int)) = false := decide_eq_false (by omega)
 obtain ⟨k0, k1, k2, k3, k4, k5⟩ := HB.out.c6
 go_enter Try.func4, Try.ntmps4
 go_upto_region 1 with fail
 rw [HW.out, HTT.out]
 go_wp2_with fail
 refine hwg.mono ?_
 clear hwg k0 k1 k2 k3 k4 k5
 rintro e w2 ⟨r, rfl, rfl, hE⟩
 have HE' := Lib.hid (HE.out.trans hE)
 have HB' := Lib.hid (HB.out.ext hE)
 clear hE
 replace HE := HE'; replace HB := HB'
 clear HE' HB'
 obtain ⟨k0, k1, k2, k3, k4, k5⟩ := HB.out.c6
 have hc := split19_any cut id t p _ _ w2 (Nd.rd_ext HE.out HTR.out) (RdS.ext HE.out HP.out) hwt (by omega) HID.out
 go_wp2_with fail
 refine hc.mono ?_
 clear hc k0 k1 k2 k3 k4 k5
 rintro e w3 hh
 obtain ⟨hE, Aa, na, ca, ka_, rfl, hv⟩ := hh.anL
 have Ha := Lib.hid hv
 have HE' := Lib.hid (HE.out.trans hE)
 have HB' := Lib.hid (HB.out.ext hE)
 clear hE hv hh
 replace HE := HE'; replace HB := HB'
 clear HE' HB'
 obtain ⟨k0, k1, k2, k3, k4, k5⟩ := HB.out.c6
 have hc := rsplit_any cut id t p _ _ w3 (Nd.rd_ext HE.out HTR.out) (RdS.ext HE.out HP.out) hwt (by omega) HID.out
 go_wp2_with fail
 refine hc.mono ?_
 clear hc k0 k1 k2 k3 k4 k5
 rintro e w4 hh
 obtain ⟨hE, Ab, nb, cb, kb_, rfl, hv⟩ := hh.anL
 have Hb := Lib.hid hv
 have HE' := Lib.hid (HE.out.trans hE)
 have HB' := Lib.hid (HB.out.ext hE)
 have Ha' := Lib.hid (Ha.out.ext hE)
 clear hE hv hh
 replace HE := HE'; replace HB := HB'; replace Ha := Ha'
 clear HE' HB' Ha'
 obtain ⟨k0, k1, k2, k3, k4, k5⟩ := HB.out.c6
 have hc := join21_any t p _ _ w4 (Nd.rd_ext HE.out HTR.out) (RdS.ext HE.out HP.out) hwt (by omega)
 go_wp2_with fail
 refine hc.mono ?_
 clear hc k0 k1 k2 k3 k4 k5
 rintro e w5 hh
 obtain ⟨hE, Ac, nc, cc, kc_, rfl, hv⟩ := hh.anL
 have Hc := Lib.hid hv
 have HE' := Lib.hid (HE.out.trans hE)
 have HB' := Lib.hid (HB.out.ext hE)
 have Ha' := Lib.hid (Ha.out.ext hE)
 have Hb' := Lib.hid (Hb.out.ext hE)
 clear hE hv hh
 replace HE := HE'; replace HB := HB'; replace Ha := Ha'; replace Hb := Hb'
 clear HE' HB' Ha' Hb'
 obtain ⟨k0, k1, k2, k3, k4, k5⟩ := HB.out.c6
 have hc := rjoin_any t p _ _ w5 (Nd.rd_ext HE.out HTR.out) (RdS.ext HE.out HP.out) hwt (by omega)
 go_wp2_with fail
 refine hc.mono ?_
 clear hc k0 k1 k2 k3 k4 k5
 rintro e w6 hh
 obtain ⟨hE, Ad, nd, cd, kd_, rfl, hv⟩ := hh.anL
 have Hd := Lib.hid hv
 have HE' := Lib.hid (HE.out.trans hE)
 have HB' := Lib.hid (HB.out.ext hE)
 have Ha' := Lib.hid (Ha.out.ext hE)
 have Hb' := Lib.hid (Hb.out.ext hE)
 have Hc' := Lib.hid (Hc.out.ext hE)
 clear hE hv hh
 replace HE := HE'; replace HB := HB'; replace Ha := Ha'; replace Hb := Hb'; replace Hc := Hc'
 clear HE' HB' Ha' Hb' Hc'
 clear HB
 have hc := same13_anL Ha.out Hb.out (splP_okl (by omega))
 go_wp2_with fail
 refine hc.mono ?_
 clear hc
 rintro e w7 ⟨r, rfl, rfl, hE⟩
 have HE' := Lib.hid (HE.out.trans hE)
 have Ha' := Lib.hid (Ha.out.ext hE)
 have Hb' := Lib.hid (Hb.out.ext hE)
 have Hc' := Lib.hid (Hc.out.ext hE)
 have Hd' := Lib.hid (Hd.out.ext hE)
 clear hE
 replace HE := HE'; replace Ha := Ha'; replace Hb := Hb'; replace Hc := Hc'; replace Hd := Hd'
 clear HE' Ha' Hb' Hc' Hd'
 have hc := same13_anL Hc.out Hd.out (joinP_okl (by omega))
 go_wp2_with fail
 refine hc.mono ?_
 clear hc
 rintro e w8 ⟨r, rfl, rfl, hE⟩
 have HE' := Lib.hid (HE.out.trans hE)
 have Ha' := Lib.hid (Ha.out.ext hE)
 have Hb' := Lib.hid (Hb.out.ext hE)
 have Hc' := Lib.hid (Hc.out.ext hE)
 have Hd' := Lib.hid (Hd.out.ext hE)
 clear hE
 replace HE := HE'; replace Ha := Ha'; replace Hb := Hb'; replace Hc := Hc'; replace Hd := Hd'
 clear HE' Ha' Hb' Hc' Hd'
 go_wp2_with fail
 refine (works_any w8).mono ?_
 rintro e u ⟨r, rfl, rfl, hE⟩
 go_wp2_with fail
 go_ret
 exact ret_bool (by rfl) (HE.out.trans hE)
end Go.Proofs.Ytofcbclokkjfjaa.Wi
namespace Go.Proofs.Ytofcbclokkjfjaa.Wi
open Go.RowKit Go.Proofs.Ytofcbclokkjfjaa.Bw Go.Proofs.Ytofcbclokkjfjaa.Bs

theorem owns_cell {W : World} {base e g n cap : Nat} {xs : List Value} (h : W.ownsRow base e 1 (.slice (some ⟨g, 0, none⟩) n cap) n xs) {i : Nat} {u : Value} (hu : xs[i]? = some u) : W.cell? ⟨g, i, none⟩ = some u ∧ W.frozen? ⟨g, i, none⟩ = false := by
 refine ⟨by have := h.cells (g := g) rfl i u hu; rwa [Addr.add_lit, Nat.zero_add] at this, ?_⟩
 rcases h.2 with ⟨h1, _⟩ | ⟨g', cap', cur, hv, _, hg, _⟩
 ·cases h1
 ·simp only [Value.slice.injEq, Option.some.injEq, Addr.mk.injEq, true_and, and_true] at hv
  obtain ⟨rfl, rfl⟩ := hv
  simp [World.frozen?, hg]
/-- One of it, set. -/
theorem owns_setAt {W : World} {base e g n cap : Nat} {xs : List Value} (h : W.ownsRow base e 1 (.slice (some ⟨g, 0, none⟩) n cap) n xs) (i : Nat) (u : Value) : (W.setCell ⟨g, i, none⟩ u).ownsRow base e 1 (.slice (some ⟨g, 0, none⟩) n cap) n (xs.set i u) := by
 refine ⟨by simpa using h.1, ?_⟩
 rcases h.2 with ⟨h1, _⟩ | ⟨g', cap', cur, hv, hb, hg, h4, h5, h6, h7⟩
 ·cases h1
 ·have hv0 := hv
  simp only [Value.slice.injEq, Option.some.injEq, Addr.mk.injEq, true_and, and_true] at hv0
  obtain ⟨rfl, rfl⟩ := hv0
  refine .inr ⟨g, cap, cur.setIfInBounds i u, rfl, hb, ?_, h4, h5, by simpa using h6, ?_⟩
  ·simp [World.setCell, Array.getElem?_modify, hg]
  ·rw [Array.toList_setIfInBounds, List.take_set, h7]
set_option maxRecDepth 100000 in
set_option maxHeartbeats 8000000 in
theorem lawMoves (t : Nd) (p : List Int) (tv pv : Value) (w : World) (ht : t.rd w tv) (hp : RdI w p pv) : Calls Try.prog 3 #[tv, pv] w (Ret w fun r _ => r = .bool true) := by
 obtain ⟨tA, tc, tK, td, rfl⟩ := rd_open6 ht
 obtain ⟨w1, hw1⟩ : ∃ W, w.alloc (.cells #[.int .u64 t.id, .bool t.leaf, .string t.label, .slice tA t.attrs.length tc, .string t.text, .slice tK t.kids.length td] 26) = W := ⟨_, rfl⟩
 obtain ⟨T, hT⟩ : ∃ T, w.heap.size = T := ⟨_, rfl⟩
 have E1 : Ext w w1 := by rw [← hw1]; exact (Ext.refl w).alloc _
 have HE := Lib.hid E1
 have HB := Lib.hid (show NBox w1 T 26 #[.int .u64 t.id, .bool t.leaf, .string t.label, .slice tA t.attrs.length tc, .string t.text, .slice tK t.kids.length td] from by rw [← hw1, ← hT]; exact NBox.new _ _ _)
 have HTR := Lib.hid ht
 have HP := Lib.hid hp
 have HW := Lib.hid hw1
 have HTT := Lib.hid hT
 have hwg := weigh_any t.cnt t _ 400 w1 (Nat.le_refl _) (Nd.rd_ext E1 ht) (by omega) (by omega)
 have hiff := Nd.weigh_iff t (top := 400) (by omega)
 have HIFF := Lib.hid hiff
 have hle := Nd.weigh_le t 400 (by omega)
 have hlp := hp
 obtain ⟨pA, pc, rfl, -, lp1, lp2, -⟩ := hlp
 unfold maxLen at lp2
 clear hw1 hT E1 ht hp hiff
 rcases Int.lt_or_le 400 (t.weigh 400) with h1 | h1
 ·have t1 : decide (400 < t.weigh 400) = true := decide_eq_true h1
  obtain ⟨k0, k1, k2, k3, k4, k5⟩ := HB.out.c6
  go_enter Try.func3, Try.ntmps3
  go_upto_region 1 with fail
  rw [HW.out, HTT.out]
  go_wp2_with fail
  refine hwg.mono ?_
  clear hwg k0 k1 k2 k3 k4 k5
  rintro e w2 ⟨r, rfl, rfl, hE⟩
  have HE' := Lib.hid (HE.out.trans hE)
  have HB' := Lib.hid (HB.out.ext hE)
  clear hE
  replace HE := HE'; replace HB := HB'
  clear HE' HB'
  go_wp2_with fail
  refine (works_any w2).mono ?_
  rintro e u ⟨r, rfl, rfl, hE⟩
  go_wp2_with fail
  go_ret
  exact ret_bool (by rfl) (HE.out.trans hE)
 have hwt : t.wt ≤ 1000000 := by have := HIFF.out.1 h1; omega
 have t1 : decide (400 < t.weigh 400) = false := decide_eq_false (by omega)
 rcases Nat.lt_or_ge 100 p.length with h2 | h2
 ·have t2 : decide (100 < (p.length : Int)) = true := decide_eq_true (by omega)
  obtain ⟨k0, k1, k2, k3, k4, k5⟩ := HB.out.c6
  go_enter Try.func3, Try.ntmps3
  go_upto_region 1 with fail
  rw [HW.out, HTT.out]
  go_wp2_with fail
  refine hwg.mono ?_
  clear hwg k0 k1 k2 k3 k4 k5
  rintro e w2 ⟨r, rfl, rfl, hE⟩
  have HE' := Lib.hid (HE.out.trans hE)
  have HB' := Lib.hid (HB.out.ext hE)
  clear hE
  replace HE := HE'; replace HB := HB'
  clear HE' HB'
  go_wp2_with fail
  refine (works_any w2).mono ?_
  rintro e u ⟨r, rfl, rfl, hE⟩
  go_wp2_with fail
  go_ret
  exact ret_bool (by rfl) (HE.out.trans hE)
 have t2 : decide (100 < (p.length : Int)) = false := decide_eq_false (by omega)
 obtain ⟨k0, k1, k2, k3, k4, k5⟩ := HB.out.c6
 go_enter Try.func3, Try.ntmps3
 go_upto_region 1 with fail
 rw [HW.out, HTT.out]
 go_wp2_with fail
 refine hwg.mono ?_
 clear hwg k0 k1 k2 k3 k4 k5
 rintro e w2 ⟨r, rfl, rfl, hE⟩
 have HE' := Lib.hid (HE.out.trans hE)
 have HB' := Lib.hid (HB.out.ext hE)
 clear hE
 replace HE := HE'; replace HB := HB'
 clear HE' HB'
 have hc := copied_any p _ w2 (RdS.ext HE.out HP.out) (by omega)
 go_wp2_with fail
 refine hc.mono ?_
 clear hc
 rintro e w3 ⟨r, rfl, hO, hE⟩
 have HO := Lib.hid hO
 have HOW := Lib.hid HE.out.size
 obtain ⟨oA, oc, rfl, -⟩ := RdS.of_owns hO
 have HE' := Lib.hid (HE.out.trans hE)
 have HB' := Lib.hid (HB.out.ext hE)
 clear hE hO
 replace HE := HE'; replace HB := HB'
 clear HE' HB'
 obtain ⟨k0, k1, k2, k3, k4, k5⟩ := HB.out.c6
 have hc := indent_any t p _ _ w3 (Nd.rd_ext HE.out HTR.out) (RdS.of_owns HO.out) hwt (by omega)
 go_wp2_with fail
 refine hc.mono ?_
 clear hc k0 k1 k2 k3 k4 k5
 rintro e w4 hh
 obtain ⟨hE, Aa, na, ca, ka_, rfl, hv⟩ := hh.an
 have Ha := Lib.hid hv
 have HE' := Lib.hid (HE.out.trans hE)
 have HB' := Lib.hid (HB.out.ext hE)
 have HO' := Lib.hid (owns_ext hE HO.out)
 clear hE hv hh
 replace HE := HE'; replace HB := HB'; replace HO := HO'
 clear HE' HB' HO'
 obtain ⟨k0, k1, k2, k3, k4, k5⟩ := HB.out.c6
 have hc := rindent_any t p _ _ w4 (Nd.rd_ext HE.out HTR.out) (RdS.ext HE.out HP.out) hwt (by omega)
 go_wp2_with fail
 refine hc.mono ?_
 clear hc k0 k1 k2 k3 k4 k5
 rintro e w5 hh
 obtain ⟨hE, Ab, nb, cb, kb_, rfl, hv⟩ := hh.an
 have Hb := Lib.hid hv
 have HE' := Lib.hid (HE.out.trans hE)
 have HB' := Lib.hid (HB.out.ext hE)
 have HO' := Lib.hid (owns_ext hE HO.out)
 have Ha' := Lib.hid (Ha.out.ext hE)
 clear hE hv hh
 replace HE := HE'; replace HB := HB'; replace HO := HO'; replace Ha := Ha'
 clear HE' HB' HO' Ha'
 obtain ⟨k0, k1, k2, k3, k4, k5⟩ := HB.out.c6
 have hc := outdent_any t p _ _ w5 (Nd.rd_ext HE.out HTR.out) (RdS.of_owns HO.out) hwt (by omega)
 go_wp2_with fail
 refine hc.mono ?_
 clear hc k0 k1 k2 k3 k4 k5
 rintro e w6 hh
 obtain ⟨hE, Ac, nc, cc, kc_, rfl, hv⟩ := hh.an
 have Hc := Lib.hid hv
 have HE' := Lib.hid (HE.out.trans hE)
 have HB' := Lib.hid (HB.out.ext hE)
 have HO' := Lib.hid (owns_ext hE HO.out)
 have Ha' := Lib.hid (Ha.out.ext hE)
 have Hb' := Lib.hid (Hb.out.ext hE)
 clear hE hv hh
 replace HE := HE'; replace HB := HB'; replace HO := HO'; replace Ha := Ha'; replace Hb := Hb'
 clear HE' HB' HO' Ha' Hb'
 obtain ⟨k0, k1, k2, k3, k4, k5⟩ := HB.out.c6
 have hc := routdent_any t p _ _ w6 (Nd.rd_ext HE.out HTR.out) (RdS.ext HE.out HP.out) hwt (by omega)
 go_wp2_with fail
 refine hc.mono ?_
 clear hc k0 k1 k2 k3 k4 k5
 rintro e w7 hh
 obtain ⟨hE, Ad, nd, cd, kd_, rfl, hv⟩ := hh.an
 have Hd := Lib.hid hv
 have HE' := Lib.hid (HE.out.trans hE)
 have HB' := Lib.hid (HB.out.ext hE)
 have HO' := Lib.hid (owns_ext hE HO.out)
 have Ha' := Lib.hid (Ha.out.ext hE)
 have Hb' := Lib.hid (Hb.out.ext hE)
 have Hc' := Lib.hid (Hc.out.ext hE)
 clear hE hv hh
 replace HE := HE'; replace HB := HB'; replace HO := HO'; replace Ha := Ha'; replace Hb := Hb'; replace Hc := Hc'
 clear HE' HB' HO' Ha' Hb' Hc'
 have hc := same13_an Ha.out Hb.out (by omega) (askP_len ind_len (by omega))
 go_wp2_with fail
 refine hc.mono ?_
 clear hc
 rintro e w8 ⟨r, rfl, rfl, hE⟩
 have HE' := Lib.hid (HE.out.trans hE)
 have HB' := Lib.hid (HB.out.ext hE)
 have HO' := Lib.hid (owns_ext hE HO.out)
 have Ha' := Lib.hid (Ha.out.ext hE)
 have Hb' := Lib.hid (Hb.out.ext hE)
 have Hc' := Lib.hid (Hc.out.ext hE)
 have Hd' := Lib.hid (Hd.out.ext hE)
 clear hE
 replace HE := HE'; replace HB := HB'; replace HO := HO'; replace Ha := Ha'; replace Hb := Hb'; replace Hc := Hc'; replace Hd := Hd'
 clear HE' HB' HO' Ha' Hb' Hc' Hd'
 have hc := same13_an Hc.out Hd.out (by omega) (askP_len out_len (by omega))
 go_wp2_with fail
 refine hc.mono ?_
 clear hc
 rintro e w9 ⟨r, rfl, rfl, hE⟩
 have HE' := Lib.hid (HE.out.trans hE)
 have HB' := Lib.hid (HB.out.ext hE)
 have HO' := Lib.hid (owns_ext hE HO.out)
 have Ha' := Lib.hid (Ha.out.ext hE)
 have Hb' := Lib.hid (Hb.out.ext hE)
 have Hc' := Lib.hid (Hc.out.ext hE)
 have Hd' := Lib.hid (Hd.out.ext hE)
 clear hE
 replace HE := HE'; replace HB := HB'; replace HO := HO'; replace Ha := Ha'; replace Hb := Hb'; replace Hc := Hc'; replace Hd := Hd'
 clear HE' HB' HO' Ha' Hb' Hc' Hd'
 clear Ha Hb Hc Hd
 obtain ⟨k0, k1, k2, k3, k4, k5⟩ := HB.out.c6
 have hc := up_any t p _ _ w9 (Nd.rd_ext HE.out HTR.out) (RdS.of_owns HO.out) hwt (by omega)
 go_wp2_with fail
 refine hc.mono ?_
 clear hc k0 k1 k2 k3 k4 k5
 rintro e w10 hh
 obtain ⟨hE, Ae, ne, ce, ke_, rfl, hv⟩ := hh.an
 have He := Lib.hid hv
 have HLE := Lib.hid (fun k (hk : (Value.slice oA p.length oc).ownBlock = some k) => (HO.out.lt k hk).2)
 have HLW := Lib.hid HE.out.size
 obtain ⟨L, hL⟩ : ∃ L, w9.heap.size = L := ⟨_, rfl⟩
 rw [hL] at He HLE HLW
 clear hL
 have HE' := Lib.hid (HE.out.trans hE)
 have HB' := Lib.hid (HB.out.ext hE)
 have HO' := Lib.hid (owns_ext hE HO.out)
 clear hE hv hh
 replace HE := HE'; replace HB := HB'; replace HO := HO'
 clear HE' HB' HO'
 obtain ⟨k0, k1, k2, k3, k4, k5⟩ := HB.out.c6
 have hc := rup_any t p _ _ w10 (Nd.rd_ext HE.out HTR.out) (RdS.ext HE.out HP.out) hwt (by omega)
 go_wp2_with fail
 refine hc.mono ?_
 clear hc k0 k1 k2 k3 k4 k5
 rintro e w11 hh
 obtain ⟨hE, Af, nf, cf, kf_, rfl, hv⟩ := hh.an
 have Hf := Lib.hid hv
 have HE' := Lib.hid (HE.out.trans hE)
 have HB' := Lib.hid (HB.out.ext hE)
 have HO' := Lib.hid (owns_ext hE HO.out)
 have He' := Lib.hid (He.out.ext hE)
 clear hE hv hh
 replace HE := HE'; replace HB := HB'; replace HO := HO'; replace He := He'
 clear HE' HB' HO' He'
 obtain ⟨k0, k1, k2, k3, k4, k5⟩ := HB.out.c6
 have hc := down_any t p _ _ w11 (Nd.rd_ext HE.out HTR.out) (RdS.of_owns HO.out) hwt (by omega)
 go_wp2_with fail
 refine hc.mono ?_
 clear hc k0 k1 k2 k3 k4 k5
 rintro e w12 hh
 obtain ⟨hE, Ag, ng, cg, kg_, rfl, hv⟩ := hh.an
 have Hg := Lib.hid hv
 have HE' := Lib.hid (HE.out.trans hE)
 have HB' := Lib.hid (HB.out.ext hE)
 have HO' := Lib.hid (owns_ext hE HO.out)
 have He' := Lib.hid (He.out.ext hE)
 have Hf' := Lib.hid (Hf.out.ext hE)
 clear hE hv hh
 replace HE := HE'; replace HB := HB'; replace HO := HO'; replace He := He'; replace Hf := Hf'
 clear HE' HB' HO' He' Hf'
 obtain ⟨k0, k1, k2, k3, k4, k5⟩ := HB.out.c6
 have hc := rdown_any t p _ _ w12 (Nd.rd_ext HE.out HTR.out) (RdS.ext HE.out HP.out) hwt (by omega)
 go_wp2_with fail
 refine hc.mono ?_
 clear hc k0 k1 k2 k3 k4 k5
 rintro e w13 hh
 obtain ⟨hE, Ah, nh, ch, kh_, rfl, hv⟩ := hh.an
 have Hh := Lib.hid hv
 have HE' := Lib.hid (HE.out.trans hE)
 have HB' := Lib.hid (HB.out.ext hE)
 have HO' := Lib.hid (owns_ext hE HO.out)
 have He' := Lib.hid (He.out.ext hE)
 have Hf' := Lib.hid (Hf.out.ext hE)
 have Hg' := Lib.hid (Hg.out.ext hE)
 clear hE hv hh
 replace HE := HE'; replace HB := HB'; replace HO := HO'; replace He := He'; replace Hf := Hf'; replace Hg := Hg'
 clear HE' HB' HO' He' Hf' Hg'
 have hc := same13_an He.out Hf.out (by omega) (askP_len up_len (by omega))
 go_wp2_with fail
 refine hc.mono ?_
 clear hc
 rintro e w14 ⟨r, rfl, rfl, hE⟩
 have HE' := Lib.hid (HE.out.trans hE)
 have HB' := Lib.hid (HB.out.ext hE)
 have HO' := Lib.hid (owns_ext hE HO.out)
 have He' := Lib.hid (He.out.ext hE)
 have Hf' := Lib.hid (Hf.out.ext hE)
 have Hg' := Lib.hid (Hg.out.ext hE)
 have Hh' := Lib.hid (Hh.out.ext hE)
 clear hE
 replace HE := HE'; replace HB := HB'; replace HO := HO'; replace He := He'; replace Hf := Hf'; replace Hg := Hg'; replace Hh := Hh'
 clear HE' HB' HO' He' Hf' Hg' Hh'
 have hc := same13_an Hg.out Hh.out (by omega) (askP_len down_len (by omega))
 go_wp2_with fail
 refine hc.mono ?_
 clear hc
 rintro e w15 ⟨r, rfl, rfl, hE⟩
 have HE' := Lib.hid (HE.out.trans hE)
 have HB' := Lib.hid (HB.out.ext hE)
 have HO' := Lib.hid (owns_ext hE HO.out)
 have He' := Lib.hid (He.out.ext hE)
 have Hf' := Lib.hid (Hf.out.ext hE)
 have Hg' := Lib.hid (Hg.out.ext hE)
 have Hh' := Lib.hid (Hh.out.ext hE)
 clear hE
 replace HE := HE'; replace HB := HB'; replace HO := HO'; replace He := He'; replace Hf := Hf'; replace Hg := Hg'; replace Hh := Hh'
 clear HE' HB' HO' He' Hf' Hg' Hh'
 clear Hf Hg Hh hwt t1 t2 h1 h2 hle
 obtain ⟨o, ho⟩ : ∃ o, askP t p upP = o := ⟨_, rfl⟩
 have He0 := He.out
 rw [ho] at He0
 clear He ho
 cases o with
 | error k =>
  obtain ⟨hA, -⟩ := He0
  cases hA
  go_wp2_with fail
  go_loopw [14] (fun s14 wr => s14 = .int .i64 0 ∧ wr = w15) (fun _ _ => 0)
  case atStart => exact ⟨rfl, rfl⟩
  case round =>
   obtain ⟨rfl, rfl⟩ := hrel
   have hq := sameInts_any p p _ _ wr (RdS.of_owns HO.out) (RdS.ext HE.out HP.out)
   rw [decide_eq_true rfl] at hq
   go_wp2_with fail
   refine hq.mono ?_
   clear hq
   rintro e u1_ ⟨r, rfl, rfl, hE⟩
   go_wp2_with fail
   refine (works_any u1_).mono ?_
   rintro e u2_ ⟨r, rfl, rfl, hE2⟩
   go_wp2_with fail
   go_ret
   exact ret_bool (by rfl) ((HE.out.trans hE).trans hE2)
 | ok x =>
  obtain ⟨⟨g, mA, mc, uA, uc, hA, hgl, hbx, hrow, -⟩, -⟩ := He0
  cases hA
  have HG := Lib.hid hbx
  have HM : Hid (∃ us : List Int, us.length = p.length ∧ w15.ownsRow L 3 1 (.slice mA p.length mc) p.length (us.map (Value.int .i64))) := Lib.hid ⟨p, rfl, hrow⟩
  clear hbx hrow
  go_wp2_with fail
  go_loopw [14] (fun s14 wr => ∃ i : Nat, s14 = .int .i64 (i : Int) ∧ i ≤ 1 ∧ Hid (Ext w wr) ∧ Hid (NBox wr g 38 #[.int .u8 3, .slice mA p.length mc, .int .i64 x.2, .slice uA x.1.length uc, .int .u64 0, .bool false, .string ⟨#[]⟩, .string ⟨#[]⟩, .string ⟨#[]⟩, .bool false, .slice none 0 0]) ∧ Hid (wr.ownsRow w2.heap.size 3 1 (.slice oA p.length oc) p.length (p.map (Value.int .i64))) ∧ Hid (∃ us : List Int, us.length = p.length ∧ wr.ownsRow L 3 1 (.slice mA p.length mc) p.length (us.map (Value.int .i64)))) (fun i _ => 1 - (intOf i).toNat)
  case atStart => exact ⟨0, rfl, by omega, HE, HG, HO, HM⟩
  case round =>
   clear HE HG HO HM HB
   obtain ⟨i, rfl, hi, HE, HG, HO, HM⟩ := hrel
   rcases Nat.eq_zero_or_pos i with h0 | h0
   ·subst h0
    go_upto_region 19 with fail
    go_wp2_with fail
    go_loopw [15] (fun s15 wr => ∃ k : Nat, s15 = .int .i64 (k : Int) ∧ k ≤ p.length ∧ Hid (Ext w wr) ∧ Hid (NBox wr g 38 #[.int .u8 3, .slice mA p.length mc, .int .i64 x.2, .slice uA x.1.length uc, .int .u64 0, .bool false, .string ⟨#[]⟩, .string ⟨#[]⟩, .string ⟨#[]⟩, .bool false, .slice none 0 0]) ∧ Hid (wr.ownsRow w2.heap.size 3 1 (.slice oA p.length oc) p.length (p.map (Value.int .i64))) ∧ Hid (∃ us : List Int, us.length = p.length ∧ wr.ownsRow L 3 1 (.slice mA p.length mc) p.length (us.map (Value.int .i64)))) (fun k _ => p.length - (intOf k).toNat)
    case atStart => exact ⟨0, rfl, by omega, HE, HG, HO, HM⟩
    case round =>
     clear HE HG HO HM
     obtain ⟨k, rfl, hk, HE, HG, HO, HM⟩ := hrel
     have g1 := HG.out.cell 1
     rcases Nat.lt_or_ge k p.length with hlt | hlt
     ·have q1 : (0 : Int) ≤ (k : Int) := by omega
      have q2 : (k : Int) < (p.length : Int) := by omega
      obtain ⟨us, hul, hrow⟩ := HM.out
      obtain ⟨q, hq⟩ : ∃ q, mA = some ⟨q, 0, none⟩ := by
       rcases hrow.2 with ⟨_, h2⟩ | ⟨q, _, _, hv, _⟩
       ·omega
       ·cases hv; exact ⟨q, rfl⟩
      subst hq
      obtain ⟨uk, huk⟩ : ∃ uk, us[k]? = some uk := ⟨_, List.getElem?_eq_getElem (by omega)⟩
      obtain ⟨z0, z1⟩ := owns_cell hrow (i := k) (u := .int .i64 uk) (by rw [List.getElem?_map, huk]; rfl)
      have F := Fr.setCell wr q k (.int .i64 (-5))
      have hLq := owns_base hrow q rfl
      have HE' := Lib.hid (Fr.ext HE.out F (fun b hb => by rw [show b = q from hb]; exact Nat.le_trans HLW.out hLq))
      have HG' := Lib.hid (HG.out.fr F (fun hb => HG.out.not_own hrow (by decide) (by rw [show g = q from hb]; rfl)))
      have HO' := Lib.hid (owns_fr F HO.out (fun b hb hk => absurd (HLE.out b hb) (by rw [show b = q from hk]; exact Nat.not_lt.2 hLq)))
      have HM' : Hid (∃ us : List Int, us.length = p.length ∧ (wr.setCell ⟨q, k, none⟩ (.int .i64 (-5))).ownsRow L 3 1 (.slice (some ⟨q, 0, none⟩) p.length mc) p.length (us.map (Value.int .i64))) := Lib.hid ⟨us.set k (-5), by rw [List.length_set]; exact hul, by rw [List.map_set]; exact owns_setAt hrow k _⟩
      clear hrow F hLq HE HG HO HM
      go_wp2_with fail
      go_roundw
      case rel => exact ⟨k + 1, by go_num, by omega, HE', HG', HO', HM'⟩
      case measure => simp [intOf]; omega
     ·obtain rfl : k = p.length := by omega
      go_wp2_with fail
      go_roundw
      case rel => exact ⟨1, by go_num, by omega, HE, HG, HO, HM⟩
      case measure => simp [intOf]
   ·obtain rfl : i = 1 := by omega
    have hq := sameInts_any p p _ _ wr (RdS.of_owns HO.out) (RdS.ext HE.out HP.out)
    rw [decide_eq_true rfl] at hq
    go_wp2_with fail
    refine hq.mono ?_
    clear hq
    rintro e u1_ ⟨r, rfl, rfl, hE⟩
    go_wp2_with fail
    refine (works_any u1_).mono ?_
    rintro e u2_ ⟨r, rfl, rfl, hE2⟩
    go_wp2_with fail
    go_ret
    exact ret_bool (by rfl) ((HE.out.trans hE).trans hE2)
end Go.Proofs.Ytofcbclokkjfjaa.Wi
