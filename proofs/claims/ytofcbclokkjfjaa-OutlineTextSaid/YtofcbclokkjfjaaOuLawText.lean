/- Chapter 24: the law OutlineText (4). (Printed by goulawt.py.) -/
import Derived.Test.YtofcbclokkjfjaaOuJoinR
import Derived.Test.YtofcbclokkjfjaaOuSameG
import Derived.Test.YtofcbclokkjfjaaOuWorks
import Derived.Test.YtofcbclokkjfjaaOuWeigh
namespace Go.Proofs.Ytofcbclokkjfjaa.Wi
open Go.RowKit Go.Proofs.Ytofcbclokkjfjaa.Bw Go.Proofs.Ytofcbclokkjfjaa.Bs

/-- An answer of ask, as two values: a list, or none. -/
def AnL (lo : Nat) (W : World) (o : Except Int (List OpD)) (lv ev : Value) : Prop := match o with
  | .error k => lv = .slice none 0 0 ∧ ev = .int .i64 k
  | .ok x => lsV lo x lv W ∧ ev = .int .i64 0
theorem AskG.anL {w W' : World} {o : Except Int (List OpD)} {e : Ending} (h : AskG lsV w o e W') : Ext w W' ∧ ∃ A n c k, e = .returned (.tuple #[.slice A n c, .int .i64 k]) ∧ AnL w.heap.size W' o (.slice A n c) (.int .i64 k) := by
  obtain ⟨hE, h⟩ := h
  refine ⟨hE, ?_⟩
  cases o with
  | error k => exact ⟨none, 0, 0, k, h, rfl, rfl⟩
  | ok x =>
    obtain ⟨v, rfl, hv⟩ := h
    obtain ⟨A, c, rfl⟩ := lsV.slice hv
    exact ⟨A, x.length, c, 0, rfl, hv, rfl⟩
theorem AnL.ext {lo : Nat} {W W' : World} {o : Except Int (List OpD)} {lv ev : Value} (h : AnL lo W o lv ev) (X : Ext W W') : AnL lo W' o lv ev := by
  cases o with
  | error k => exact h
  | ok x => exact ⟨h.1.ext X, h.2⟩
theorem same13_anL {lo lo' : Nat} {W : World} {o : Except Int (List OpD)} {u v : Value} {j k : Int} (hu : AnL lo W o u (.int .i64 j)) (hv : AnL lo' W o v (.int .i64 k)) (ho : ∀ x, o = .ok x → ∀ a ∈ x, OkLen a) :
    Calls Try.prog 13 #[u, v, .int .i64 j, .int .i64 k] W (Ret W fun r _ => r = .bool true) := by
  cases o with
  | error q =>
    obtain ⟨rfl, h1⟩ := hu
    obtain ⟨rfl, h2⟩ := hv
    cases h1
    cases h2
    exact same13_nil _ W
  | ok x =>
    obtain ⟨hu, h1⟩ := hu
    obtain ⟨hv, h2⟩ := hv
    cases h1
    cases h2
    exact same13_ls x 0 u v W hu.rd hv.rd (ho x rfl)
theorem editL_okl {rest : ByteArray} {p : List Int} {x : Pc} (hp : p.length ≤ 100000) : ∀ a ∈ editL rest p x, OkLen a := by
  intro a ha
  unfold editL at ha
  split at ha
  · cases ha
  · rw [List.mem_singleton] at ha
    subst ha
    exact ⟨hp, Nat.zero_le _, by simp [editO]⟩
theorem spot_up {t : Nd} {p : List Int} {s : SpD} (hs : spotP t p = .ok s) : s.up = p.dropLast ∧ s.p = p := by
  unfold spotP at hs
  split at hs
  · cases hs
  · split at hs
    · cases hs
    · split at hs
      · cases hs
      · cases hs; exact ⟨rfl, rfl⟩
theorem splP_okl {t : Nd} {p : List Int} {cut id : Int} (hp : p.length ≤ 1000) : ∀ x, askG t p (splP cut id) = .ok x → ∀ a ∈ x, OkLen a := by
  intro x hx
  unfold askG at hx
  split at hx
  · cases hx
  next s hs =>
    obtain ⟨h1, h2⟩ := spot_up hs
    have h3 : s.up.length ≤ 1000 := by rw [h1, List.length_dropLast]; omega
    unfold splP at hx
    split at hx
    · cases hx
    · split at hx
      · cases hx
        intro a ha
        unfold splL at ha
        rw [h2] at ha
        rcases List.mem_append.1 ha with ha | ha
        · rcases List.mem_append.1 ha with ha | ha
          · rcases List.mem_append.1 ha with ha | ha
            · exact editL_okl (by omega) a ha
            · rw [List.mem_singleton] at ha
              subst ha
              exact ⟨show s.up.length ≤ 100000 by omega, Nat.zero_le _, Nat.zero_le _⟩
          · obtain ⟨b, _, rfl⟩ := List.mem_map.1 ha
            exact ⟨show (s.up ++ [s.i + 1]).length ≤ 100000 by rw [List.length_append]; simp only [List.length_cons, List.length_nil]; omega, Nat.zero_le _, Nat.zero_le _⟩
        · exact editL_okl (by rw [List.length_append]; simp only [List.length_cons, List.length_nil]; omega) a ha
      · cases hx
theorem joinL_okl {s : SpD} {txt : ByteArray} (h3 : s.up.length ≤ 1000) (h2 : s.p.length ≤ 1000) : ∀ a ∈ joinL s txt, OkLen a := by
  intro a ha
  unfold joinL at ha
  rcases List.mem_append.1 ha with ha | ha
  · exact editL_okl (by omega) a ha
  · rw [List.mem_singleton] at ha
    subst ha
    exact ⟨show (s.up ++ [s.i + 1]).length ≤ 100000 by rw [List.length_append]; simp only [List.length_cons, List.length_nil]; omega, Nat.zero_le _, Nat.zero_le _⟩
theorem joinP_okl {t : Nd} {p : List Int} (hp : p.length ≤ 1000) : ∀ x, askG t p joinP = .ok x → ∀ a ∈ x, OkLen a := by
  intro x hx
  unfold askG at hx
  split at hx
  · cases hx
  next s hs =>
    obtain ⟨h1, h2⟩ := spot_up hs
    have h3 : s.up.length ≤ 1000 := by rw [h1, List.length_dropLast]; omega
    have h4 : s.p.length ≤ 1000 := by rw [h2]; omega
    unfold joinP at hx
    split at hx
    · cases hx
    · split at hx
      · split at hx
        · split at hx
          · cases hx
            exact joinL_okl h3 h4
          · cases hx
        · cases hx
      · cases hx
set_option maxRecDepth 100000 in
set_option maxHeartbeats 8000000 in
theorem lawText (t : Nd) (p : List Int) (cut id : Int) (hid : 0 ≤ id ∧ id ≤ 18446744073709551615) (tv pv : Value) (w : World) (ht : t.rd w tv) (hp : RdI w p pv) : Calls Try.prog 4 #[tv, pv, .int .i64 cut, .int .u64 id] w (Ret w fun r _ => r = .bool true) := by
  obtain ⟨tA, tc, tK, td, rfl⟩ := rd_open6 ht
  obtain ⟨w1, hw1⟩ : ∃ W, w.alloc (.cells #[.int .u64 t.id, .bool t.leaf, .string t.label, .slice tA t.attrs.length tc, .string t.text, .slice tK t.kids.length td] 26) = W := ⟨_, rfl⟩
  obtain ⟨T, hT⟩ : ∃ T, w.heap.size = T := ⟨_, rfl⟩
  have E1 : Ext w w1 := by rw [← hw1]; exact (Ext.refl w).alloc _
  have HE := Lib.hid E1
  have HB := Lib.hid (show NBox w1 T 26 #[.int .u64 t.id, .bool t.leaf, .string t.label, .slice tA t.attrs.length tc, .string t.text, .slice tK t.kids.length td] from by rw [← hw1, ← hT]; exact NBox.new _ _ _)
  have HTR := Lib.hid ht
  have HP := Lib.hid hp
  have HW := Lib.hid hw1
  have HTT := Lib.hid hT
  have HID := Lib.hid hid
  have hwg := weigh_any t.cnt t _ 400 w1 (Nat.le_refl _) (Nd.rd_ext E1 ht) (by omega) (by omega)
  have hiff := Nd.weigh_iff t (top := 400) (by omega)
  have HIFF := Lib.hid hiff
  have hle := Nd.weigh_le t 400 (by omega)
  have hlp := hp
  obtain ⟨pA, pc, rfl, -, lp1, lp2, -⟩ := hlp
  unfold maxLen at lp2
  clear hw1 hT E1 ht hp hiff hid
  rcases Int.lt_or_le 400 (t.weigh 400) with h1 | h1
  · have t1 : decide (400 < t.weigh 400) = true := decide_eq_true h1
    have k0 := HB.out.cell 0
    have k1 := HB.out.cell 1
    have k2 := HB.out.cell 2
    have k3 := HB.out.cell 3
    have k4 := HB.out.cell 4
    have k5 := HB.out.cell 5
    go_enter Try.func4, Try.ntmps4
    go_upto_region 1 with fail
    rw [HW.out, HTT.out]
    go_wp2_with fail
    refine hwg.mono ?_
    clear hwg k0 k1 k2 k3 k4 k5
    rintro e w2 ⟨r, rfl, rfl, hE⟩
    have HE' := Lib.hid (HE.out.trans hE)
    have HB' := Lib.hid (HB.out.ext hE)
    clear hE
    clear HE
    have HE := HE'
    clear HE'
    clear HB
    have HB := HB'
    clear HB'
    go_wp2_with fail
    refine (works_any w2).mono ?_
    rintro e u ⟨r, rfl, rfl, hE⟩
    go_wp2_with fail
    go_ret
    exact ret_bool (by rfl) (HE.out.trans hE)
  have hwt : t.wt ≤ 1000000 := by have := HIFF.out.1 h1; omega
  have t1 : decide (400 < t.weigh 400) = false := decide_eq_false (by omega)
  rcases Nat.lt_or_ge 100 p.length with h2 | h2
  · have t2 : decide (100 < (p.length : Int)) = true := decide_eq_true (by omega)
    have k0 := HB.out.cell 0
    have k1 := HB.out.cell 1
    have k2 := HB.out.cell 2
    have k3 := HB.out.cell 3
    have k4 := HB.out.cell 4
    have k5 := HB.out.cell 5
    go_enter Try.func4, Try.ntmps4
    go_upto_region 1 with fail
    rw [HW.out, HTT.out]
    go_wp2_with fail
    refine hwg.mono ?_
    clear hwg k0 k1 k2 k3 k4 k5
    rintro e w2 ⟨r, rfl, rfl, hE⟩
    have HE' := Lib.hid (HE.out.trans hE)
    have HB' := Lib.hid (HB.out.ext hE)
    clear hE
    clear HE
    have HE := HE'
    clear HE'
    clear HB
    have HB := HB'
    clear HB'
    go_wp2_with fail
    refine (works_any w2).mono ?_
    rintro e u ⟨r, rfl, rfl, hE⟩
    go_wp2_with fail
    go_ret
    exact ret_bool (by rfl) (HE.out.trans hE)
  have t2 : decide (100 < (p.length : Int)) = false := decide_eq_false (by omega)
  have k0 := HB.out.cell 0
  have k1 := HB.out.cell 1
  have k2 := HB.out.cell 2
  have k3 := HB.out.cell 3
  have k4 := HB.out.cell 4
  have k5 := HB.out.cell 5
  go_enter Try.func4, Try.ntmps4
  go_upto_region 1 with fail
  rw [HW.out, HTT.out]
  go_wp2_with fail
  refine hwg.mono ?_
  clear hwg k0 k1 k2 k3 k4 k5
  rintro e w2 ⟨r, rfl, rfl, hE⟩
  have HE' := Lib.hid (HE.out.trans hE)
  have HB' := Lib.hid (HB.out.ext hE)
  clear hE
  clear HE
  have HE := HE'
  clear HE'
  clear HB
  have HB := HB'
  clear HB'
  have k0 := HB.out.cell 0
  have k1 := HB.out.cell 1
  have k2 := HB.out.cell 2
  have k3 := HB.out.cell 3
  have k4 := HB.out.cell 4
  have k5 := HB.out.cell 5
  have hc := split19_any cut id t p _ _ w2 (Nd.rd_ext HE.out HTR.out) (RdS.ext HE.out HP.out) hwt (by omega) HID.out
  go_wp2_with fail
  refine hc.mono ?_
  clear hc k0 k1 k2 k3 k4 k5
  rintro e w3 hh
  obtain ⟨hE, Aa, na, ca, ka_, rfl, hv⟩ := hh.anL
  have Ha := Lib.hid hv
  have HE' := Lib.hid (HE.out.trans hE)
  have HB' := Lib.hid (HB.out.ext hE)
  clear hE hv hh
  clear HE
  have HE := HE'
  clear HE'
  clear HB
  have HB := HB'
  clear HB'
  have k0 := HB.out.cell 0
  have k1 := HB.out.cell 1
  have k2 := HB.out.cell 2
  have k3 := HB.out.cell 3
  have k4 := HB.out.cell 4
  have k5 := HB.out.cell 5
  have hc := rsplit_any cut id t p _ _ w3 (Nd.rd_ext HE.out HTR.out) (RdS.ext HE.out HP.out) hwt (by omega) HID.out
  go_wp2_with fail
  refine hc.mono ?_
  clear hc k0 k1 k2 k3 k4 k5
  rintro e w4 hh
  obtain ⟨hE, Ab, nb, cb, kb_, rfl, hv⟩ := hh.anL
  have Hb := Lib.hid hv
  have HE' := Lib.hid (HE.out.trans hE)
  have HB' := Lib.hid (HB.out.ext hE)
  have Ha' := Lib.hid (Ha.out.ext hE)
  clear hE hv hh
  clear HE
  have HE := HE'
  clear HE'
  clear HB
  have HB := HB'
  clear HB'
  clear Ha
  have Ha := Ha'
  clear Ha'
  have k0 := HB.out.cell 0
  have k1 := HB.out.cell 1
  have k2 := HB.out.cell 2
  have k3 := HB.out.cell 3
  have k4 := HB.out.cell 4
  have k5 := HB.out.cell 5
  have hc := join21_any t p _ _ w4 (Nd.rd_ext HE.out HTR.out) (RdS.ext HE.out HP.out) hwt (by omega)
  go_wp2_with fail
  refine hc.mono ?_
  clear hc k0 k1 k2 k3 k4 k5
  rintro e w5 hh
  obtain ⟨hE, Ac, nc, cc, kc_, rfl, hv⟩ := hh.anL
  have Hc := Lib.hid hv
  have HE' := Lib.hid (HE.out.trans hE)
  have HB' := Lib.hid (HB.out.ext hE)
  have Ha' := Lib.hid (Ha.out.ext hE)
  have Hb' := Lib.hid (Hb.out.ext hE)
  clear hE hv hh
  clear HE
  have HE := HE'
  clear HE'
  clear HB
  have HB := HB'
  clear HB'
  clear Ha
  have Ha := Ha'
  clear Ha'
  clear Hb
  have Hb := Hb'
  clear Hb'
  have k0 := HB.out.cell 0
  have k1 := HB.out.cell 1
  have k2 := HB.out.cell 2
  have k3 := HB.out.cell 3
  have k4 := HB.out.cell 4
  have k5 := HB.out.cell 5
  have hc := rjoin_any t p _ _ w5 (Nd.rd_ext HE.out HTR.out) (RdS.ext HE.out HP.out) hwt (by omega)
  go_wp2_with fail
  refine hc.mono ?_
  clear hc k0 k1 k2 k3 k4 k5
  rintro e w6 hh
  obtain ⟨hE, Ad, nd, cd, kd_, rfl, hv⟩ := hh.anL
  have Hd := Lib.hid hv
  have HE' := Lib.hid (HE.out.trans hE)
  have HB' := Lib.hid (HB.out.ext hE)
  have Ha' := Lib.hid (Ha.out.ext hE)
  have Hb' := Lib.hid (Hb.out.ext hE)
  have Hc' := Lib.hid (Hc.out.ext hE)
  clear hE hv hh
  clear HE
  have HE := HE'
  clear HE'
  clear HB
  have HB := HB'
  clear HB'
  clear Ha
  have Ha := Ha'
  clear Ha'
  clear Hb
  have Hb := Hb'
  clear Hb'
  clear Hc
  have Hc := Hc'
  clear Hc'
  clear HB
  have hc := same13_anL Ha.out Hb.out (splP_okl (by omega))
  go_wp2_with fail
  refine hc.mono ?_
  clear hc
  rintro e w7 ⟨r, rfl, rfl, hE⟩
  have HE' := Lib.hid (HE.out.trans hE)
  have Ha' := Lib.hid (Ha.out.ext hE)
  have Hb' := Lib.hid (Hb.out.ext hE)
  have Hc' := Lib.hid (Hc.out.ext hE)
  have Hd' := Lib.hid (Hd.out.ext hE)
  clear hE
  clear HE
  have HE := HE'
  clear HE'
  clear Ha
  have Ha := Ha'
  clear Ha'
  clear Hb
  have Hb := Hb'
  clear Hb'
  clear Hc
  have Hc := Hc'
  clear Hc'
  clear Hd
  have Hd := Hd'
  clear Hd'
  have hc := same13_anL Hc.out Hd.out (joinP_okl (by omega))
  go_wp2_with fail
  refine hc.mono ?_
  clear hc
  rintro e w8 ⟨r, rfl, rfl, hE⟩
  have HE' := Lib.hid (HE.out.trans hE)
  have Ha' := Lib.hid (Ha.out.ext hE)
  have Hb' := Lib.hid (Hb.out.ext hE)
  have Hc' := Lib.hid (Hc.out.ext hE)
  have Hd' := Lib.hid (Hd.out.ext hE)
  clear hE
  clear HE
  have HE := HE'
  clear HE'
  clear Ha
  have Ha := Ha'
  clear Ha'
  clear Hb
  have Hb := Hb'
  clear Hb'
  clear Hc
  have Hc := Hc'
  clear Hc'
  clear Hd
  have Hd := Hd'
  clear Hd'
  go_wp2_with fail
  refine (works_any w8).mono ?_
  rintro e u ⟨r, rfl, rfl, hE⟩
  go_wp2_with fail
  go_ret
  exact ret_bool (by rfl) (HE.out.trans hE)
end Go.Proofs.Ytofcbclokkjfjaa.Wi
