/- Chapter 05: the law LeaftextCompose. -/
import Derived.Test.YtmncjknfkkedmaaLxWorks
import Derived.Test.YtmncjknfkkedmaaLxSmall
import Derived.Test.YtmncjknfkkedmaaLxSame
import Derived.Test.YtmncjknfkkedmaaLxRComp
namespace Go.Proofs.Ytmncjknfkkedmaa.Lx
open Go.RowKit Go.Proofs.Ytmncjknfkkedmaa.Bw Go.Proofs.Ytmncjknfkkedmaa.Bs

set_option maxRecDepth 100000 in
set_option maxHeartbeats 1600000 in
theorem lawCompose (t : ByteArray) (a b : List Pc) (va vb : Value) (w : World) (ht : t.size ≤ maxLen) (ha : RdP w a va) (hb : RdP w b vb) : Calls Try.prog 9 #[.string t, va, vb] w (Ret w fun r _ => r = .bool true) := by
  unfold maxLen at ht
  obtain ⟨Aa, ca, rfl, -⟩ := id ha
  obtain ⟨Ab, cb, rfl, -⟩ := id hb
  rcases Nat.lt_or_ge 600 t.size with hl | hl
  · have t1 : decide ((600 : Int) < (t.size : Int)) = true := decide_eq_true (by omega)
    have hk := works_any w
    go_enter Try.func9, Try.ntmps9
    go_wp2_with fail
    refine hk.mono ?_
    clear hk
    rintro e w1 ⟨_, rfl, rfl, E1⟩
    go_wp2_with fail
    go_ret
    exact ⟨_, rfl, rfl, E1⟩
  · have t1 : decide ((600 : Int) < (t.size : Int)) = false := decide_eq_false (by omega)
    have hc := small_any a _ 200 w ha (by decide) (by decide)
    go_enter Try.func9, Try.ntmps9
    go_wp2_with fail
    refine hc.mono ?_
    clear hc
    rintro e w1 ⟨_, rfl, ⟨ta, rfl, hta⟩, E1⟩
    cases ta with
    | false =>
      have hk := works_any w1
      go_wp2_with fail
      refine hk.mono ?_
      clear hk
      rintro e w2 ⟨_, rfl, rfl, E2⟩
      go_wp2_with fail
      go_ret
      exact ⟨_, rfl, rfl, E1.trans E2⟩
    | true =>
      obtain ⟨a1, a2⟩ := hta rfl
      clear hta
      have hc := small_any b _ 200 w1 (hb.ext E1) (by decide) (by decide)
      go_wp2_with fail
      refine hc.mono ?_
      clear hc
      rintro e w2 ⟨_, rfl, ⟨tb, rfl, htb⟩, E12⟩
      have E2 := E1.trans E12
      cases tb with
      | false =>
        have hk := works_any w2
        go_wp2_with fail
        refine hk.mono ?_
        clear hk
        rintro e w3 ⟨_, rfl, rfl, E3⟩
        go_wp2_with fail
        go_ret
        exact ⟨_, rfl, rfl, E2.trans E3⟩
      | true =>
        obtain ⟨b1, b2⟩ := htb rfl
        clear htb E1 E12
        have hc := compose_any a b _ _ w2 (ha.ext E2) (hb.ext E2)
        have hc2 := fun W hW1 hW2 => composeR_any a b (.slice Aa a.length ca) (.slice Ab b.length cb) W hW1 hW2 (by omega) (by omega) (by omega) (by omega)
        have hboth := @co_both t a b
        obtain ⟨E, hE⟩ : ∃ E, coE a b = E := ⟨_, rfl⟩
        obtain ⟨LX, hLX⟩ : ∃ l, coL a b = l := ⟨_, rfl⟩
        rw [hE, hLX] at hc hc2 hboth
        have HB := Lib.hid hboth
        have HC := Lib.hid hc2
        clear hE hLX hboth hc2
        go_wp2_with fail
        refine hc.mono ?_
        clear hc
        rintro e w3 ⟨vx, rfl, RX, E23⟩
        have E3 := E2.trans E23
        have hc := HC.out w3 (ha.ext E3) (hb.ext E3)
        clear HC E2
        go_wp2_with fail
        refine hc.mono ?_
        clear hc
        rintro e w4 ⟨vy, rfl, RY, E34⟩
        have E4 := E3.trans E34
        replace RX := RX.ext E34
        have u0 : (E != E) = false := by simp
        have hs := same_any LX LX vx vy w4 RX RY
        rw [pcsEq_iff.2 rfl] at hs
        clear RY E3 E23 E34
        go_wp2_with fail
        refine hs.mono ?_
        clear hs
        rintro e w5 ⟨_, rfl, rfl, E45⟩
        have E5 := E4.trans E45
        replace RX := RX.ext E45
        clear E4 E45
        have hc := apply_any t a _ w5 (ha.ext E5) (by omega)
        obtain ⟨s, hs⟩ : ∃ s, apS t a = s := ⟨_, rfl⟩
        obtain ⟨r, hr⟩ : ∃ r, apE t a = r := ⟨_, rfl⟩
        have zs := apS_size t a
        have hbo := HB.out
        rw [hs] at zs
        rw [hs, hr] at hc hbo
        have HBO := Lib.hid hbo
        clear hs hr hbo HB
        go_wp2_with fail
        refine hc.mono ?_
        clear hc
        rintro e w6 ⟨_, rfl, rfl, E56⟩
        have E6 := E5.trans E56
        replace RX := RX.ext E56
        clear E5 E56
        have hc := apply_any s b _ w6 (hb.ext E6) (by omega)
        obtain ⟨u, hu⟩ : ∃ s', apS s b = s' := ⟨_, rfl⟩
        obtain ⟨q, hq⟩ : ∃ r, apE s b = r := ⟨_, rfl⟩
        have hbo := HBO.out
        rw [hu, hq] at hc hbo
        have HBQ := Lib.hid hbo
        clear hu hq hbo HBO
        go_wp2_with fail
        refine hc.mono ?_
        clear hc
        rintro e w7 ⟨_, rfl, rfl, E67⟩
        have E7 := E6.trans E67
        replace RX := RX.ext E67
        clear E6 E67
        by_cases he0 : E = 0
        · by_cases hr0 : r = 0
          · by_cases hq0 : q = 0
            · have u1 : (E != 0) = false := by rw [he0]; rfl
              have u2 : (r != 0) = false := by rw [hr0]; rfl
              have u3 : (q != 0) = false := by rw [hq0]; rfl
              obtain ⟨k1, k2⟩ := HBQ.out he0 hr0 hq0
              have hc := apply_any t LX _ w7 RX (by omega)
              rw [k1, k2] at hc
              have u4 : (u.toList == u.toList) = true := by simp
              clear he0 hr0 hq0 k1 k2
              obtain ⟨Ax, cx, rfl, -⟩ := id RX
              go_wp2_with fail
              refine hc.mono ?_
              clear hc
              rintro e w8 ⟨_, rfl, rfl, E78⟩
              have E8 := E7.trans E78
              have hk := works_any w8
              go_wp2_with fail
              refine hk.mono ?_
              clear hk
              rintro e w9 ⟨_, rfl, rfl, E89⟩
              go_wp2_with fail
              go_ret
              exact ⟨_, rfl, rfl, E8.trans E89⟩
            · have u1 : (E != 0) = false := by rw [he0]; rfl
              have u2 : (r != 0) = false := by rw [hr0]; rfl
              have u3 : (q != 0) = true := by simpa using hq0
              have hk := works_any w7
              clear he0 hr0 hq0
              go_wp2_with fail
              refine hk.mono ?_
              clear hk
              rintro e w8 ⟨_, rfl, rfl, E78⟩
              go_wp2_with fail
              go_ret
              exact ⟨_, rfl, rfl, E7.trans E78⟩
          · have u1 : (E != 0) = false := by rw [he0]; rfl
            have u2 : (r != 0) = true := by simpa using hr0
            have hk := works_any w7
            clear he0 hr0
            go_wp2_with fail
            refine hk.mono ?_
            clear hk
            rintro e w8 ⟨_, rfl, rfl, E78⟩
            go_wp2_with fail
            go_ret
            exact ⟨_, rfl, rfl, E7.trans E78⟩
        · have u1 : (E != 0) = true := by simpa using he0
          have hk := works_any w7
          clear he0
          go_wp2_with fail
          refine hk.mono ?_
          clear hk
          rintro e w8 ⟨_, rfl, rfl, E78⟩
          go_wp2_with fail
          go_ret
          exact ⟨_, rfl, rfl, E7.trans E78⟩
end Go.Proofs.Ytmncjknfkkedmaa.Lx
