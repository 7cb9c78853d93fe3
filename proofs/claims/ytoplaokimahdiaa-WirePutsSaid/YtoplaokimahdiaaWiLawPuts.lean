/- Chapter 17: the law WirePuts. -/
import Derived.Test.YtoplaokimahdiaaWiRList
import Derived.Test.YtoplaokimahdiaaWiWorks
import Derived.Test.YtoplaokimahdiaaWiWeigh
namespace Go.Proofs.Ytoplaokimahdiaa.Wi
open Go.RowKit Go.Proofs.Ytoplaokimahdiaa.Bw Go.Proofs.Ytoplaokimahdiaa.Bs

/-- A row of bytes that may be written. -/
def Row (n : Nat) (cs : Array Value) : Prop := ∀ j, j < n → ∃ b : Int, cs[j]? = some (.int .u8 b)
theorem Row.set {n : Nat} {cs : Array Value} (h : Row n cs) (i : Nat) (b : Int) : Row n (cs.setIfInBounds i (.int .u8 b)) := by
  intro j hj
  by_cases e : i = j
  · subst e
    obtain ⟨x, hx⟩ := h i hj
    have hlt := (Array.getElem?_eq_some_iff.1 hx).1
    exact ⟨b, by rw [Array.getElem?_setIfInBounds_self_of_lt hlt]⟩
  · obtain ⟨x, hx⟩ := h j hj
    exact ⟨x, by rw [Array.getElem?_setIfInBounds_ne e]; exact hx⟩
theorem own_row {W : World} {base n : Nat} {v : Value} {bs : List UInt8} (hn : bs.length = n) (h : W.ownsRow base 5 1 v n (u8s bs)) : ∃ A c, v = .slice A n c ∧ n ≤ 9223372036854775807 ∧ (0 < n → ∃ g cs, A = some ⟨g, 0, none⟩ ∧ base ≤ g ∧ NBox W g 5 cs ∧ Row n cs) := by
  rcases h.2 with ⟨rfl, h0⟩ | ⟨g, cap, cur, rfl, hb, hg, h1, h2, h3, h4⟩
  · subst h0
    exact ⟨none, 0, rfl, Nat.zero_le _, fun h => absurd h (Nat.lt_irrefl 0)⟩
  · refine ⟨_, cap, rfl, ?_, fun _ => ⟨g, cur, rfl, hb, hg, fun j hj => ?_⟩⟩
    · unfold maxLen at h2
      omega
    · have := h.cells (g := g) rfl j (.int .u8 ((bs.getD j 0).toNat : Int)) (by
        unfold u8s
        rw [List.getElem?_map, List.getElem?_eq_getElem (by omega)]
        simp [List.getD, List.getElem?_eq_getElem (show j < bs.length by omega)])
      rw [Addr.add_lit, Nat.zero_add, cell_of_blk hg] at this
      exact ⟨_, this⟩
set_option maxRecDepth 100000 in
set_option maxHeartbeats 4000000 in
theorem lawPuts (l : List OpD) (lv : Value) (w : World) (h : RdL w l lv) : Calls Try.prog 3 #[lv] w (Ret w fun r _ => r = .bool true) := by
  have HL := Lib.hid h
  have hc := weight_any l lv w 5000 h
  obtain ⟨lA, lc, rfl, -⟩ := h
  go_enter Try.func3, Try.ntmps3
  go_wp2_with fail
  refine hc.mono ?_
  clear hc
  rintro e w1 ⟨r, rfl, ⟨n, rfl⟩, hE⟩
  have X1 := Lib.hid hE
  clear hE
  cases g1 : decide (5000 < n) with
  | true =>
    have hw := works_any w1
    go_wp2_with fail
    refine hw.mono ?_
    clear hw
    rintro e wf ⟨rfl, hXf⟩
    go_wp2_with fail
    go_ret
    exact ⟨_, rfl, rfl, X1.out.trans hXf⟩
  | false =>
    have hc := listR_any l _ w1 (RdL.ext X1.out HL.out)
    go_wp2_with fail
    refine hc.mono ?_
    clear hc
    rintro e w2 ⟨hX2, v2, rfl, hO2⟩
    have kc := conv_own hO2
    obtain ⟨s1, hs1⟩ : ∃ s, Sb (bytesOf (listE l)) = s := ⟨_, rfl⟩
    have HS := Lib.hid hs1
    rw [hs1] at kc
    have X2 := Lib.hid (X1.out.trans hX2)
    obtain ⟨vA, vC, rfl, -⟩ := RdS.of_owns hO2
    clear hX2 hO2 hs1 g1
    go_wp2_with fail
    clear kc
    go_loopw [4, 5, 6] (fun s4 s5 s6 wr => ∃ t : Nat, s4 = .int .i64 (t : Int) ∧ t ≤ 2 ∧ Ext w wr) (fun t _ _ _ => 2 - (intOf t).toNat)
    case atStart => exact ⟨0, rfl, by decide, X2.out⟩
    case round =>
      obtain ⟨t, rfl, ht, hX⟩ := hrel
      have q1 : (0 : Int) ≤ (t : Int) := by omega
      have HX := Lib.hid hX
      rcases Nat.lt_or_ge t 2 with hlt | hlt
      · have q2 : (t : Int) < 2 := by omega
        have hc := putList_any l _ wr (RdL.ext hX HL.out)
        clear hX
        go_wp2_with fail
        refine hc.mono ?_
        clear hc
        rintro e w3 ⟨hX3, v3, rfl, hO3⟩
        have kc := conv_own hO3
        rw [HS.out] at kc
        obtain ⟨n3, hn3⟩ : ∃ n, (bytesOf (listE l)).length = n := ⟨_, rfl⟩
        rw [hn3] at hO3
        obtain ⟨A3, c3, rfl, hm3, hrow⟩ := own_row hn3 hO3
        have HROW := Lib.hid hrow
        have X3 := Lib.hid (HX.out.trans hX3)
        have HB := Lib.hid HX.out.size
        clear hX3 hO3 hrow hn3
        go_wp2_with fail
        clear kc
        go_loopw [6] (fun s6 wq => ∃ j : Nat, s6 = .int .i64 (j : Int) ∧ j ≤ n3 ∧ Ext w wq ∧ (0 < n3 → ∃ g cs, A3 = some ⟨g, 0, none⟩ ∧ w.heap.size ≤ g ∧ NBox wq g 5 cs ∧ Row n3 cs)) (fun j _ => n3 - (intOf j).toNat)
        case atStart => exact ⟨0, rfl, Nat.zero_le _, X3.out, fun h0 => by
          obtain ⟨g, cs, e, hb, hbx, hr⟩ := HROW.out h0
          exact ⟨g, cs, e, Nat.le_trans HB.out hb, hbx, hr⟩⟩
        case round =>
          obtain ⟨j, rfl, hj, hXq, hr⟩ := hrel
          have q3 : (0 : Int) ≤ (j : Int) := by omega
          rcases Nat.lt_or_ge j n3 with hlj | hlj
          · have q4 : (j : Int) < (n3 : Int) := by omega
            obtain ⟨g, cs, rfl, hb, hbx, hr⟩ := hr (by omega)
            obtain ⟨b, hcb⟩ := hr j hlj
            have z0 : wr.cell? ⟨g, j, none⟩ = some (.int .u8 b) := (hbx.cell j).trans hcb
            have z1 := hbx.frozen j
            have HXQ := Lib.hid hXq
            have HBX := Lib.hid hbx
            have HRR := Lib.hid hr
            clear hXq hbx hr hcb
            go_wp2_with fail
            go_roundw
            case rel => exact ⟨j + 1, by go_num, by omega, Fr.ext HXQ.out (Fr.setCell _ _ _ _) (fun k hk => by rw [hk]; exact hb), fun _ => ⟨g, _, rfl, hb, HBX.out.set j _, HRR.out.set j _⟩⟩
            case measure => simp [intOf]; omega
          · clear hr
            have HXQ := Lib.hid hXq
            clear hXq
            go_wp2_with fail
            go_roundw
            case rel => exact ⟨t + 1, by go_num, by omega, HXQ.out⟩
            case measure => simp [intOf]; omega
      · have hw := works_any wr
        clear hX
        go_wp2_with fail
        refine hw.mono ?_
        clear hw
        rintro e wf ⟨rfl, hXf⟩
        go_wp2_with fail
        go_ret
        exact ⟨_, rfl, rfl, HX.out.trans hXf⟩
end Go.Proofs.Ytoplaokimahdiaa.Wi
