/- Chapter 07: Walk 15, under 47. -/
import Derived.Test.YtobbdeakocgdcaaArReads
namespace Go.Proofs.Ytobbdeakocgdcaa.Ar
open Go.RowKit Go.Proofs.Ytobbdeakocgdcaa.Bw

/-- The slot at a path. -/
def St.walk (S : St) : Nat → List Int → Option Nat
  | n, [] => some n
  | n, i :: r => if i < 0 ∨ ((S.get n).kids.length : Int) ≤ i then none else S.walk ((S.get n).kids.getD i.toNat 0) r
def walkR : Option Nat → Value
  | some n => .tuple #[.int .i64 (n : Int), .bool true]
  | none => .tuple #[.int .i64 (-1), .bool false]
/-- Children's numbers are slots'. -/
def St.Ok (S : St) : Prop := 0 < S.sl.length ∧ ∀ n k, k ∈ (S.get n).kids → k < S.sl.length
theorem TI.ok {S : St} {d : Nat → Nat} (h : TI S d) : S.Ok := by
  refine ⟨by obtain ⟨s, h1, _⟩ := h.root; exact lt_of_get h1, fun n k hk => ?_⟩
  rcases hn : S.sl[n]? with _ | s
  · simp [St.get, hn, Sl.zero] at hk
  · rw [St.get_of hn] at hk
    rcases hl : s.live with _ | _
    · rw [(h.dead n s hn hl).1] at hk; simp [Sl.zero] at hk
    · obtain ⟨_, t, h1, _⟩ := h.down n s hn hl k hk
      exact lt_of_get h1
section
variable {w : World} {ρ : Nat → Tg} {base A : Nat} {S : St} {sv fv : Value} {bs : List Nat}

set_option maxRecDepth 100000 in
set_option maxHeartbeats 2000000 in
theorem walk_any (h : AP w ρ base A S sv fv bs) (hok : S.Ok) (p : List Int) (pv : Value) (hp : RdS w 1 p.length (p.map (Value.int .i64)) pv) (hbig : bs.length ≤ 1000000) :
    Calls Try.prog 15 #[.pointer (some ⟨A, 0, none⟩), pv] w fun e w' => e = .returned (walkR (S.walk 0 p)) ∧ w' = w := by
  obtain ⟨pA, pc, rfl, hp1, hp2, hp3, hp4⟩ := hp
  unfold maxLen at hp3
  go_enter Try.func15, Try.ntmps15
  go_wp2_with fail
  go_loopw [6, 14] (fun s6 s14 wr => ∃ m k : Nat, s6 = .int .i64 (m : Int) ∧ s14 = .int .i64 (k : Int) ∧ k ≤ p.length ∧ m < S.sl.length ∧ Hid (S.walk m (p.drop k) = S.walk 0 p) ∧ Hid (wr = w)) (fun _ s14 _ => p.length - (intOf s14).toNat)
  case atStart => exact ⟨0, 0, rfl, rfl, Nat.zero_le _, hok.1, Lib.hid rfl, Lib.hid rfl⟩
  case round =>
    obtain ⟨m, k, rfl, rfl, hk, hm, HW, HR⟩ := hrel
    obtain rfl := HR.out
    clear HR
    rcases Nat.lt_or_ge k p.length with hlt | hlt
    · obtain ⟨x, hx⟩ : ∃ x, p[k]? = some x := ⟨_, List.getElem?_eq_getElem hlt⟩
      obtain ⟨b, off, rfl, hcell⟩ := hp4 (by omega)
      have cx := hcell k (.int .i64 x) (by simp [hx])
      have hm16 : m < 16 * bs.length := Nat.lt_of_lt_of_le hm h.room
      have hc := at_any h m hm16 hbig
      obtain ⟨b2, cs, av, kv, h1, h2, h3, h4, h5, h6⟩ := h.slot hm16
      have hs : slotAt bs m = ⟨b2, m % 16 * 8, none⟩ := by rw [slotAt, h2]
      rw [hs] at hc
      have hks := h6.ks
      have hkl := h.big.2.2 m
      have hokm := hok.2 m
      have HD := Lib.hid (drop_at hx)
      have HWn := Lib.hid (show S.walk m (x :: p.drop (k + 1)) = if x < 0 ∨ ((S.get m).kids.length : Int) ≤ x then none else S.walk ((S.get m).kids.getD x.toNat 0) (p.drop (k + 1)) from rfl)
      rw [HD.out, HWn.out] at HW
      clear HD HWn
      have c7 : wr.cell? ⟨b2, m % 16 * 8 + 7, none⟩ = some kv := by rw [h3.cell]; exact h5 7 _ rfl
      clear h1 h2 h3 h4 h5 h6 hs hcell hx hp4
      generalize S.get m = s at *
      rcases Int.lt_or_le x 0 with hx0 | hx0
      · have t1 : decide (x < 0) = true := decide_eq_true hx0
        obtain ⟨kA, kc, rfl, hk1, hk2⟩ := owns_slice hks
        clear hks h hok hokm
        have HN := Lib.hid (show S.walk 0 p = none from by rw [← HW.out, if_pos (.inl hx0)])
        clear HW
        go_wp2_with (go_at_call 29; refine hc.mono ?_; rintro e w1 ⟨rfl, rfl⟩)
        exact bodyPost_ret (results_tmp2 rfl _ _ _) rfl ⟨by rw [HN.out]; rfl, rfl⟩
      · have t1 : decide (x < 0) = false := decide_eq_false (by omega)
        rcases Int.lt_or_le x (s.kids.length : Int) with hx1 | hx1
        · have t2 : decide ((s.kids.length : Int) ≤ x) = false := decide_eq_false (by omega)
          obtain ⟨j, rfl⟩ : ∃ j : Nat, x = (j : Int) := ⟨x.toNat, by omega⟩
          have hj : j < s.kids.length := by omega
          obtain ⟨q, hq⟩ : ∃ q, s.kids[j]? = some q := ⟨_, List.getElem?_eq_getElem hj⟩
          have hqm : q < S.sl.length := hokm q (List.mem_of_getElem? hq)
          rcases owns_form hks with ⟨_, h0, _⟩ | ⟨g, cap, cs', rfl, hb2, hbx, g4, g5, g6, g7, g8⟩
          · omega
          · have cq : wr.cell? ⟨g, j, none⟩ = some (.int .i64 (q : Int)) := by rw [hbx.cell]; exact g8 j _ (ints_at hq)
            have HN := Lib.hid (show S.walk q (p.drop (k + 1)) = S.walk 0 p from by
              rw [← HW.out, if_neg (by omega)]
              simp [List.getD, hq])
            clear HW hks hbx g8 g6 g7 hokm hq h hok
            go_wp2_with (go_at_call 29; refine hc.mono ?_; rintro e w1 ⟨rfl, rfl⟩)
            go_roundw
            case rel => exact ⟨q, k + 1, by go_num, by go_num, by omega, hqm, HN, Lib.hid trivial⟩
            case measure => simp [intOf]; omega
        · have t2 : decide ((s.kids.length : Int) ≤ x) = true := decide_eq_true hx1
          obtain ⟨kA, kc, rfl, hk1, hk2⟩ := owns_slice hks
          clear hks h hok hokm
          have HN := Lib.hid (show S.walk 0 p = none from by rw [← HW.out, if_pos (.inr hx1)])
          clear HW
          go_wp2_with (go_at_call 29; refine hc.mono ?_; rintro e w1 ⟨rfl, rfl⟩)
          exact bodyPost_ret (results_tmp2 rfl _ _ _) rfl ⟨by rw [HN.out]; rfl, rfl⟩
    · have HN := Lib.hid (show S.walk 0 p = some m from by rw [← HW.out, List.drop_eq_nil_of_le hlt]; rfl)
      clear HW h hok hp4
      go_wp2_with fail
      exact bodyPost_ret (results_tmp2 rfl _ _ _) rfl ⟨by rw [HN.out]; rfl, rfl⟩
theorem walk_nil (pv : Value) (w : World) : Calls Try.prog 15 #[.pointer none, pv] w fun e w' => e = .returned (walkR none) ∧ w' = w := by
  go_enter Try.func15, Try.ntmps15
  go_wp2_with fail
  exact bodyPost_ret (results_tmp2 rfl _ _ _) rfl ⟨rfl, rfl⟩

/-- A Bool that says it. -/
def Says (P : Prop) (r : Bool) : Prop := r = true ↔ P
/-- How far up it may be yet. -/
def upM (d : Nat → Nat) (v : Value) : Nat := if intOf v < 0 then 0 else d (intOf v).toNat + 1
theorem upM_nat (d : Nat → Nat) (k : Nat) : upM d (.int .i64 (k : Int)) = d k + 1 := by
  show (if (k : Int) < 0 then 0 else d (k : Int).toNat + 1) = _
  rw [if_neg (by omega), Int.toNat_natCast]
theorem upM_neg (d : Nat → Nat) : upM d (.int .i64 (-1)) = 0 := rfl
set_option maxRecDepth 100000 in
set_option maxHeartbeats 2000000 in
theorem under_any {d : Nat → Nat} (h : AP w ρ base A S sv fv bs) (ht : TI S d) (n top : Nat) (hn : n < S.sl.length) (hl : (S.get n).live = true) (hbig : bs.length ≤ 1000000) :
    Calls Try.prog 47 #[.pointer (some ⟨A, 0, none⟩), .int .i64 (n : Int), .int .i64 (top : Int)] w fun e w' => ∃ r, e = .returned (.bool r) ∧ Says (Anc S n top) r ∧ w' = w := by
  go_enter Try.func47, Try.ntmps47
  go_wp2_with fail
  go_loopw [1] (fun s1 wr => ((s1 = .int .i64 (-1) ∧ Hid (¬ Anc S n top)) ∨ ∃ k : Nat, s1 = .int .i64 (k : Int) ∧ Hid (∃ s, S.sl[k]? = some s ∧ s.live = true) ∧ Hid (Anc S k top ↔ Anc S n top)) ∧ Hid (wr = w)) (fun s1 _ => upM d s1)
  case atStart => exact ⟨.inr ⟨n, rfl, Lib.hid ⟨S.get n, by simp [St.get, hn], hl⟩, Lib.hid Iff.rfl⟩, Lib.hid rfl⟩
  case round =>
    obtain ⟨h1 | ⟨k, rfl, HL, HA⟩, HR⟩ := hrel
    · obtain ⟨rfl, HN⟩ := h1
      obtain rfl := HR.out
      go_wp2_with fail
      go_ret
      exact .inl ⟨rfl, ⟨fun h => (by cases h), fun h => absurd h HN.out⟩, rfl⟩
    · obtain rfl := HR.out
      obtain ⟨s, hs, hsl⟩ := HL.out
      have hlt := lt_of_get hs
      have hm16 : k < 16 * bs.length := Nat.lt_of_lt_of_le hlt h.room
      have hc := at_any h k hm16 hbig
      obtain ⟨b2, cs, av, kv, h1, h2, h3, h4, h5, h6⟩ := h.slot hm16
      have hsa : slotAt bs k = ⟨b2, k % 16 * 8, none⟩ := by rw [slotAt, h2]
      rw [hsa] at hc
      have c6 : wr.cell? ⟨b2, k % 16 * 8 + 6, none⟩ = some (.int .i64 s.parent) := by rw [h3.cell]; have := h5 6 _ rfl; rwa [St.get_of hs] at this
      by_cases hkt : k = top
      · have t1 : decide ((k : Int) = (top : Int)) = true := decide_eq_true (by omega)
        have HY := Lib.hid (HA.out.1 (by rw [hkt]; exact .refl _))
        subst hkt
        clear h1 h2 h3 h4 h5 h6 hsa h HL HA hs c6
        go_wp2_with fail
        go_ret
        exact .inr ⟨rfl, ⟨fun _ => HY.out, fun _ => rfl⟩, rfl⟩
      · have t1 : decide ((k : Int) = (top : Int)) = false := decide_eq_false (by omega)
        have t2 : ((k : Int) == (top : Int)) = false := by simp; omega
        have hrel2 : ∃ q : Int, s.parent = q ∧ ((q = -1 ∧ ¬ Anc S n top) ∨ ∃ p : Nat, q = (p : Int) ∧ (∃ s, S.sl[p]? = some s ∧ s.live = true) ∧ (Anc S p top ↔ Anc S n top) ∧ d p < d k) := by
          refine ⟨_, rfl, ?_⟩
          rcases Nat.eq_zero_or_pos k with h0 | h0
          · subst h0
            obtain ⟨r, g1, g2, g3⟩ := ht.root
            rw [hs] at g1; cases g1
            refine .inl ⟨g3, fun ha => ?_⟩
            have := HA.out.2 ha
            cases this with
            | refl => exact hkt rfl
            | up k1 k2 _ => rw [hs] at k1; cases k1; rw [g3] at k2; omega
          · obtain ⟨p, t, g1, g2, g3, g4, g5⟩ := ht.up k s hs hsl (by omega)
            refine .inr ⟨p, g1, ⟨t, g2, g3⟩, ⟨fun ha => HA.out.1 (.up hs g1 ha), fun ha => ?_⟩, g5⟩
            have := HA.out.2 ha
            cases this with
            | refl => exact absurd rfl hkt
            | up k1 k2 k3 =>
              rw [hs] at k1; cases k1
              obtain rfl := Int.ofNat.inj (g1.symm.trans k2)
              exact k3
        obtain ⟨q, hq, hq2⟩ := hrel2
        rw [hq] at c6
        have HQ := Lib.hid hq2
        clear h1 h2 h3 h4 h5 h6 hsa h HL HA hs hq hq2
        go_wp2_with (go_at_call 29; refine hc.mono ?_; rintro e w1 ⟨rfl, rfl⟩)
        go_roundw
        case rel =>
          refine ⟨?_, Lib.hid trivial⟩
          rcases HQ.out with ⟨rfl, h9⟩ | ⟨p, rfl, h8, h9, _⟩
          · exact .inl ⟨rfl, Lib.hid h9⟩
          · exact .inr ⟨p, rfl, Lib.hid h8, Lib.hid h9⟩
        case measure =>
          rcases HQ.out with ⟨rfl, h9⟩ | ⟨p, rfl, h8, h9, h10⟩
          · rw [upM_nat, upM_neg]; omega
          · rw [upM_nat, upM_nat]; omega
end
end Go.Proofs.Ytobbdeakocgdcaa.Ar
