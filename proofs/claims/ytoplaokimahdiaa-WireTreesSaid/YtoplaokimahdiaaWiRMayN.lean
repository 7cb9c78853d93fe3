/- Chapter 17: the document's MayNode (28), walked. (Printed by gwrmayn.py.) -/
import Derived.Test.YtoplaokimahdiaaWiRNode
import Derived.BigQuiet
import Derived.IntWalk
import Derived.WalkKit
namespace Go.Proofs.Ytoplaokimahdiaa.Wi
open Go.RowKit Go.Proofs.Ytoplaokimahdiaa.Bw Go.Proofs.Ytoplaokimahdiaa.Bs

theorem mayN_no {d : Nat} {t : Nd} (h : headOk d t = false) : mayN d t = -1 := by
  obtain ⟨id, leaf, lb, ats, tx, ks⟩ := t
  unfold mayN
  rw [if_neg (by rw [h]; decide)]
theorem mayN_yes {d : Nat} {id : Int} {leaf : Bool} {lb : ByteArray} {ats : List (ByteArray × ByteArray)} {tx : ByteArray} {ks : List Nd} (h : headOk d (.mk id leaf lb ats tx ks) = true) : mayN d (.mk id leaf lb ats tx ks) = kidsN (d + 1) 1 ks := by
  unfold mayN
  rw [if_pos h]
theorem kidsN_hi : ∀ (ks : List Nd) (d : Nat) (c : Int), c ≤ 512 → kidsN d c ks ≤ 512
  | [], d, c, h => by unfold kidsN; exact h
  | k :: r, d, c, h => by
    unfold kidsN
    split
    · decide
    next hh => exact kidsN_hi r d _ (by omega)
theorem kidsN_lo : ∀ (ks : List Nd) (d : Nat) (c : Int), 0 ≤ c → -1 ≤ kidsN d c ks
  | [], d, c, h => by unfold kidsN; omega
  | k :: r, d, c, h => by
    unfold kidsN
    split
    · decide
    next hh => exact kidsN_lo r d _ (by omega)
theorem mayN_in (d : Nat) (t : Nd) : -1 ≤ mayN d t ∧ mayN d t ≤ 512 := by
  obtain ⟨id, leaf, lb, ats, tx, ks⟩ := t
  unfold mayN
  split
  · exact ⟨kidsN_lo ks _ 1 (by decide), kidsN_hi ks _ 1 (by decide)⟩
  · decide
theorem kidsN_at {ks : List Nd} {j : Nat} {x : Nd} (h : ks[j]? = some x) (d : Nat) (c : Int) : kidsN d c (ks.drop j) = if mayN d x < 0 ∨ 512 < c + mayN d x then -1 else kidsN d (c + mayN d x) (ks.drop (j + 1)) := by
  rw [drop_at h, kidsN]
/-- What is left of the attributes may be, behind a key. -/
def upA (p : Option ByteArray) (l : List (ByteArray × ByteArray)) : Bool := firstOk p l && keysUp l && l.all attrOk
theorem upA_nil (p : Option ByteArray) : upA p [] = true := rfl
theorem upA_cons (p : Option ByteArray) (x : ByteArray × ByteArray) (r : List (ByteArray × ByteArray)) : upA p (x :: r) = (attrOk x && afterK p x.1 && upA (some x.1) r) := by
  have h : keysUp (x :: r) = (firstOk (some x.1) r && keysUp r) := by
    cases r with
    | nil => rfl
    | cons b r => rfl
  unfold upA
  rw [h]
  show (afterK p x.1 && (firstOk (some x.1) r && keysUp r) && (attrOk x && r.all attrOk)) = _
  cases afterK p x.1 <;> cases attrOk x <;> simp
theorem upA_at {l : List (ByteArray × ByteArray)} {i : Nat} {x : ByteArray × ByteArray} (h : l[i]? = some x) : upA (Wi.prevK none l i) (l.drop i) = (attrOk x && afterK (Wi.prevK none l i) x.1 && upA (Wi.prevK none l (i + 1)) (l.drop (i + 1))) := by
  rw [drop_at h, upA_cons]
  show _ = (_ && upA ((l[i]?).map Prod.fst) _)
  rw [h]
  rfl
theorem prev_pos {l : List (ByteArray × ByteArray)} {i : Nat} {y : ByteArray × ByteArray} (hi : 0 < i) (h : l[i - 1]? = some y) : Wi.prevK none l i = some y.1 := by
  obtain ⟨j, rfl⟩ : ∃ j, i = j + 1 := ⟨i - 1, by omega⟩
  show (l[j]?).map Prod.fst = _
  rw [show j + 1 - 1 = j by omega] at h
  rw [h]
  rfl
theorem head_eq (d : Nat) (id : Int) (leaf : Bool) (lb : ByteArray) (ats : List (ByteArray × ByteArray)) (tx : ByteArray) (ks : List Nd) : headOk d (.mk id leaf lb ats tx ks) = (decide (d ≤ 64) && decide (lb.size ≤ 64) && decide (ats.length ≤ 2048) && (if leaf then decide (ks.length = 0) && decide (tx.size ≤ 2048) else decide (tx.size = 0)) && upA none ats) := by
  have : upA none ats = (keysUp ats && ats.all attrOk) := by unfold upA; rw [firstOk_none]; rfl
  rw [this]
  rfl
def MayK (t : Nd) : Prop := ∀ (xv : Value) (d : Nat) (w : World), t.rd w xv → d ≤ 65 → Calls Try.prog 28 #[xv, .int .i64 (d : Int)] w (Ret w fun r _ => r = .int .i64 (mayN d t))
theorem ret_n {w w' : World} {a b : Int} (h : a = b) (hE : Ext w w') : (∃ r, Ending.returned (.int .i64 a) = .returned r ∧ r = .int .i64 b ∧ Ext w w') := ⟨_, rfl, by rw [h], hE⟩
theorem empty_is (s : ByteArray) : s.toList.isEmpty = decide (s.size = 0) := by
  have h : s.toList = bl s := (show (Sb (bl s)).toList = bl s from Sb_toList (bl s))
  rw [h, ← bl_len s]
  cases bl s <;> simp
set_option maxRecDepth 100000 in
set_option maxHeartbeats 4000000 in
theorem may_step (t : Nd) (ih : ∀ x ∈ t.kids, MayK x) : MayK t := by
  obtain ⟨id, leaf, lb, ats, tx, ks⟩ := t
  intro xv d w hx hd
  unfold Nd.rd at hx
  obtain ⟨av, A, cc, rfl, hid, hlb0, htx0, ⟨aA, ac, rfl, ha1, ha2, ha3⟩, hk1, hk2, hk3⟩ := hx
  unfold okStr maxLen at hlb0 htx0
  unfold maxLen at ha2 hk2
  obtain ⟨w1, hw1⟩ : ∃ W, w.alloc (.cells #[.int .u64 id, .bool leaf, .string lb, .slice aA ats.length ac, .string tx, .slice A ks.length cc] 32) = W := ⟨_, rfl⟩
  obtain ⟨D, hDD⟩ : ∃ D, w.heap.size = D := ⟨_, rfl⟩
  have E1 : Ext w w1 := by rw [← hw1]; exact (Ext.refl w).alloc _
  have bD : NBox w1 D 32 #[.int .u64 id, .bool leaf, .string lb, .slice aA ats.length ac, .string tx, .slice A ks.length cc] := by rw [← hw1, ← hDD]; exact NBox.new _ _ _
  have HM := Lib.hid (head_eq d id leaf lb ats tx ks)
  have HW := Lib.hid hw1
  have HD := Lib.hid hDD
  have HAX := Lib.hid ha3
  have HKX := Lib.hid hk3
  have HE := Lib.hid E1
  have HIH := Lib.hid ih
  have HBD := Lib.hid bD
  have hem := empty_is tx
  clear hw1 hDD ha3 hk3 hid ih
  go_enter Try.func28, Try.ntmps28
  go_upto_region 1 with fail
  rw [HW.out, HD.out]
  clear HW HD E1
  have d1 := bD.cell 1
  have d2 := bD.cell 2
  have d3 := bD.cell 3
  have d4 := bD.cell 4
  have d5 := bD.cell 5
  clear bD
  rcases Nat.lt_or_ge 64 d with h1 | h1
  · have t1 : decide (64 < d) = true := decide_eq_true h1
    have t1' : decide ((64 : Int) < (d : Int)) = true := decide_eq_true (by omega)
    have HR : Hid (mayN d (.mk id leaf lb ats tx ks) = -1) := Lib.hid (mayN_no (by rw [HM.out]; rw [decide_eq_false (by omega)]; rfl))
    go_wp2_with fail
    go_ret
    exact ret_n HR.out.symm HE.out
  have t1 : decide (64 < d) = false := decide_eq_false (by omega)
  have t1' : decide ((64 : Int) < (d : Int)) = false := decide_eq_false (by omega)
  rcases Nat.lt_or_ge 64 lb.size with h2 | h2
  · have t2 : decide (64 < lb.size) = true := decide_eq_true h2
    have t2' : decide ((64 : Int) < (lb.size : Int)) = true := decide_eq_true (by omega)
    have HR : Hid (mayN d (.mk id leaf lb ats tx ks) = -1) := Lib.hid (mayN_no (by rw [HM.out]; rw [decide_eq_false (show ¬ lb.size ≤ 64 by omega)]; simp))
    go_wp2_with fail
    go_ret
    exact ret_n HR.out.symm HE.out
  have t2 : decide (64 < lb.size) = false := decide_eq_false (by omega)
  have t2' : decide ((64 : Int) < (lb.size : Int)) = false := decide_eq_false (by omega)
  rcases Nat.lt_or_ge 2048 ats.length with h3 | h3
  · have t3 : decide (2048 < ats.length) = true := decide_eq_true h3
    have t3' : decide ((2048 : Int) < (ats.length : Int)) = true := decide_eq_true (by omega)
    have HR : Hid (mayN d (.mk id leaf lb ats tx ks) = -1) := Lib.hid (mayN_no (by rw [HM.out]; rw [decide_eq_false (show ¬ ats.length ≤ 2048 by omega)]; simp))
    go_wp2_with fail
    go_ret
    exact ret_n HR.out.symm HE.out
  have t3 : decide (2048 < ats.length) = false := decide_eq_false (by omega)
  have t3' : decide ((2048 : Int) < (ats.length : Int)) = false := decide_eq_false (by omega)
  have HM2 : Hid (headOk d (.mk id leaf lb ats tx ks) = ((if leaf then decide (ks.length = 0) && decide (tx.size ≤ 2048) else decide (tx.size = 0)) && upA none ats)) := Lib.hid (by
    rw [HM.out, decide_eq_true h1, decide_eq_true h2, decide_eq_true h3]; simp)
  clear HM
  cases leaf with
  | true =>
    rcases Nat.eq_zero_or_pos ks.length with h4 | h4
    case inr =>
      have t4 : decide (0 < ks.length) = true := decide_eq_true h4
      have t4' : decide ((0 : Int) < (ks.length : Int)) = true := decide_eq_true (by omega)
      have HR : Hid (mayN d (.mk id true lb ats tx ks) = -1) := Lib.hid (mayN_no (by rw [HM2.out]; rw [if_pos rfl, decide_eq_false (show ¬ ks.length = 0 by omega)]; rfl))
      go_wp2_with fail
      go_ret
      exact ret_n HR.out.symm HE.out
    have t4 : decide (0 < ks.length) = false := decide_eq_false (by omega)
    have t4' : decide ((0 : Int) < (ks.length : Int)) = false := decide_eq_false (by omega)
    rcases Nat.lt_or_ge 2048 tx.size with h5 | h5
    · have t5 : decide (2048 < tx.size) = true := decide_eq_true h5
      have t5' : decide ((2048 : Int) < (tx.size : Int)) = true := decide_eq_true (by omega)
      have HR : Hid (mayN d (.mk id true lb ats tx ks) = -1) := Lib.hid (mayN_no (by rw [HM2.out]; rw [if_pos rfl, decide_eq_false (show ¬ tx.size ≤ 2048 by omega)]; simp))
      go_wp2_with fail
      go_ret
      exact ret_n HR.out.symm HE.out
    have t5 : decide (2048 < tx.size) = false := decide_eq_false (by omega)
    have t5' : decide ((2048 : Int) < (tx.size : Int)) = false := decide_eq_false (by omega)
    have hok : (if true = true then decide (ks.length = 0) && decide (tx.size ≤ 2048) else decide (tx.size = 0)) = true := by rw [if_pos rfl, decide_eq_true h4, decide_eq_true h5]; rfl
    clear h4
    have HU : Hid (headOk d (.mk id true lb ats tx ks) = upA none ats) := Lib.hid (by rw [HM2.out, hok]; rfl)
    clear HM2 hok
    go_upto_region 3 with fail
    clear d1 d2 d3 d4 d5
    go_wp2_with fail
    go_loopw [5] (fun s5 wr => ∃ i : Nat, s5 = .int .i64 (i : Int) ∧ i ≤ ats.length ∧ Hid (headOk d (.mk id true lb ats tx ks) = upA (Wi.prevK none ats i) (ats.drop i)) ∧ Ext w1 wr) (fun i _ => ats.length - (intOf i).toNat)
    case atStart => exact ⟨0, rfl, Nat.zero_le _, HU, Ext.refl _⟩
    case round =>
      clear HU
      obtain ⟨i, rfl, hi, HU, hE⟩ := hrel
      have d3 := (HBD.out.ext hE).cell 3
      have q1 : (0 : Int) ≤ (i : Int) := by omega
      rcases Nat.lt_or_ge i ats.length with hlt | hlt
      · have q2 : (i : Int) < (ats.length : Int) := by omega
        obtain ⟨x, hx⟩ : ∃ x, ats[i]? = some x := ⟨_, List.getElem?_eq_getElem hlt⟩
        obtain ⟨ba, oa, rfl, hra⟩ := HAX.out (by intro h0; rw [h0] at hlt; exact absurd hlt (Nat.not_lt_zero _))
        have hra' := rdAttrs_ext (HE.out.trans hE) hra
        obtain ⟨key, val⟩ := x
        obtain ⟨e1, e2, e3, e4⟩ := rdAttrs_at hra' hx
        have HU2 : Hid (headOk d (.mk id true lb ats tx ks) = (attrOk (key, val) && afterK (Wi.prevK none ats i) key && upA (Wi.prevK none ats (i + 1)) (ats.drop (i + 1)))) := Lib.hid (HU.out.trans (upA_at hx))
        clear HU hra hx
        unfold maxLen at e3 e4
        rcases Nat.lt_or_ge 64 key.size with hk | hk
        · have tf1 : decide (64 < key.size) = true := decide_eq_true hk
          have tf1' : decide ((64 : Int) < (key.size : Int)) = true := decide_eq_true (by omega)
          have HR : Hid (mayN d (.mk id true lb ats tx ks) = -1) := Lib.hid (mayN_no (by rw [HU2.out]; unfold attrOk; rw [decide_eq_false (show ¬ (key, val).1.size ≤ 64 from by show ¬ key.size ≤ 64; omega)]; rfl))
          clear HU2 hra'
          go_wp2_with fail
          go_quiet (fail)
          go_wp2_with fail
          go_ret
          exact ret_n HR.out.symm ((HE.out.trans hE).drewN _)
        have tf1 : decide (64 < key.size) = false := decide_eq_false (by omega)
        have tf1' : decide ((64 : Int) < (key.size : Int)) = false := decide_eq_false (by omega)
        rcases Nat.lt_or_ge 256 val.size with hv | hv
        · have tf2 : decide (256 < val.size) = true := decide_eq_true hv
          have tf2' : decide ((256 : Int) < (val.size : Int)) = true := decide_eq_true (by omega)
          have HR : Hid (mayN d (.mk id true lb ats tx ks) = -1) := Lib.hid (mayN_no (by rw [HU2.out]; unfold attrOk; rw [decide_eq_false (show ¬ (key, val).2.size ≤ 256 from by show ¬ val.size ≤ 256; omega)]; simp))
          clear HU2 hra'
          go_wp2_with fail
          go_quiet (fail)
          go_wp2_with fail
          go_ret
          exact ret_n HR.out.symm ((HE.out.trans hE).drewN _)
        have tf2 : decide (256 < val.size) = false := decide_eq_false (by omega)
        have tf2' : decide ((256 : Int) < (val.size : Int)) = false := decide_eq_false (by omega)
        have HU3 : Hid (headOk d (.mk id true lb ats tx ks) = (afterK (Wi.prevK none ats i) key && upA (Wi.prevK none ats (i + 1)) (ats.drop (i + 1)))) := Lib.hid (by
          rw [HU2.out]; unfold attrOk
          rw [decide_eq_true (show (key, val).1.size ≤ 64 from hk), decide_eq_true (show (key, val).2.size ≤ 256 from hv)]; simp)
        clear HU2
        rcases Nat.eq_zero_or_pos i with hi0 | hi0
        · have HN : Hid (headOk d (.mk id true lb ats tx ks) = upA (Wi.prevK none ats (i + 1)) (ats.drop (i + 1))) := Lib.hid (by rw [HU3.out, hi0]; rfl)
          have tf3 : decide (0 < i) = false := by simp; omega
          have tf3' : decide ((0 : Int) < (i : Int)) = false := by simp; omega
          clear HU3 hi0 hra'
          go_wp2_with fail
          go_quiet (fail)
          go_wp2_with fail
          go_roundw
          case rel => exact ⟨i + 1, by go_num, by omega, HN, hE.drewN _⟩
          case measure => simp [intOf]; omega
        · obtain ⟨y, hy⟩ : ∃ x, ats[i - 1]? = some x := ⟨_, List.getElem?_eq_getElem (by omega)⟩
          obtain ⟨pk, pv⟩ := y
          obtain ⟨f1, -, f3, -⟩ := rdAttrs_at hra' hy
          have q3 : (1 : Int) ≤ (i : Int) := by omega
          have q4 : (0 : Int) ≤ (i : Int) - 1 := by omega
          have q5 : (i : Int) - 1 < (ats.length : Int) := by omega
          have tf3 : decide (0 < i) = true := by simp; omega
          have tf3' : decide ((0 : Int) < (i : Int)) = true := by simp; omega
          have HU4 : Hid (headOk d (.mk id true lb ats tx ks) = ((!Op.bytesLess key.toList pk.toList && !(key.toList == pk.toList)) && upA (Wi.prevK none ats (i + 1)) (ats.drop (i + 1)))) := Lib.hid (by rw [HU3.out, prev_pos hi0 hy, less_gt]; rfl)
          have hwr : IntKind.i64.wrap ((i : Int) - 1) = (i : Int) - 1 := IntWalk.i64_in _ (by omega)
          have htn : ((i : Int) - 1).toNat = i - 1 := by omega
          clear HU3 hy hi0 hra'
          rcases hs1 : Op.bytesLess key.toList pk.toList with _ | _
          · rcases hs2 : (key.toList == pk.toList) with _ | _
            · have HN : Hid (headOk d (.mk id true lb ats tx ks) = upA (Wi.prevK none ats (i + 1)) (ats.drop (i + 1))) := Lib.hid (by rw [HU4.out, hs1, hs2]; rfl)
              clear HU4
              go_wp2_with fail
              go_quiet (fail)
              clear hwr htn
              go_wp2_with fail
              go_roundw
              case rel => exact ⟨i + 1, by go_num, by omega, HN, hE.drewN _⟩
              case measure => simp [intOf]; omega
            · have HR : Hid (mayN d (.mk id true lb ats tx ks) = -1) := Lib.hid (mayN_no (by rw [HU4.out, hs2]; simp))
              clear HU4
              go_wp2_with fail
              go_quiet (fail)
              clear hwr htn
              go_wp2_with fail
              go_ret
              exact ret_n HR.out.symm ((HE.out.trans hE).drewN _)
          · have HR : Hid (mayN d (.mk id true lb ats tx ks) = -1) := Lib.hid (mayN_no (by rw [HU4.out, hs1]; simp))
            clear HU4
            go_wp2_with fail
            go_quiet (fail)
            clear hwr htn
            go_wp2_with fail
            go_ret
            exact ret_n HR.out.symm ((HE.out.trans hE).drewN _)
      · have HY : Hid (mayN d (.mk id true lb ats tx ks) = kidsN (d + 1) 1 ks) := Lib.hid (mayN_yes (by rw [HU.out, List.drop_eq_nil_of_le hlt]; exact upA_nil _))
        have q2 : (ats.length : Int) ≤ (i : Int) := by omega
        have q3 : decide ((i : Int) < (ats.length : Int)) = false := decide_eq_false (by omega)
        have q3' : decide (i < ats.length) = false := decide_eq_false (by omega)
        clear HU
        go_upto_region 8 with fail
        clear d3
        go_wp2_with fail
        go_loopw [6, 7] (fun s6 s7 wr => ∃ (j : Nat) (c : Int), s6 = .int .i64 c ∧ s7 = .int .i64 (j : Int) ∧ j ≤ ks.length ∧ (0 ≤ c ∧ c ≤ 512) ∧ Hid (mayN d (.mk id true lb ats tx ks) = kidsN (d + 1) c (ks.drop j)) ∧ Ext w1 wr) (fun _ s7 _ => ks.length - (intOf s7).toNat)
        case atStart => exact ⟨0, 1, rfl, rfl, Nat.zero_le _, by decide, HY, hE⟩
        case round =>
          clear HY hE
          obtain ⟨j, c, rfl, rfl, hj, ⟨hc0, hc1⟩, HY, hE⟩ := hrel
          have d5 := (HBD.out.ext hE).cell 5
          have q1 : (0 : Int) ≤ (j : Int) := by omega
          rcases Nat.lt_or_ge j ks.length with hlt2 | hlt2
          · have q2 : (j : Int) < (ks.length : Int) := by omega
            obtain ⟨x, hx⟩ : ∃ x, ks[j]? = some x := ⟨_, List.getElem?_eq_getElem hlt2⟩
            obtain ⟨bk, ok, rfl, hrk⟩ := HKX.out (by intro h0; rw [h0] at hlt2; exact absurd hlt2 (Nat.not_lt_zero _))
            obtain ⟨xA, xc, xK, xd, cx0, cx1, cx2, cx3, cx4, cx5, HXV⟩ := rdKids_get (rdKids_ext (HE.out.trans hE) hrk) hx
            have hcl := HIH.out x (List.mem_of_getElem? hx) _ (d + 1) wr HXV (by omega)
            rw [show ((d + 1 : Nat) : Int) = (d : Int) + 1 from by omega] at hcl
            have HY2 : Hid (mayN d (.mk id true lb ats tx ks) = if mayN (d + 1) x < 0 ∨ 512 < c + mayN (d + 1) x then -1 else kidsN (d + 1) (c + mayN (d + 1) x) (ks.drop (j + 1))) := Lib.hid (HY.out.trans (kidsN_at hx _ _))
            obtain ⟨hm1, hm2⟩ := mayN_in (d + 1) x
            obtain ⟨m, hm⟩ : ∃ m, mayN (d + 1) x = m := ⟨_, rfl⟩
            rw [hm] at hcl HY2 hm1 hm2
            clear hrk hx HXV HY hm
            go_wp2_with fail
            refine hcl.mono ?_
            clear hcl cx0 cx1 cx2 cx3 cx4 cx5 d5
            rintro e u ⟨r, rfl, rfl, hE4⟩
            have sm : c + m < 9223372036854775807 := by omega
            rcases Int.lt_or_le m 0 with hneg | hneg
            · have HR : Hid (mayN d (.mk id true lb ats tx ks) = -1) := Lib.hid (by rw [HY2.out, if_pos (.inl hneg)])
              have tf4 : decide (m < 0) = true := decide_eq_true hneg
              clear HY2
              go_wp2_with fail
              go_ret
              exact ret_n HR.out.symm ((HE.out.trans hE).trans hE4)
            have tf4 : decide (m < 0) = false := decide_eq_false (by omega)
            rcases Int.lt_or_le 512 (c + m) with hbig | hbig
            · have HR : Hid (mayN d (.mk id true lb ats tx ks) = -1) := Lib.hid (by rw [HY2.out, if_pos (.inr hbig)])
              have tf5 : decide (512 < c + m) = true := decide_eq_true hbig
              clear HY2
              go_wp2_with fail
              go_ret
              exact ret_n HR.out.symm ((HE.out.trans hE).trans hE4)
            have tf5 : decide (512 < c + m) = false := decide_eq_false (by omega)
            have HN : Hid (mayN d (.mk id true lb ats tx ks) = kidsN (d + 1) (c + m) (ks.drop (j + 1))) := Lib.hid (by rw [HY2.out, if_neg (by omega)])
            clear HY2
            go_wp2_with fail
            go_roundw
            case rel => exact ⟨j + 1, c + m, rfl, by go_num, by omega, ⟨by omega, hbig⟩, HN, hE.trans hE4⟩
            case measure => simp [intOf]; omega
          · have HR : Hid (mayN d (.mk id true lb ats tx ks) = c) := Lib.hid (by rw [HY.out, List.drop_eq_nil_of_le hlt2, kidsN])
            clear HY
            go_wp2_with fail
            go_ret
            exact ret_n HR.out.symm (HE.out.trans hE)
  | false =>
    by_cases h4 : tx.size = 0
    case neg =>
      have t4 : tx.toList.isEmpty = false := by rw [hem]; exact decide_eq_false h4
      have HR : Hid (mayN d (.mk id false lb ats tx ks) = -1) := Lib.hid (mayN_no (by rw [HM2.out]; rw [if_neg (by decide), decide_eq_false h4]; rfl))
      go_wp2_with fail
      go_ret
      exact ret_n HR.out.symm HE.out
    have t4 : tx.toList.isEmpty = true := by rw [hem]; exact decide_eq_true h4
    have hok : (if false = true then decide (ks.length = 0) && decide (tx.size ≤ 2048) else decide (tx.size = 0)) = true := by rw [if_neg (by decide), decide_eq_true h4]
    have HU : Hid (headOk d (.mk id false lb ats tx ks) = upA none ats) := Lib.hid (by rw [HM2.out, hok]; rfl)
    clear HM2 hok
    go_upto_region 3 with fail
    clear d1 d2 d3 d4 d5
    go_wp2_with fail
    go_loopw [5] (fun s5 wr => ∃ i : Nat, s5 = .int .i64 (i : Int) ∧ i ≤ ats.length ∧ Hid (headOk d (.mk id false lb ats tx ks) = upA (Wi.prevK none ats i) (ats.drop i)) ∧ Ext w1 wr) (fun i _ => ats.length - (intOf i).toNat)
    case atStart => exact ⟨0, rfl, Nat.zero_le _, HU, Ext.refl _⟩
    case round =>
      clear HU
      obtain ⟨i, rfl, hi, HU, hE⟩ := hrel
      have d3 := (HBD.out.ext hE).cell 3
      have q1 : (0 : Int) ≤ (i : Int) := by omega
      rcases Nat.lt_or_ge i ats.length with hlt | hlt
      · have q2 : (i : Int) < (ats.length : Int) := by omega
        obtain ⟨x, hx⟩ : ∃ x, ats[i]? = some x := ⟨_, List.getElem?_eq_getElem hlt⟩
        obtain ⟨ba, oa, rfl, hra⟩ := HAX.out (by intro h0; rw [h0] at hlt; exact absurd hlt (Nat.not_lt_zero _))
        have hra' := rdAttrs_ext (HE.out.trans hE) hra
        obtain ⟨key, val⟩ := x
        obtain ⟨e1, e2, e3, e4⟩ := rdAttrs_at hra' hx
        have HU2 : Hid (headOk d (.mk id false lb ats tx ks) = (attrOk (key, val) && afterK (Wi.prevK none ats i) key && upA (Wi.prevK none ats (i + 1)) (ats.drop (i + 1)))) := Lib.hid (HU.out.trans (upA_at hx))
        clear HU hra hx
        unfold maxLen at e3 e4
        rcases Nat.lt_or_ge 64 key.size with hk | hk
        · have tf1 : decide (64 < key.size) = true := decide_eq_true hk
          have tf1' : decide ((64 : Int) < (key.size : Int)) = true := decide_eq_true (by omega)
          have HR : Hid (mayN d (.mk id false lb ats tx ks) = -1) := Lib.hid (mayN_no (by rw [HU2.out]; unfold attrOk; rw [decide_eq_false (show ¬ (key, val).1.size ≤ 64 from by show ¬ key.size ≤ 64; omega)]; rfl))
          clear HU2 hra'
          go_wp2_with fail
          go_quiet (fail)
          go_wp2_with fail
          go_ret
          exact ret_n HR.out.symm ((HE.out.trans hE).drewN _)
        have tf1 : decide (64 < key.size) = false := decide_eq_false (by omega)
        have tf1' : decide ((64 : Int) < (key.size : Int)) = false := decide_eq_false (by omega)
        rcases Nat.lt_or_ge 256 val.size with hv | hv
        · have tf2 : decide (256 < val.size) = true := decide_eq_true hv
          have tf2' : decide ((256 : Int) < (val.size : Int)) = true := decide_eq_true (by omega)
          have HR : Hid (mayN d (.mk id false lb ats tx ks) = -1) := Lib.hid (mayN_no (by rw [HU2.out]; unfold attrOk; rw [decide_eq_false (show ¬ (key, val).2.size ≤ 256 from by show ¬ val.size ≤ 256; omega)]; simp))
          clear HU2 hra'
          go_wp2_with fail
          go_quiet (fail)
          go_wp2_with fail
          go_ret
          exact ret_n HR.out.symm ((HE.out.trans hE).drewN _)
        have tf2 : decide (256 < val.size) = false := decide_eq_false (by omega)
        have tf2' : decide ((256 : Int) < (val.size : Int)) = false := decide_eq_false (by omega)
        have HU3 : Hid (headOk d (.mk id false lb ats tx ks) = (afterK (Wi.prevK none ats i) key && upA (Wi.prevK none ats (i + 1)) (ats.drop (i + 1)))) := Lib.hid (by
          rw [HU2.out]; unfold attrOk
          rw [decide_eq_true (show (key, val).1.size ≤ 64 from hk), decide_eq_true (show (key, val).2.size ≤ 256 from hv)]; simp)
        clear HU2
        rcases Nat.eq_zero_or_pos i with hi0 | hi0
        · have HN : Hid (headOk d (.mk id false lb ats tx ks) = upA (Wi.prevK none ats (i + 1)) (ats.drop (i + 1))) := Lib.hid (by rw [HU3.out, hi0]; rfl)
          have tf3 : decide (0 < i) = false := by simp; omega
          have tf3' : decide ((0 : Int) < (i : Int)) = false := by simp; omega
          clear HU3 hi0 hra'
          go_wp2_with fail
          go_quiet (fail)
          go_wp2_with fail
          go_roundw
          case rel => exact ⟨i + 1, by go_num, by omega, HN, hE.drewN _⟩
          case measure => simp [intOf]; omega
        · obtain ⟨y, hy⟩ : ∃ x, ats[i - 1]? = some x := ⟨_, List.getElem?_eq_getElem (by omega)⟩
          obtain ⟨pk, pv⟩ := y
          obtain ⟨f1, -, f3, -⟩ := rdAttrs_at hra' hy
          have q3 : (1 : Int) ≤ (i : Int) := by omega
          have q4 : (0 : Int) ≤ (i : Int) - 1 := by omega
          have q5 : (i : Int) - 1 < (ats.length : Int) := by omega
          have tf3 : decide (0 < i) = true := by simp; omega
          have tf3' : decide ((0 : Int) < (i : Int)) = true := by simp; omega
          have HU4 : Hid (headOk d (.mk id false lb ats tx ks) = ((!Op.bytesLess key.toList pk.toList && !(key.toList == pk.toList)) && upA (Wi.prevK none ats (i + 1)) (ats.drop (i + 1)))) := Lib.hid (by rw [HU3.out, prev_pos hi0 hy, less_gt]; rfl)
          have hwr : IntKind.i64.wrap ((i : Int) - 1) = (i : Int) - 1 := IntWalk.i64_in _ (by omega)
          have htn : ((i : Int) - 1).toNat = i - 1 := by omega
          clear HU3 hy hi0 hra'
          rcases hs1 : Op.bytesLess key.toList pk.toList with _ | _
          · rcases hs2 : (key.toList == pk.toList) with _ | _
            · have HN : Hid (headOk d (.mk id false lb ats tx ks) = upA (Wi.prevK none ats (i + 1)) (ats.drop (i + 1))) := Lib.hid (by rw [HU4.out, hs1, hs2]; rfl)
              clear HU4
              go_wp2_with fail
              go_quiet (fail)
              clear hwr htn
              go_wp2_with fail
              go_roundw
              case rel => exact ⟨i + 1, by go_num, by omega, HN, hE.drewN _⟩
              case measure => simp [intOf]; omega
            · have HR : Hid (mayN d (.mk id false lb ats tx ks) = -1) := Lib.hid (mayN_no (by rw [HU4.out, hs2]; simp))
              clear HU4
              go_wp2_with fail
              go_quiet (fail)
              clear hwr htn
              go_wp2_with fail
              go_ret
              exact ret_n HR.out.symm ((HE.out.trans hE).drewN _)
          · have HR : Hid (mayN d (.mk id false lb ats tx ks) = -1) := Lib.hid (mayN_no (by rw [HU4.out, hs1]; simp))
            clear HU4
            go_wp2_with fail
            go_quiet (fail)
            clear hwr htn
            go_wp2_with fail
            go_ret
            exact ret_n HR.out.symm ((HE.out.trans hE).drewN _)
      · have HY : Hid (mayN d (.mk id false lb ats tx ks) = kidsN (d + 1) 1 ks) := Lib.hid (mayN_yes (by rw [HU.out, List.drop_eq_nil_of_le hlt]; exact upA_nil _))
        have q2 : (ats.length : Int) ≤ (i : Int) := by omega
        have q3 : decide ((i : Int) < (ats.length : Int)) = false := decide_eq_false (by omega)
        have q3' : decide (i < ats.length) = false := decide_eq_false (by omega)
        clear HU
        go_upto_region 8 with fail
        clear d3
        go_wp2_with fail
        go_loopw [6, 7] (fun s6 s7 wr => ∃ (j : Nat) (c : Int), s6 = .int .i64 c ∧ s7 = .int .i64 (j : Int) ∧ j ≤ ks.length ∧ (0 ≤ c ∧ c ≤ 512) ∧ Hid (mayN d (.mk id false lb ats tx ks) = kidsN (d + 1) c (ks.drop j)) ∧ Ext w1 wr) (fun _ s7 _ => ks.length - (intOf s7).toNat)
        case atStart => exact ⟨0, 1, rfl, rfl, Nat.zero_le _, by decide, HY, hE⟩
        case round =>
          clear HY hE
          obtain ⟨j, c, rfl, rfl, hj, ⟨hc0, hc1⟩, HY, hE⟩ := hrel
          have d5 := (HBD.out.ext hE).cell 5
          have q1 : (0 : Int) ≤ (j : Int) := by omega
          rcases Nat.lt_or_ge j ks.length with hlt2 | hlt2
          · have q2 : (j : Int) < (ks.length : Int) := by omega
            obtain ⟨x, hx⟩ : ∃ x, ks[j]? = some x := ⟨_, List.getElem?_eq_getElem hlt2⟩
            obtain ⟨bk, ok, rfl, hrk⟩ := HKX.out (by intro h0; rw [h0] at hlt2; exact absurd hlt2 (Nat.not_lt_zero _))
            obtain ⟨xA, xc, xK, xd, cx0, cx1, cx2, cx3, cx4, cx5, HXV⟩ := rdKids_get (rdKids_ext (HE.out.trans hE) hrk) hx
            have hcl := HIH.out x (List.mem_of_getElem? hx) _ (d + 1) wr HXV (by omega)
            rw [show ((d + 1 : Nat) : Int) = (d : Int) + 1 from by omega] at hcl
            have HY2 : Hid (mayN d (.mk id false lb ats tx ks) = if mayN (d + 1) x < 0 ∨ 512 < c + mayN (d + 1) x then -1 else kidsN (d + 1) (c + mayN (d + 1) x) (ks.drop (j + 1))) := Lib.hid (HY.out.trans (kidsN_at hx _ _))
            obtain ⟨hm1, hm2⟩ := mayN_in (d + 1) x
            obtain ⟨m, hm⟩ : ∃ m, mayN (d + 1) x = m := ⟨_, rfl⟩
            rw [hm] at hcl HY2 hm1 hm2
            clear hrk hx HXV HY hm
            go_wp2_with fail
            refine hcl.mono ?_
            clear hcl cx0 cx1 cx2 cx3 cx4 cx5 d5
            rintro e u ⟨r, rfl, rfl, hE4⟩
            have sm : c + m < 9223372036854775807 := by omega
            rcases Int.lt_or_le m 0 with hneg | hneg
            · have HR : Hid (mayN d (.mk id false lb ats tx ks) = -1) := Lib.hid (by rw [HY2.out, if_pos (.inl hneg)])
              have tf4 : decide (m < 0) = true := decide_eq_true hneg
              clear HY2
              go_wp2_with fail
              go_ret
              exact ret_n HR.out.symm ((HE.out.trans hE).trans hE4)
            have tf4 : decide (m < 0) = false := decide_eq_false (by omega)
            rcases Int.lt_or_le 512 (c + m) with hbig | hbig
            · have HR : Hid (mayN d (.mk id false lb ats tx ks) = -1) := Lib.hid (by rw [HY2.out, if_pos (.inr hbig)])
              have tf5 : decide (512 < c + m) = true := decide_eq_true hbig
              clear HY2
              go_wp2_with fail
              go_ret
              exact ret_n HR.out.symm ((HE.out.trans hE).trans hE4)
            have tf5 : decide (512 < c + m) = false := decide_eq_false (by omega)
            have HN : Hid (mayN d (.mk id false lb ats tx ks) = kidsN (d + 1) (c + m) (ks.drop (j + 1))) := Lib.hid (by rw [HY2.out, if_neg (by omega)])
            clear HY2
            go_wp2_with fail
            go_roundw
            case rel => exact ⟨j + 1, c + m, rfl, by go_num, by omega, ⟨by omega, hbig⟩, HN, hE.trans hE4⟩
            case measure => simp [intOf]; omega
          · have HR : Hid (mayN d (.mk id false lb ats tx ks) = c) := Lib.hid (by rw [HY.out, List.drop_eq_nil_of_le hlt2, kidsN])
            clear HY
            go_wp2_with fail
            go_ret
            exact ret_n HR.out.symm (HE.out.trans hE)
theorem may_all : ∀ (n : Nat) (t : Nd), t.cnt ≤ n → MayK t
  | 0, t, h => by have := Nd.cnt_eq t; omega
  | n + 1, t, h => may_step t (fun x hx => may_all n x (by have := cntK_mem hx; have := Nd.cnt_eq t; omega))
theorem mayNode_any (t : Nd) (tv : Value) (w : World) (h : t.rd w tv) : Calls Try.prog 28 #[tv, .int .i64 0] w (Ret w fun r _ => r = .int .i64 (mayN 0 t)) := may_all t.cnt t (Nat.le_refl _) tv 0 w h (by decide)
end Go.Proofs.Ytoplaokimahdiaa.Wi
