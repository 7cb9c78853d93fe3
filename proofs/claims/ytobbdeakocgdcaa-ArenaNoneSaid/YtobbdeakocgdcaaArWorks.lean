/- Chapter 07: the chapter's examples (9). -/
import Derived.Test.YtobbdeakocgdcaaArSame
namespace Go.Proofs.Ytobbdeakocgdcaa.Ar
open Go.RowKit Go.Proofs.Ytobbdeakocgdcaa.Bw

def lab (b : UInt8) : Da := ⟨0, false, ⟨#[b]⟩, [], ⟨#[]⟩⟩
theorem lab_in (b : UInt8) (w : World) : DataIn w (lab b) (.slice none 0 0) := ⟨⟨Int.le_refl _, show (0 : Int) ≤ 18446744073709551615 by decide⟩, show 1 ≤ maxLen by simp [maxLen], Nat.zero_le _, RdS.nil_ _ _, Nat.zero_le _⟩
def wS0 : St := St.new (lab 114)
def wS1 : St := wS0.addS 0 0 (lab 97)
def wS2 : St := wS1.addS 0 1 (lab 98)
def wS3 : St := wS2.addS 1 0 (lab 120)
def wS4 : St := wS3.movS 2 1 0
def wS5 : St := wS4.movS 1 2 0
def wS6 : St := wS5.remS 1
def wS7 : St := wS6.addS 0 0 (lab 99)
theorem wf1 : wS0.addN 0 0 = 1 ∧ wS0.addE 0 0 = 0 := ⟨by kernel_rfl, by kernel_rfl⟩
theorem wf2 : wS1.addN 0 1 = 2 ∧ wS1.addE 0 1 = 0 := ⟨by kernel_rfl, by kernel_rfl⟩
theorem wf3 : wS2.addN 1 0 = 3 ∧ wS2.addE 1 0 = 0 := ⟨by kernel_rfl, by kernel_rfl⟩
theorem wf4 : wS3.movE 2 1 0 = 0 := by kernel_rfl
theorem wf4k : (if wS4.liveB 1 = true then (wS4.get (1 : Int).toNat).kids else []) = [2, 3] := by kernel_rfl
theorem wf4p : (if wS4.liveB 2 = true then (wS4.get (2 : Int).toNat).parent else -1) = 1 := by kernel_rfl
theorem wf5 : wS4.movE 1 2 0 = 84 := by kernel_rfl
theorem wf6 : wS5.remE 1 = 0 := by kernel_rfl
theorem wf6f : wS6.free = [1, 2, 3] := by kernel_rfl
theorem wf7 : wS6.addN 0 0 = 3 ∧ wS6.addE 0 0 = 0 := ⟨by kernel_rfl, by kernel_rfl⟩
theorem wf7w : wS7.walk 0 [0] = some 3 := by kernel_rfl
theorem wf7l : wS7.liveB 3 = true := by kernel_rfl
theorem wf7d : (wS7.get (3 : Int).toNat).da = lab 99 := by kernel_rfl
theorem wf7n : wS7.sl.length = 4 := by kernel_rfl
theorem wf7a : (wS7.get (3 : Int).toNat).attrs = [] := by kernel_rfl

/-- What lay there when the arena was made stays. -/
theorem PI.over {w w1 w2 : World} {ρ ρ' : Nat → Tg} {A K : Nat} {S : St} (h : PI w1 ρ w.heap.size A S K) (E : Ext w w1) (s : Step w1 ρ w2 ρ') : Ext w w2 := Fr.ext E s.fr (fun k hk => (h.old k hk).1)

/-- A row of the caller's own: no block of the arena's. -/
def Ours (w : World) (ρ : Nat → Tg) (base : Nat) (e : TypeId) (size : Nat) (v : Value) (n : Nat) (xs : List Value) : Prop := w.ownsRow base e size v n xs ∧ ∀ g, v.ownBlock = some g → ρ g = .no
theorem Ours.step {w w' : World} {ρ ρ' : Nat → Tg} {base : Nat} {e : TypeId} {size : Nat} {v : Value} {n : Nat} {xs : List Value} (h : Ours w ρ base e size v n xs) (s : Step w ρ w' ρ') : Ours w' ρ' base e size v n xs :=
  ⟨owns_fr s.fr h.1 (fun g hg e => e (h.2 g hg)), fun g hg => by rw [s.tg g (h.1.lt g hg).2]; exact h.2 g hg⟩
theorem Ours.ext {w w' : World} {ρ : Nat → Tg} {base : Nat} {e : TypeId} {size : Nat} {v : Value} {n : Nat} {xs : List Value} (h : Ours w ρ base e size v n xs) (E : Ext w w') : Ours w' ρ base e size v n xs := ⟨owns_ext E h.1, h.2⟩
theorem PI.ours {w w' : World} {ρ : Nat → Tg} {base A K : Nat} {S : St} (h : PI w ρ base A S K) {e : TypeId} {size : Nat} {v : Value} {n : Nat} {xs : List Value} (hO : w'.ownsRow w.heap.size e size v n xs) : Ours w' ρ w.heap.size e size v n xs := by
  refine ⟨hO, fun g hg => ?_⟩
  rcases hx : ρ g with _ | _ | _ | _ | _ | _ | _
  · rfl
  all_goals (have q1 := (h.old g (by rw [hx]; intro e; cases e)).2; have q2 := (hO.lt g hg).1; omega)
theorem rd_lit (W : World) (l : List Nat) (cs : Array Value) (hcs : cs = (ints l).toArray) (hl : l.length ≤ 1000) (n : Nat) (hn : W.heap.size = n) : RdS (W.alloc (.cells cs 3)) 1 l.length (ints l) (.slice (some ⟨n, 0, none⟩) l.length l.length) := by
  subst hcs hn
  refine ⟨_, _, rfl, by rw [ints_len, Nat.mul_one], Nat.le_refl _, by simp only [maxLen]; omega, fun _ => ⟨_, 0, rfl, fun j u hu => ?_⟩⟩
  rw [Nat.zero_add, (NBox.new W 3 _).cell]
  simpa using hu
set_option maxRecDepth 100000 in
set_option maxHeartbeats 8000000 in
theorem works_any (w : World) : Calls Try.prog 9 #[] w (Ret w fun r _ => r = .bool true) := by
  go_enter Try.func9, Try.ntmps9
  go_upto_region 2 with (go_at_call 10; refine (new_op (lab 114) (.slice none 0 0) _ (lab_in 114 _)).mono ?_; rintro e w1 ⟨A, rfl, ρ1, P1, E1, hno⟩)
  replace P1 : PI w1 ρ1 w.heap.size A wS0 1 := P1
  go_upto_region 3 with (go_at_call 23; refine (add_op P1 (by omega) 0 0 (lab 97) (.slice none 0 0) (lab_in 97 _) (fun k h => by cases h)).mono ?_; rintro e w2 ⟨rfl, ρ2, P2, T2⟩; rw [wf1.1, wf1.2])
  replace P2 : PI w2 ρ2 w.heap.size A wS1 2 := P2
  have X2 := P1.over E1 T2
  clear P1 E1 T2
  go_upto_region 4 with (go_at_call 23; refine (add_op P2 (by omega) 0 1 (lab 98) (.slice none 0 0) (lab_in 98 _) (fun k h => by cases h)).mono ?_; rintro e w3 ⟨rfl, ρ3, P3, T3⟩; rw [wf2.1, wf2.2])
  replace P3 : PI w3 ρ3 w.heap.size A wS2 3 := P3
  have X3 := P2.over X2 T3
  clear P2 X2 T3
  go_upto_region 5 with (go_at_call 23; refine (add_op P3 (by omega) 1 0 (lab 120) (.slice none 0 0) (lab_in 120 _) (fun k h => by cases h)).mono ?_; rintro e w4 ⟨rfl, ρ4, P4, T4⟩; rw [wf3.1, wf3.2])
  replace P4 : PI w4 ρ4 w.heap.size A wS3 4 := P4
  have X4 := P3.over X3 T4
  clear P3 X3 T4
  go_upto_region 6 with (go_at_call 25; refine (mov_op P4 (by omega) 2 1 0).mono ?_; rintro e w5 ⟨rfl, ρ5, P5, T5⟩; rw [wf4])
  replace P5 : PI w5 ρ5 w.heap.size A wS4 4 := P5
  have X5 := P4.over X4 T5
  clear P4 X4 T5
  go_upto_region 7 with (first
    | (go_at_call 19; refine (kids_op P5 (by omega) 1).mono ?_; rintro e w6 ⟨kv, rfl, hO6, E6⟩; rw [wf4k] at hO6; obtain ⟨kA, kc, rfl, -, -⟩ := owns_slice hO6)
    | (go_at_call 20; refine (parent_op (P5.ext E6) (by omega) 2).mono ?_; rintro e w7 ⟨rfl, rfl⟩; rw [wf4p]))
  have O7 := P5.ours hO6
  have P7 := P5.ext E6
  have X7 := X5.trans E6
  clear P5 X5 E6 hO6
  go_upto_region 8 with (go_at_call 25; refine (mov_op P7 (by omega) 1 2 0).mono ?_; rintro e w8 ⟨rfl, ρ8, P8, T8⟩; rw [wf5])
  replace P8 : PI w8 ρ8 w.heap.size A wS5 4 := P8
  have X8 := P7.over X7 T8
  have O8 := O7.step T8
  clear P7 X7 O7 T8
  go_upto_region 9 with (go_at_call 24; refine (rem_op P8 (by omega) 1).mono ?_; rintro e w9 ⟨rfl, ρ9, P9, T9⟩; rw [wf6])
  replace P9 : PI w9 ρ9 w.heap.size A wS6 4 := P9
  have X9 := P8.over X8 T9
  have O9 := O8.step T9
  clear P8 X8 O8 T9
  go_upto_region 10 with (go_at_call 21; refine (free_op P9).mono ?_; rintro e w10 ⟨fv, rfl, hO10, E10⟩; rw [wf6f] at hO10; obtain ⟨fA, fc, rfl, -, -⟩ := owns_slice hO10)
  have U10 := P9.ours hO10
  have O10 := O9.ext E10
  have P10 := P9.ext E10
  have X10 := X9.trans E10
  clear P9 X9 O9 E10 hO10
  go_upto_region 11 with (go_at_call 23; refine (add_op P10 (by omega) 0 0 (lab 99) (.slice none 0 0) (lab_in 99 _) (fun k h => by cases h)).mono ?_; rintro e w11 ⟨rfl, ρ11, P11, T11⟩; rw [wf7.1, wf7.2])
  replace P11 : PI w11 ρ11 w.heap.size A wS7 5 := P11
  have X11 := P10.over X10 T11
  have O11 := O10.step T11
  have U11 := U10.step T11
  clear P10 X10 O10 U10 T11
  go_upto_region 12 with fail
  have P12 := P11.ext ((Ext.refl w11).alloc (.cells #[.int .i64 0] 3))
  have O12 := O11.ext ((Ext.refl w11).alloc (.cells #[.int .i64 0] 3))
  have U12 := U11.ext ((Ext.refl w11).alloc (.cells #[.int .i64 0] 3))
  have X12 := X11.trans ((Ext.refl w11).alloc (.cells #[.int .i64 0] 3))
  have hwk := walk_op P12 (by omega) [0] _ (RdS.one (W := w11) (t := 3) (cs := #[.int .i64 0]) (size := 1) rfl)
  rw [wf7w, show walkR (some 3) = .tuple #[.int .i64 3, .bool true] from rfl] at hwk
  obtain ⟨w12, hw12⟩ : ∃ W, w11.alloc (.cells #[.int .i64 0] 3) = W := ⟨_, rfl⟩
  rw [hw12] at P12 O12 U12 X12 hwk
  have HW := Lib.hid hw12
  clear P11 O11 U11 X11 hw12
  have hgt := get_op P12 (by omega) 3
  simp only [wf7l, if_true, wf7d, wf7a] at hgt
  have HP := Lib.hid P12
  have HO := Lib.hid O12
  have HU := Lib.hid U12
  have HX := Lib.hid X12
  clear P12 O12 U12 X12
  have HS1 := Lib.hid (show ∀ W n, Ext w12 W → W.heap.size = n → Calls Try.prog 27 #[.slice kA 2 kc, .slice (some ⟨n, 0, none⟩) 2 2] (W.alloc (.cells #[.int .i64 2, .int .i64 3] 3)) (Ret (W.alloc (.cells #[.int .i64 2, .int .i64 3] 3)) fun r _ => r = .bool true) from fun W n E hn =>
    same_any [2, 3] [2, 3] _ _ _ (RdS.of_owns (owns_ext (E.trans ((Ext.refl _).alloc _)) HO.out.1)) (rd_lit W [2, 3] _ rfl (by simp) n hn))
  have HS2 := Lib.hid (show ∀ W n, Ext w12 W → W.heap.size = n → Calls Try.prog 27 #[.slice fA 3 fc, .slice (some ⟨n, 0, none⟩) 3 3] (W.alloc (.cells #[.int .i64 1, .int .i64 2, .int .i64 3] 3)) (Ret (W.alloc (.cells #[.int .i64 1, .int .i64 2, .int .i64 3] 3)) fun r _ => r = .bool true) from fun W n E hn =>
    same_any [1, 2, 3] [1, 2, 3] _ _ _ (RdS.of_owns (owns_ext (E.trans ((Ext.refl _).alloc _)) HU.out.1)) (rd_lit W [1, 2, 3] _ rfl (by simp) n hn))
  have HWH := Lib.hid (show ∀ W, Ext w12 W → Calls Try.prog 17 #[.pointer (some ⟨A, 0, none⟩)] W (Ret W fun r _ => r = .bool true) from fun W E => whole_op (HP.out.ext E) (by omega))
  have HSL := Lib.hid (show ∀ W, Ext w12 W → Calls Try.prog 18 #[.pointer (some ⟨A, 0, none⟩)] W fun e w' => e = .returned (.int .i64 4) ∧ w' = W from fun W E => by have := slots_op (HP.out.ext E); rwa [wf7n] at this)
  have HX0 := Lib.hid (Ext.refl w12)
  clear HO HU HP
  go_wp2_with (first
    | (go_at_call 15; rw [HW.out]; refine hwk.mono ?_; clear hwk; rintro e w13 ⟨rfl, rfl⟩)
    | (go_at_call 22; refine hgt.mono ?_; clear hgt; rintro e w14 ⟨⟨av, rfl, hOv⟩, E14⟩; obtain ⟨aA, ac, rfl, -, -⟩ := owns_slice hOv; simp only [Da.val, lab]; replace HX0 := Lib.hid ((HX0.out.trans E14).trans ((Ext.refl w14).alloc (.cells #[.int .u64 0, .bool false, .string ⟨#[99]⟩, .slice aA 0 ac, .string ⟨#[]⟩] 25))); have HB := Lib.hid (show (w14.alloc (.cells #[.int .u64 0, .bool false, .string ⟨#[99]⟩, .slice aA 0 ac, .string ⟨#[]⟩] 25)).cell? ⟨w14.heap.size, 2, none⟩ = some (.string ⟨#[99]⟩) from (NBox.new w14 25 _).cell 2))
    | (go_at_call 27; refine (HS1.out _ _ HX0.out (by simp [World.size_alloc])).mono ?_; clear HS1; rintro e w15 ⟨r, rfl, rfl, E15⟩; replace HX0 := Lib.hid ((HX0.out.trans ((Ext.refl _).alloc _)).trans E15); replace HB := Lib.hid (((Ext.refl _).alloc _ |>.trans E15).cell HB.out))
    | (go_at_call 27; refine (HS2.out _ _ HX0.out (by simp [World.size_alloc])).mono ?_; rintro e w16 ⟨r, rfl, rfl, E16⟩; replace HX0 := Lib.hid ((HX0.out.trans ((Ext.refl _).alloc _)).trans E16); have c2 := ((Ext.refl _).alloc _ |>.trans E16).cell HB.out)
    | (go_at_call 17; refine (HWH.out _ HX0.out).mono ?_; rintro e w17 ⟨r, rfl, rfl, E17⟩; replace HX0 := Lib.hid (HX0.out.trans E17))
    | (go_at_call 18; refine (HSL.out _ HX0.out).mono ?_; rintro e w18 ⟨rfl, rfl⟩))
  go_ret
  exact ⟨_, rfl, rfl, HX.out.trans HX0.out⟩
end Go.Proofs.Ytobbdeakocgdcaa.Ar
