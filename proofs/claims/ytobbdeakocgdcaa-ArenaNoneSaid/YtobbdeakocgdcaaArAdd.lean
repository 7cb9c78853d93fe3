/- Chapter 07: Add (23). -/
import Derived.Test.YtobbdeakocgdcaaArUnlink
import Derived.StillTailTactics
namespace Go.Proofs.Ytobbdeakocgdcaa.Ar
open Go.RowKit Go.Proofs.Ytobbdeakocgdcaa.Bw

theorem slotAt_pre {bs bs' : List Nat} (h : bs <+: bs') {n : Nat} (hn : n < 16 * bs.length) : slotAt bs' n = slotAt bs n := by
  obtain ⟨r, rfl⟩ := h
  have : n / 16 < bs.length := by omega
  simp [slotAt, List.getD, List.getElem?_append_left this]
section
variable {w : World} {ρ : Nat → Tg} {base A : Nat} {S : St} {sv fv : Value} {bs : List Nat}
theorem add_nil (p g : Int) (d : Da) (av : Value) (w : World) (hd : ∃ A k c, av = .slice A k c) : Calls Try.prog 23 #[.pointer none, .int .i64 p, .int .i64 g, d.val av] w fun e w' => e = .returned (.tuple #[.int .i64 (-1), .int .i64 1]) ∧ Ext w w' := by
  obtain ⟨dA, dk, dc, rfl⟩ := hd
  unfold Da.val
  go_enter Try.func23, Try.ntmps23
  go_wp2_with fail
  exact bodyPost_ret (results_tmp2 rfl _ _ _) rfl ⟨rfl, (Ext.refl _).alloc _⟩
theorem add_no (h : AP w ρ base A S sv fv bs) (p g : Int) (d : Da) (av : Value) (hd : DataIn w d av) (hn : ∀ k : Nat, p = (k : Int) → k < S.sl.length → (S.get k).live = false) (hbig : bs.length ≤ 1000000) :
    Calls Try.prog 23 #[.pointer (some ⟨A, 0, none⟩), .int .i64 p, .int .i64 g, d.val av] w fun e w' => e = .returned (.tuple #[.int .i64 (-1), .int .i64 5]) ∧ Ext w w' := by
  obtain ⟨dA, dc, rfl, -⟩ := id hd.ats
  have E1 : Ext w (w.alloc (.cells #[.int .u64 d.id, .bool d.leaf, .string d.label, .slice dA d.attrs.length dc, .string d.text] 25)) := (Ext.refl _).alloc _
  have hc := live_no (h.ext E1) p hn hbig
  unfold Da.val
  clear hd h hn
  go_enter Try.func23, Try.ntmps23
  go_wp2_with (go_at_call 42; refine hc.mono ?_; rintro e w1 ⟨rfl, rfl⟩)
  exact bodyPost_ret (results_tmp2 rfl _ _ _) rfl ⟨rfl, E1⟩
set_option maxHeartbeats 1000000 in
theorem add_err (h : AP w ρ base A S sv fv bs) (p : Nat) (g : Int) (d : Da) (av : Value) (hd : DataIn w d av) (hp : p < S.sl.length) (hl : (S.get p).live = true) (ht : (S.get p).takes g ≠ 0) (hbig : bs.length ≤ 1000000) :
    Calls Try.prog 23 #[.pointer (some ⟨A, 0, none⟩), .int .i64 (p : Int), .int .i64 g, d.val av] w fun e w' => e = .returned (.tuple #[.int .i64 (-1), .int .i64 ((S.get p).takes g)]) ∧ Ext w w' := by
  obtain ⟨dA, dc, rfl, -⟩ := id hd.ats
  have E1 : Ext w (w.alloc (.cells #[.int .u64 d.id, .bool d.leaf, .string d.label, .slice dA d.attrs.length dc, .string d.text] 25)) := (Ext.refl _).alloc _
  have hc := live_yes (h.ext E1) p hp hl hbig
  have htk := takes_any (h.ext E1) p g hp
  generalize (S.get p).takes g = e at *
  have t1 : (e == 0) = false := by simp [ht]
  have t2 : decide (e = 0) = false := decide_eq_false ht
  have t3 : (e != 0) = true := by simp [ht]
  unfold Da.val
  clear hd h hl
  generalize slotAt bs p = sp at *
  go_enter Try.func23, Try.ntmps23
  go_wp2_with (first
    | (go_at_call 42; refine hc.mono ?_; rintro e w1 ⟨rfl, rfl⟩)
    | (go_at_call 44; refine htk.mono ?_; rintro e w1 ⟨rfl, rfl⟩))
  exact bodyPost_ret (results_tmp2 rfl _ _ _) rfl ⟨rfl, E1⟩
set_option maxRecDepth 100000 in
set_option maxHeartbeats 4000000 in
theorem add_yes (h : AP w ρ base A S sv fv bs) (p g : Nat) (d : Da) (av : Value) (hd : DataIn w d av) (hdn : ∀ k, av.ownBlock = some k → ρ k = .no) (hp : p < S.sl.length) (hl : (S.get p).live = true) (ht : (S.get p).takes (g : Int) = 0) (hne : S.fresh ≠ p) (hfl : S.fresh < S.fresh'.sl.length) (hbig : bs.length ≤ 60000) (hlen : S.sl.length < 1000000) (hkn : (S.get p).kids.length < 1000000) :
    Calls Try.prog 23 #[.pointer (some ⟨A, 0, none⟩), .int .i64 (p : Int), .int .i64 (g : Int), d.val av] w fun e w' => e = .returned (.tuple #[.int .i64 (S.fresh : Int), .int .i64 0]) ∧ ∃ ρ' sv' fv' bs', AP w' ρ' base A (S.add p g d) sv' fv' bs' ∧ bs <+: bs' ∧ bs'.length ≤ bs.length + 1 ∧ Step w ρ w' ρ' := by
  have hp16 : p < 16 * bs.length := Nat.lt_of_lt_of_le hp h.room
  obtain ⟨dA, dc, rfl, -⟩ := id hd.ats
  obtain ⟨W, hW⟩ : ∃ W, w.alloc (.cells #[.int .u64 d.id, .bool d.leaf, .string d.label, .slice dA d.attrs.length dc, .string d.text] 25) = W := ⟨_, rfl⟩
  have E1 : Ext w W := by rw [← hW]; exact (Ext.refl _).alloc _
  have B1 : NBox W w.heap.size 25 #[.int .u64 d.id, .bool d.leaf, .string d.label, .slice dA d.attrs.length dc, .string d.text] := by rw [← hW]; exact NBox.new _ _ _
  have h1 := h.ext E1
  have hc := live_yes h1 p hp hl (by omega)
  have htk := takes_any h1 p g hp
  rw [ht] at htk
  have hfr := fresh_any h1 hbig hlen
  have hBt : ρ w.heap.size = .no := by
    rcases hx : ρ w.heap.size with _ | _ | _ | _ | _ | _ | _
    · rfl
    all_goals (have := (h.old w.heap.size (by rw [hx]; intro e; cases e)).2; omega)
  have HD := Lib.hid (hd.ext E1)
  have HB := Lib.hid B1
  have HW := Lib.hid hW
  have HE := Lib.hid E1
  obtain ⟨bp, hbp⟩ : ∃ b, bs[p / 16]? = some b := ⟨_, List.getElem?_eq_getElem (by omega)⟩
  have hs : slotAt bs p = ⟨bp, p % 16 * 8, none⟩ := by simp [slotAt, List.getD, hbp]
  rw [hs] at hc htk
  unfold Da.val
  clear h hd hW B1 E1
  go_enter Try.func23, Try.ntmps23
  go_upto_region 3 with fail
  rw [HW.out]
  go_upto_region 10 with (first
    | (go_at_call 42; refine hc.mono ?_; rintro e w1 ⟨rfl, rfl⟩)
    | (go_at_call 44; refine htk.mono ?_; rintro e w1 ⟨rfl, rfl⟩)
    | (go_at_call 30; refine hfr.mono ?_; clear hfr hc htk; rintro e w2 ⟨rfl, ρ2, sv2, fv2, bs2, h2, hpre, hbl, hS2⟩))
  have hBt1 : ρ2 w.heap.size = .no := (hS2.tg _ HB.out.lt).trans hBt
  have B2 : NBox w2 w.heap.size 25 #[.int .u64 d.id, .bool d.leaf, .string d.label, .slice dA d.attrs.length dc, .string d.text] := HB.out.fr hS2.fr (by rw [hBt]; exact fun e => e rfl)
  have hf16 : S.fresh < 16 * bs2.length := Nat.lt_of_lt_of_le hfl h2.room
  have hat := Lib.hid (fun W (E : Ext w2 W) => at_any (h2.ext E) S.fresh hf16 (by omega))
  obtain ⟨b, cs, av1, kv1, g1, g2, g3, g4, g5, g6⟩ := h2.slot hf16
  have hs2 : slotAt bs2 S.fresh = ⟨b, S.fresh % 16 * 8, none⟩ := by rw [slotAt, g2]
  rw [hs2] at hat
  have HD2 := Lib.hid (HD.out.fr hS2.fr (fun k hk _ => by rw [hdn k hk]; exact fun e => e rfl))
  have hown := Lib.hid (fun W (E : Ext w2 W) => own_any d _ W (HD2.out.ext E))
  have hS10 := Lib.hid h2
  obtain ⟨aA, ac, hav, -⟩ := id g6.da.ats
  obtain ⟨kA, kc, hkv, -⟩ := owns_slice g6.ks
  obtain ⟨q, hq⟩ : ∃ q, S.fresh'.get S.fresh = q := ⟨_, rfl⟩
  have hqa : (S.fresh'.get S.fresh).da.attrs = q.attrs := by rw [hq]; rfl
  rw [hqa] at hav
  have hg5 := g5
  rw [hq] at g5 hkv
  clear hqa
  have HSLOT := Lib.hid g5
  have HG6 := Lib.hid g6
  have HG1 := Lib.hid g1
  have HG3 := Lib.hid g3
  have HG4 := Lib.hid g4
  have HHQ := Lib.hid hq
  have g5b := g5
  rw [hav, hkv] at g5b
  have hbt : ρ2 b = .slab := by obtain ⟨_, _, _, h3, _⟩ := h2.slab _ b g1; exact h3
  have HB2 := Lib.hid B2
  have FC := Lib.hid (show ∀ W, Ext w2 W → (W.cell? ⟨b, S.fresh % 16 * 8, none⟩ = some (.bool q.live) ∧ W.cell? ⟨b, S.fresh % 16 * 8 + 1, none⟩ = some (.int .u64 q.id) ∧ W.cell? ⟨b, S.fresh % 16 * 8 + 2, none⟩ = some (.bool q.leaf) ∧ W.cell? ⟨b, S.fresh % 16 * 8 + 3, none⟩ = some (.string q.label) ∧ W.cell? ⟨b, S.fresh % 16 * 8 + 4, none⟩ = some (.slice aA q.attrs.length ac) ∧ W.cell? ⟨b, S.fresh % 16 * 8 + 5, none⟩ = some (.string q.text) ∧ W.cell? ⟨b, S.fresh % 16 * 8 + 6, none⟩ = some (.int .i64 q.parent) ∧ W.cell? ⟨b, S.fresh % 16 * 8 + 7, none⟩ = some (.slice kA q.kids.length kc)) ∧ ∀ i, W.frozen? ⟨b, i, none⟩ = false from by
    intro W E
    have g9 := g3.ext E
    refine ⟨⟨by rw [g9.cell]; exact g5b 0 _ rfl, by rw [g9.cell]; exact g5b 1 _ rfl, by rw [g9.cell]; exact g5b 2 _ rfl, by rw [g9.cell]; exact g5b 3 _ rfl, by rw [g9.cell]; exact g5b 4 _ rfl, by rw [g9.cell]; exact g5b 5 _ rfl, by rw [g9.cell]; exact g5b 6 _ rfl, by rw [g9.cell]; exact g5b 7 _ rfl⟩, fun i => g9.frozen i⟩)
  have HAV := Lib.hid hav
  have HKV := Lib.hid hkv
  unfold Da.val at hown
  have HP := Lib.hid (show ∀ (u : World) (A2 : Option Addr) (c9 : Nat), u.ownsRow w2.heap.size 61 2 (.slice A2 d.attrs.length c9) d.attrs.length (attrCells d.attrs) → Ext w2 u → AP (u.setCells b (S.fresh % 16 * 8 + 0) [.bool true, .int .u64 d.id, .bool d.leaf, .string d.label, .slice A2 d.attrs.length c9, .string d.text, .int .i64 (p : Int), .slice none 0 0]) (tagNew ρ2 w2.heap.size (Value.slice A2 d.attrs.length c9).ownBlock .data) base A (S.fill d (p : Int)) sv2 fv2 bs2 ∧ Step w ρ (u.setCells b (S.fresh % 16 * 8 + 0) [.bool true, .int .u64 d.id, .bool d.leaf, .string d.label, .slice A2 d.attrs.length c9, .string d.text, .int .i64 (p : Int), .slice none 0 0]) (tagNew ρ2 w2.heap.size (Value.slice A2 d.attrs.length c9).ownBlock .data) from by
    intro u A2 c9 hO E3
    have hge : ∀ g, (Value.slice A2 d.attrs.length c9).ownBlock = some g → w2.heap.size ≤ g := fun g hg => (hO.lt g hg).1
    have hlt : ∀ g, (Value.slice A2 d.attrs.length c9).ownBlock = some g → g < u.heap.size := fun g hg => (hO.lt g hg).2
    refine ⟨?_, (Step.ext HE.out).trans (hS2.trans (hS10.out.put_step (Fr.of_ext E3 _) g1 _ (fun g hg => tagNew_old hg)))⟩
    refine hS10.out.put (s' := d.sl (p : Int) []) (av' := .slice A2 d.attrs.length c9) (kv' := .slice none 0 0) hfl (Fr.of_ext E3 _) (fun g hg => tagNew_old hg) (tagNew_lt E3.size hlt) g1 g3 g4 hg5 (by simp) ?_ rfl (Nat.zero_le _)
    exact ⟨⟨HD.out.ids, HD.out.lab, HD.out.txt, RdS.of_owns hO, HD.out.few⟩, fun g hg _ => tagNew_new (hge g hg) hg, World.ownsRow_nil _ _ _ _, fun g hg => (by cases hg)⟩)
  clear B2 g1 g2 g3 g4 g5 g6 g5b hg5 hav hkv hq hs2 h2
  obtain ⟨wd, hwd⟩ : ∃ d, w2.drew = d := ⟨_, rfl⟩
  have HXQ := Lib.hid (show Ext w2 wd from by rw [← hwd]; exact (Ext.refl w2).drew)
  refine wp_region_held_drew (S := fun W => NBox W w.heap.size 25 #[.int .u64 d.id, .bool d.leaf, .string d.label, .slice dA d.attrs.length dc, .string d.text]) (by kernel_rfl) (by rw [hwd]; exact HB2.out.ext HXQ.out) (fun hHeld => ?_)
  rw [hwd] at hHeld ⊢
  clear hwd
  refine wpAnyH_take (i := 0) (oi := ⟨_, _, _, _, _, _⟩) (v := ?_) rfl (by kernel_rfl) (by kernel_rfl) (by kernel_rfl) (fun _ _ _ h => h) (Or.inl ⟨by rfl, ?_⟩) hHeld ?_
  rotate_left
  · intro w hSw
    try dsimp only at hSw
    go_simp
    all_goals (first | with_reducible rfl | rw [if_pos (by omega)])
  try simp only [Act.put, List.setIfInBounds_toArray, List.set_cons_zero, List.set_cons_succ]
  refine wpAnyH_take (i := 1) (oi := ⟨_, _, _, _, _, _⟩) (v := ?_) rfl (by kernel_rfl) (by kernel_rfl) (by kernel_rfl) (fun _ _ _ h => h) (Or.inl ⟨by rfl, ?_⟩) hHeld ?_
  rotate_left
  · intro w hSw
    try dsimp only at hSw
    go_simp
    all_goals (first | with_reducible rfl | rw [if_pos (by omega)])
  try simp only [Act.put, List.setIfInBounds_toArray, List.set_cons_zero, List.set_cons_succ]
  refine wpAnyH_take (i := 3) (oi := ⟨_, _, _, _, _, _⟩) (v := ?_) rfl (by kernel_rfl) (by kernel_rfl) (by kernel_rfl) (fun _ _ _ h => h) (Or.inl ⟨by rfl, ?_⟩) hHeld ?_
  rotate_left
  · intro w hSw
    have fq := hSw
    have e0 := fq.cell 0
    have e1 := fq.cell 1
    have e2 := fq.cell 2
    have e3 := fq.cell 3
    have e4 := fq.cell 4
    go_simp
    all_goals (first | with_reducible rfl | rw [if_pos (by omega)])
  try simp only [Act.put, List.setIfInBounds_toArray, List.set_cons_zero, List.set_cons_succ]
  refine wpAnyH_take (i := 5) (oi := ⟨_, _, _, _, _, _⟩) (v := ?_) rfl (by kernel_rfl) (by kernel_rfl) (by kernel_rfl) (fun _ _ _ h => h) (Or.inl ⟨by rfl, ?_⟩) hHeld ?_
  rotate_left
  · intro w hSw
    try dsimp only at hSw
    go_simp
    all_goals (first | with_reducible rfl | rw [if_pos (by omega)])
  try simp only [Act.put, List.setIfInBounds_toArray, List.set_cons_zero, List.set_cons_succ]
  refine wpAnyH_ready (rs := [2]) (by kernel_rfl) (by simp) ?_
  refine AllReadyH.cons (o := ⟨_, _, _, _, _, _⟩) rfl (fun K' hK => ?_) (AllReadyH.nil)
  go_simp
  go_at_call 29
  refine (hat.out _ HXQ.out).mono ?_
  rintro e u ⟨rfl, rfl⟩
  refine hK.out _ _ (hHeld) (fun hHeld => ?_)
  clear hK K'
  try simp only [Act.put, List.setIfInBounds_toArray, List.set_cons_zero, List.set_cons_succ]
  refine wpAnyH_ready (rs := [4]) (by kernel_rfl) (by simp) ?_
  refine AllReadyH.cons (o := ⟨_, _, _, _, _, _⟩) rfl (fun K' hK => ?_) (AllReadyH.nil)
  go_simp
  go_at_call 28
  refine (hown.out _ HXQ.out).mono ?_
  rintro e u ⟨av, rfl, hO, hE⟩
  obtain ⟨A2, c9, rfl, -, -⟩ := owns_slice hO
  replace hO := owns_mono hO HXQ.out.size
  replace HXQ := Lib.hid (HXQ.out.trans hE)
  refine hK.out _ _ (hHeld.ext hE) (fun hHeld => ?_)
  clear hK K'
  try simp only [Act.put, List.setIfInBounds_toArray, List.set_cons_zero, List.set_cons_succ]
  refine wpAnyH_take (i := 6) (oi := ⟨_, _, _, _, _, _⟩) (v := ?_) rfl (by kernel_rfl) (by kernel_rfl) (by kernel_rfl) (fun _ _ _ h => h) (Or.inl ⟨by rfl, ?_⟩) hHeld ?_
  rotate_left
  · intro w hSw
    try dsimp only at hSw
    go_simp
    all_goals (first | with_reducible rfl | rw [if_pos (by omega)])
  try simp only [Act.put, List.setIfInBounds_toArray, List.set_cons_zero, List.set_cons_succ]
  refine wpAnyH_take (i := 7) (oi := ⟨_, _, _, _, _, _⟩) (v := ?_) rfl (by kernel_rfl) (by kernel_rfl) (by kernel_rfl) (fun _ _ _ h => h) (Or.inl ⟨by rfl, ?_⟩) hHeld ?_
  rotate_left
  · intro w hSw
    try dsimp only at hSw
    go_simp
    all_goals (first | with_reducible rfl | rw [if_pos (by omega)])
  try simp only [Act.put, List.setIfInBounds_toArray, List.set_cons_zero, List.set_cons_succ]
  refine wpAnyH_ready (rs := [8]) (by kernel_rfl) (by simp) ?_
  refine AllReadyH.cons (o := ⟨_, _, _, _, _, _⟩) rfl (fun K' hK => ?_) (AllReadyH.nil)
  obtain ⟨⟨c0, c1, c2, c3, c4, c5, c6, c7⟩, ff⟩ := FC.out _ HXQ.out
  have f0 := ff (S.fresh % 16 * 8)
  have f1 := ff (S.fresh % 16 * 8 + 1)
  have f2 := ff (S.fresh % 16 * 8 + 2)
  have f3 := ff (S.fresh % 16 * 8 + 3)
  have f4 := ff (S.fresh % 16 * 8 + 4)
  have f5 := ff (S.fresh % 16 * 8 + 5)
  have f6 := ff (S.fresh % 16 * 8 + 6)
  have f7 := ff (S.fresh % 16 * 8 + 7)
  clear ff
  go_simp
  clear c0 f0 c1 f1 c2 f2 c3 f3 c4 f4 c5 f5 c6 f6 c7 f7
  refine hK.out _ _ (NBox.fr (Fr.setCells b [.bool true, .int .u64 d.id, .bool d.leaf, .string d.label, .slice A2 d.attrs.length c9, .string d.text, .int .i64 (p : Int), .slice none 0 0] (S.fresh % 16 * 8) _) hHeld (fun e => by have := hBt1; rw [e] at this; exact absurd this (by rw [hbt]; intro e; cases e))) (fun hHeld => ?_)
  clear hK K'
  try simp only [Act.put, List.setIfInBounds_toArray, List.set_cons_zero, List.set_cons_succ]
  refine wpAnyH_done (by kernel_rfl) ?_ _
  clear hHeld
  obtain ⟨w5, hw5⟩ : ∃ W, World.setCell (World.setCell (World.setCell (World.setCell (World.setCell (World.setCell (World.setCell (World.setCell (u) ⟨b, S.fresh % 16 * 8, none⟩ (.bool true)) ⟨b, S.fresh % 16 * 8 + 1, none⟩ (.int .u64 d.id)) ⟨b, S.fresh % 16 * 8 + 2, none⟩ (.bool d.leaf)) ⟨b, S.fresh % 16 * 8 + 3, none⟩ (.string d.label)) ⟨b, S.fresh % 16 * 8 + 4, none⟩ (.slice A2 d.attrs.length c9)) ⟨b, S.fresh % 16 * 8 + 5, none⟩ (.string d.text)) ⟨b, S.fresh % 16 * 8 + 6, none⟩ (.int .i64 (p : Int))) ⟨b, S.fresh % 16 * 8 + 7, none⟩ (.slice none 0 0) = W := ⟨_, rfl⟩
  have HP5 := HP.out u A2 c9 hO HXQ.out
  rw [show World.setCells u b (S.fresh % 16 * 8 + 0) [.bool true, .int .u64 d.id, .bool d.leaf, .string d.label, .slice A2 d.attrs.length c9, .string d.text, .int .i64 (p : Int), .slice none 0 0] = w5 from hw5] at HP5
  rw [hw5]
  clear hw5 hO HXQ FC
  obtain ⟨h5, S5⟩ := HP5
  clear HP HSLOT HG6 HG1 HG3 HG4 HHQ HAV HKV hat hHeld hBt1 hBt hbt hS10 HD2 HB2
  obtain ⟨S2, hS2e⟩ : ∃ S2, S.fill d (p : Int) = S2 := ⟨_, rfl⟩
  have hadd : S.add p g d = S2.setKids p (insAt (S2.get p).kids g S.fresh) := by rw [← hS2e]; rfl
  rw [hS2e] at h5
  have HADD := Lib.hid hadd
  have hget : S2.get p = S.get p := by
    rw [← hS2e, St.fill]
    show ((S.fresh'.sl.set S.fresh (d.sl (p : Int) []))[p]?).getD Sl.zero = _
    rw [List.getElem?_set, if_neg hne]
    exact get_fresh' S p
  have hS2l : p < S2.sl.length := by
    rw [← hS2e, St.fill]
    show p < (S.fresh'.sl.set S.fresh (d.sl (p : Int) [])).length
    rw [List.length_set]
    unfold St.fresh'
    split
    · simp; omega
    · exact hp
  clear hadd hS2e hfl
  obtain ⟨b6, cs6, av6, kv6, k1, k2, k3, k4, k5, k6⟩ := h5.slot (Nat.lt_of_lt_of_le hS2l h5.room)
  have hb6 : b6 = bp := by
    obtain ⟨r, rfl⟩ := hpre
    have h0 : p / 16 < bs.length := by omega
    rw [List.getElem?_append_left h0, hbp] at k1
    exact (Option.some.inj k1).symm
  subst hb6
  obtain ⟨hlf, -, hgk⟩ := takes_ok ht
  rw [← hget] at hgk hkn
  have E6 : Ext w5 (w5.alloc (.cells #[.int .i64 (S.fresh : Int)] 3)) := (Ext.refl _).alloc _
  have bv6 : NBox (w5.alloc (.cells #[.int .i64 (S.fresh : Int)] 3)) w5.heap.size 3 #[.int .i64 (S.fresh : Int)] := NBox.new _ _ _
  have h6 := h5.ext E6
  have hs6 := k6.fr (ρ' := tagNew ρ2 w2.heap.size (Value.slice A2 d.attrs.length c9).ownBlock .data) (Fr.of_ext E6 (fun _ => False)) (fun _ _ => id) (fun _ _ => id) (fun _ _ => rfl)
  have k36 := k3.ext E6
  have hins := insert_any kv6 (S2.get p).kids base g S.fresh w5.heap.size _ hs6.ks (by omega) (by omega) bv6 (fun e => by have := (k6.ks.lt _ e).2; omega) h6.lo
  obtain ⟨w6, hw6⟩ : ∃ W, w5.alloc (.cells #[.int .i64 (S.fresh : Int)] 3) = W := ⟨_, rfl⟩
  rw [hw6] at E6 h6 hs6 k36 hins
  have HW6 := Lib.hid hw6
  have c7 : w5.cell? ⟨b6, p % 16 * 8 + 7, none⟩ = some kv6 := by rw [k3.cell]; exact k5 7 _ rfl
  have hbt6 : tagNew ρ2 w2.heap.size (Value.slice A2 d.attrs.length c9).ownBlock .data b6 = .slab := by obtain ⟨_, _, _, h3, _⟩ := h6.slab _ b6 k1; exact h3
  have FC := Lib.hid (show ∀ w1 : World, Fr w6 w1 (fun k => kv6.ownBlock = some k) → w1.cell? ⟨b6, p % 16 * 8 + 7, none⟩ = some kv6 ∧ w1.frozen? ⟨b6, p % 16 * 8 + 7, none⟩ = false from by
    intro w1 hF
    have g9 := k36.fr hF (fun e => by have := hs6.kvt b6 e; rw [hbt6] at this; cases this)
    exact ⟨by rw [g9.cell]; exact k5 7 _ rfl, g9.frozen _⟩)
  have HPF := Lib.hid (show ∀ (w1 : World) (kv' : Value), w1.ownsRow base 3 1 kv' (insAt (S2.get p).kids g S.fresh).length (ints (insAt (S2.get p).kids g S.fresh)) → Fr w6 w1 (fun k => kv6.ownBlock = some k) → (kv'.ownBlock = kv6.ownBlock ∨ ∃ k, kv'.ownBlock = some k ∧ w6.heap.size ≤ k) →
      ∃ ρ' sv' fv' bs', AP (w1.setCells b6 (p % 16 * 8 + 7) [kv']) ρ' base A (S.add p g d) sv' fv' bs' ∧ bs <+: bs' ∧ bs'.length ≤ bs.length + 1 ∧ Step w ρ (w1.setCells b6 (p % 16 * 8 + 7) [kv']) ρ' from by
    intro w1 kv' hO hF hv
    rw [HADD.out]
    obtain ⟨ρ', a1, a2⟩ := h6.kidsPut hS2l hF k1 k36 k4 k5 hs6 hO hv (by rw [len_insAt]; omega)
    exact ⟨ρ', _, _, _, a1, hpre, hbl, S5.trans ((Step.ext E6).trans a2)⟩)
  obtain ⟨kA6, kc6, rfl, -, -⟩ := owns_slice k6.ks
  clear h5 h6 hs6 k1 k2 k3 k36 k4 k5 k6 bv6 S5 hgk hget hw6 E6 hpre hbl hS2 hf16
  generalize S2.get p = s2 at *
  go_wp2_with (go_at_call 45; rw [HW6.out]; refine hins.mono ?_; clear hins c7; rintro e w7 ⟨v7, rfl, hO7, F7, hv7⟩; obtain ⟨A7, c97, rfl, -, -⟩ := owns_slice hO7
               obtain ⟨c7, ff⟩ := FC.out w7 F7)
  exact bodyPost_ret (results_tmp2 rfl _ _ _) rfl ⟨rfl, HPF.out _ _ hO7 F7 hv7⟩
end
end Go.Proofs.Ytobbdeakocgdcaa.Ar
