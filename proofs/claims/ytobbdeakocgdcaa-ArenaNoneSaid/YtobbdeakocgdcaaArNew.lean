/- Chapter 07: New (10). (Printed by garnew.py.) -/
import Derived.Test.YtobbdeakocgdcaaArMove2
namespace Go.Proofs.Ytobbdeakocgdcaa.Ar
open Go.RowKit Go.Proofs.Ytobbdeakocgdcaa.Bw

/-- No slot yet. -/
theorem AP.nothing {w : World} {A : Nat} {ρ : Nat → Tg} (hb : NBox w A 65 #[.slice none 0 0, .int .i64 0, .slice none 0 0]) (ht : ρ A = .box) (hn : ∀ k, ρ k ≠ .no → k = A) {base : Nat} (hA : base ≤ A) : AP w ρ base A ⟨[], []⟩ (.slice none 0 0) (.slice none 0 0) [] :=
  ⟨hb, ht, hA, World.ownsRow_nil _ _ _ _, fun _ h => (by cases h), World.ownsRow_nil _ _ _ _, fun _ h => (by cases h), Nat.le_refl _, fun j b h => (by simp at h), List.nodup_nil, fun k h => by rw [hn k h]; exact ⟨hA, hb.lt⟩, by have := hb.lt; omega, Nat.zero_le _, Nat.zero_le _, fun n => (by simp [St.get, Sl.zero])⟩
set_option maxRecDepth 100000 in
set_option maxHeartbeats 4000000 in
theorem new_any (d : Da) (av : Value) (w : World) (hd : DataIn w d av) :
    Calls Try.prog 10 #[d.val av] w fun e w' => ∃ A, e = .returned (.pointer (some ⟨A, 0, none⟩)) ∧ ∃ ρ sv fv bs, AP w' ρ w.heap.size A (St.new d) sv fv bs ∧ bs.length ≤ 1 ∧ Ext w w' ∧ (∀ g, g < w.heap.size → ρ g = .no) := by
  obtain ⟨dA, dc, rfl, -⟩ := id hd.ats
  obtain ⟨W, hW⟩ : ∃ W, (w.alloc (.cells #[.int .u64 d.id, .bool false, .string d.label, .slice dA d.attrs.length dc, .string d.text] 25)).alloc (.cells #[.slice none 0 0, .int .i64 0, .slice none 0 0] 65) = W := ⟨_, rfl⟩
  have E0 : Ext w (w.alloc (.cells #[.int .u64 d.id, .bool false, .string d.label, .slice dA d.attrs.length dc, .string d.text] 25)) := (Ext.refl _).alloc _
  have E1 : Ext (w.alloc (.cells #[.int .u64 d.id, .bool false, .string d.label, .slice dA d.attrs.length dc, .string d.text] 25)) W := by rw [← hW]; exact (Ext.refl _).alloc _
  have B1 : NBox W w.heap.size 25 #[.int .u64 d.id, .bool false, .string d.label, .slice dA d.attrs.length dc, .string d.text] := NBox.ext E1 (NBox.new _ _ _)
  have B2 : NBox W (w.heap.size + 1) 65 #[.slice none 0 0, .int .i64 0, .slice none 0 0] := by
    have := NBox.new (w.alloc (.cells #[.int .u64 d.id, .bool false, .string d.label, .slice dA d.attrs.length dc, .string d.text] 25)) 65 #[.slice none 0 0, .int .i64 0, .slice none 0 0]
    rw [World.size_alloc] at this
    rw [← hW]; exact this
  have HW := Lib.hid hW
  have HE := Lib.hid (E0.trans E1)
  have HB1 := Lib.hid B1
  have HD := Lib.hid hd
  obtain ⟨ρ0, hρ0⟩ : ∃ ρ0 : Nat → Tg, ρ0 = fun k => if k = w.heap.size + 1 then .box else .no := ⟨_, rfl⟩
  have hnoA : ∀ k, ρ0 k ≠ .no → k = w.heap.size + 1 := fun k hk => by
    rcases Nat.decEq k (w.heap.size + 1) with h | h
    · exfalso; apply hk; rw [hρ0]; exact if_neg h
    · exact h
  have h0 : AP W ρ0 w.heap.size (w.heap.size + 1) ⟨[], []⟩ (.slice none 0 0) (.slice none 0 0) [] := AP.nothing B2 (by rw [hρ0]; exact if_pos rfl) hnoA (by omega)
  have hfr := Lib.hid (fun X (EX : Ext W X) => show Calls Try.prog 30 #[.pointer (some ⟨w.heap.size + 1, 0, none⟩)] X fun e w' => e = .returned (.int .i64 0) ∧ ∃ ρ' sv' fv' bs', AP w' ρ' w.heap.size (w.heap.size + 1) ⟨[Sl.zero], []⟩ sv' fv' bs' ∧ bs'.length ≤ 1 ∧ Step X ρ0 w' ρ' from by
    refine (fresh_any (h0.ext EX) (Nat.zero_le _) (by simp)).mono ?_
    rintro e w' ⟨rfl, ρ', sv', fv', bs', a1, -, a2, a3⟩
    exact ⟨rfl, ρ', sv', fv', bs', (by simpa [St.fresh'] using a1), (by simpa using a2), a3⟩)
  have HR := Lib.hid hρ0
  clear hW E0 E1 B1 B2 hd
  unfold Da.val
  go_enter Try.func10, Try.ntmps10
  go_upto_region 3 with fail
  rw [HW.out]
  obtain ⟨wd, hwd⟩ : ∃ d, W.drew = d := ⟨_, rfl⟩
  have HXQ := Lib.hid (show Ext W wd from by rw [← hwd]; exact (Ext.refl W).drew)
  refine wp_region_held_drew (S := fun W => NBox W w.heap.size 25 #[.int .u64 d.id, .bool false, .string d.label, .slice dA d.attrs.length dc, .string d.text]) (by kernel_rfl) (by rw [hwd]; exact HB1.out.ext HXQ.out) (fun hHeld => ?_)
  rw [hwd] at hHeld ⊢
  clear hwd
  refine wpAnyH_take (i := 0) (oi := ⟨_, _, _, _, _, _⟩) (v := ?_) rfl (by kernel_rfl) (by kernel_rfl) (by kernel_rfl) (fun _ _ _ h => h) (Or.inl ⟨by rfl, ?_⟩) hHeld ?_
  rotate_left
  · intro w hSw
    try dsimp only at hSw
    go_simp
    all_goals (first | with_reducible rfl | rw [if_pos (by omega)])
  try simp only [Act.put, List.setIfInBounds_toArray, List.set_cons_zero, List.set_cons_succ]
  refine wpAnyH_take (i := 1) (oi := ⟨_, _, _, _, _, _⟩) (v := ?_) rfl (by kernel_rfl) (by kernel_rfl) (by kernel_rfl) (fun _ _ _ h => h) (Or.inl ⟨by rfl, ?_⟩) hHeld ?_
  rotate_left
  · intro w hSw
    try dsimp only at hSw
    go_simp
    all_goals (first | with_reducible rfl | rw [if_pos (by omega)])
  try simp only [Act.put, List.setIfInBounds_toArray, List.set_cons_zero, List.set_cons_succ]
  refine wpAnyH_take (i := 4) (oi := ⟨_, _, _, _, _, _⟩) (v := ?_) rfl (by kernel_rfl) (by kernel_rfl) (by kernel_rfl) (fun _ _ _ h => h) (Or.inl ⟨by rfl, ?_⟩) hHeld ?_
  rotate_left
  · intro w hSw
    have fq := hSw
    have e0 := fq.cell 0
    have e1 := fq.cell 1
    have e2 := fq.cell 2
    have e3 := fq.cell 3
    have e4 := fq.cell 4
    go_simp
    all_goals (first | with_reducible rfl | rw [if_pos (by omega)])
  try simp only [Act.put, List.setIfInBounds_toArray, List.set_cons_zero, List.set_cons_succ]
  refine wpAnyH_ready (rs := [2]) (by kernel_rfl) (by simp) ?_
  refine AllReadyH.cons (o := ⟨_, _, _, _, _, _⟩) rfl (fun K' hK => ?_) (AllReadyH.nil)
  go_simp
  go_at_call 30
  refine (hfr.out _ HXQ.out).mono ?_
  rintro e u ⟨rfl, ρ1, sv1, fv1, bs1, h1, hb1, S1⟩
  refine hK.out _ _ (hHeld.fr S1.fr (by rw [HR.out]; show ¬ ((if w.heap.size = w.heap.size + 1 then Tg.box else Tg.no) ≠ .no); rw [if_neg (by omega)]; exact fun e => e rfl)) (fun hHeld => ?_)
  clear hK K'
  try simp only [Act.put, List.setIfInBounds_toArray, List.set_cons_zero, List.set_cons_succ]
  have hE1 : Ext w u := by
    refine Fr.ext (HE.out.trans HXQ.out) S1.fr (fun i hi => ?_)
    have := hnoA i hi
    omega
  have h16 : 0 < 16 * bs1.length := Nat.lt_of_lt_of_le (by simp) h1.room
  have hc1 := at_any h1 0 h16 (by omega)
  obtain ⟨b, cs, av1, kv1, g1, g2, g3, g4, g5, g6⟩ := h1.slot h16
  have hs2 : slotAt bs1 0 = ⟨b, 0, none⟩ := by rw [slotAt, g2]
  rw [hs2] at hc1
  obtain ⟨aA, ac, hav, -⟩ := id g6.da.ats
  obtain ⟨kA, kc, hkv, -⟩ := owns_slice g6.ks
  obtain ⟨q, hq⟩ : ∃ q, (⟨[Sl.zero], []⟩ : St).get 0 = q := ⟨_, rfl⟩
  have hqa : ((⟨[Sl.zero], []⟩ : St).get 0).da.attrs = q.attrs := by rw [hq]; rfl
  rw [hqa] at hav
  have hg5 := g5
  rw [hq] at g5 hkv
  rw [hav, hkv] at g5
  have hbt : ρ1 b = .slab := by obtain ⟨_, _, _, h3, _⟩ := h1.slab _ b g1; exact h3
  have hown := own_any ⟨d.id, false, d.label, d.attrs, d.text⟩ _ u ⟨HD.out.ids, HD.out.lab, HD.out.txt, RdS.ext hE1 HD.out.ats, HD.out.few⟩
  unfold Da.val at hown
  have hbw : b ≠ w.heap.size := by
    intro e
    have := g3.lt
    have q1 : some (Obj.cells cs 86 (0, 0)) = some (Obj.cells _ 25 (0, 0)) := (show u.heap[b]? = _ from g3).symm.trans (by rw [e]; exact hHeld)
    cases q1
  have FC := Lib.hid (show ∀ X, Ext u X → (X.cell? ⟨b, 0, none⟩ = some (.bool q.live) ∧ X.cell? ⟨b, 1, none⟩ = some (.int .u64 q.id) ∧ X.cell? ⟨b, 2, none⟩ = some (.bool q.leaf) ∧ X.cell? ⟨b, 3, none⟩ = some (.string q.label) ∧ X.cell? ⟨b, 4, none⟩ = some (.slice aA q.attrs.length ac) ∧ X.cell? ⟨b, 5, none⟩ = some (.string q.text) ∧ X.cell? ⟨b, 6, none⟩ = some (.int .i64 q.parent) ∧ X.cell? ⟨b, 7, none⟩ = some (.slice kA q.kids.length kc)) ∧ ∀ i, X.frozen? ⟨b, i, none⟩ = false from by
    intro X E
    have g9 := g3.ext E
    refine ⟨⟨by rw [g9.cell]; exact g5 0 _ rfl, by rw [g9.cell]; exact g5 1 _ rfl, by rw [g9.cell]; exact g5 2 _ rfl, by rw [g9.cell]; exact g5 3 _ rfl, by rw [g9.cell]; exact g5 4 _ rfl, by rw [g9.cell]; exact g5 5 _ rfl, by rw [g9.cell]; exact g5 6 _ rfl, by rw [g9.cell]; exact g5 7 _ rfl⟩, fun i => g9.frozen i⟩)
  have HP := Lib.hid (show ∀ (X : World) (A2 : Option Addr) (c9 : Nat), X.ownsRow u.heap.size 61 2 (.slice A2 d.attrs.length c9) d.attrs.length (attrCells d.attrs) → Ext u X → AP (X.setCells b 0 [.bool true, .int .u64 d.id, .bool false, .string d.label, .slice A2 d.attrs.length c9, .string d.text, .int .i64 (-1), .slice none 0 0]) (tagNew ρ1 u.heap.size (Value.slice A2 d.attrs.length c9).ownBlock .data) w.heap.size (w.heap.size + 1) (St.new d) sv1 fv1 bs1 ∧ Ext w (X.setCells b 0 [.bool true, .int .u64 d.id, .bool false, .string d.label, .slice A2 d.attrs.length c9, .string d.text, .int .i64 (-1), .slice none 0 0]) ∧ (∀ g, g < w.heap.size → tagNew ρ1 u.heap.size (Value.slice A2 d.attrs.length c9).ownBlock .data g = .no) from by
    intro X A2 c9 hO E3
    have hge : ∀ g, (Value.slice A2 d.attrs.length c9).ownBlock = some g → u.heap.size ≤ g := fun g hg => (hO.lt g hg).1
    have hlt : ∀ g, (Value.slice A2 d.attrs.length c9).ownBlock = some g → g < X.heap.size := fun g hg => (hO.lt g hg).2
    refine ⟨?_, ?_, fun g hg => ?_⟩
    · have := h1.put (i := 0) (vs := [.bool true, .int .u64 d.id, .bool false, .string d.label, .slice A2 d.attrs.length c9, .string d.text, .int .i64 (-1), .slice none 0 0]) (s' := ({ d with leaf := false } : Da).sl (-1) []) (av' := .slice A2 d.attrs.length c9) (kv' := .slice none 0 0) (by simp) (Fr.of_ext E3 _) (fun g hg => tagNew_old hg) (tagNew_lt E3.size hlt) g1 g3 g4 hg5 (by simp) ⟨⟨HD.out.ids, HD.out.lab, HD.out.txt, RdS.of_owns hO, HD.out.few⟩, fun g hg _ => tagNew_new (hge g hg) hg, World.ownsRow_nil _ _ _ _, fun g hg => (by cases hg)⟩ rfl (Nat.zero_le _)
      exact this
    · have hbge : w.heap.size ≤ b := (h1.old b (by rw [hbt]; intro e; cases e)).1
      exact Fr.ext (hE1.trans E3) (Fr.setCells b _ 0 X) (fun i hi => by omega)
    · have hgu : g < u.heap.size := Nat.lt_of_lt_of_le hg hE1.size
      rw [tagNew_old hgu, S1.tg g (Nat.lt_of_lt_of_le hg (HE.out.trans HXQ.out).size), HR.out]
      exact if_neg (by omega))
  obtain ⟨HXU, hXU⟩ : ∃ E : Ext u u, E = Ext.refl u := ⟨_, rfl⟩
  replace HXQ := Lib.hid HXU
  clear hXU HXU h1 g1 g2 g3 g4 g5 g6 hav hkv hq hqa hg5 S1 hs2
  refine wpAnyH_ready (rs := [3]) (by kernel_rfl) (by simp) ?_
  refine AllReadyH.cons (o := ⟨_, _, _, _, _, _⟩) rfl (fun K' hK => ?_) (AllReadyH.nil)
  go_simp
  go_at_call 29
  refine (hc1).mono ?_
  rintro e u2 ⟨rfl, rfl⟩
  refine hK.out _ _ (hHeld) (fun hHeld => ?_)
  clear hK K'
  try simp only [Act.put, List.setIfInBounds_toArray, List.set_cons_zero, List.set_cons_succ]
  refine wpAnyH_ready (rs := [5]) (by kernel_rfl) (by simp) ?_
  refine AllReadyH.cons (o := ⟨_, _, _, _, _, _⟩) rfl (fun K' hK => ?_) (AllReadyH.nil)
  go_simp
  go_at_call 28
  refine (hown).mono ?_
  rintro e u3 ⟨av, rfl, hO, hE⟩
  obtain ⟨A2, c9, rfl, -, -⟩ := owns_slice hO
  replace HXQ := Lib.hid (HXQ.out.trans hE)
  refine hK.out _ _ (hHeld.ext hE) (fun hHeld => ?_)
  clear hK K'
  try simp only [Act.put, List.setIfInBounds_toArray, List.set_cons_zero, List.set_cons_succ]
  refine wpAnyH_take (i := 6) (oi := ⟨_, _, _, _, _, _⟩) (v := ?_) rfl (by kernel_rfl) (by kernel_rfl) (by kernel_rfl) (fun _ _ _ h => h) (Or.inl ⟨by rfl, ?_⟩) hHeld ?_
  rotate_left
  · intro w hSw
    try dsimp only at hSw
    go_simp
    all_goals (first | with_reducible rfl | rw [if_pos (by omega)])
  try simp only [Act.put, List.setIfInBounds_toArray, List.set_cons_zero, List.set_cons_succ]
  refine wpAnyH_take (i := 7) (oi := ⟨_, _, _, _, _, _⟩) (v := ?_) rfl (by kernel_rfl) (by kernel_rfl) (by kernel_rfl) (fun _ _ _ h => h) (Or.inl ⟨by rfl, ?_⟩) hHeld ?_
  rotate_left
  · intro w hSw
    try dsimp only at hSw
    go_simp
    all_goals (first | with_reducible rfl | rw [if_pos (by omega)])
  try simp only [Act.put, List.setIfInBounds_toArray, List.set_cons_zero, List.set_cons_succ]
  refine wpAnyH_ready (rs := [8]) (by kernel_rfl) (by simp) ?_
  refine AllReadyH.cons (o := ⟨_, _, _, _, _, _⟩) rfl (fun K' hK => ?_) (AllReadyH.nil)
  obtain ⟨⟨c0, c1, c2, c3, c4, c5, c6, c7⟩, ff⟩ := FC.out _ HXQ.out
  have f0 := ff 0
  have f1 := ff 1
  have f2 := ff 2
  have f3 := ff 3
  have f4 := ff 4
  have f5 := ff 5
  have f6 := ff 6
  have f7 := ff 7
  clear ff
  go_simp
  clear c0 f0 c1 f1 c2 f2 c3 f3 c4 f4 c5 f5 c6 f6 c7 f7
  refine hK.out _ _ (NBox.fr (Fr.setCells b [.bool true, .int .u64 d.id, .bool false, .string d.label, .slice A2 d.attrs.length c9, .string d.text, .int .i64 (-1), .slice none 0 0] 0 _) hHeld (fun e => hbw e.symm)) (fun hHeld => ?_)
  clear hK K'
  try simp only [Act.put, List.setIfInBounds_toArray, List.set_cons_zero, List.set_cons_succ]
  refine wpAnyH_done (by kernel_rfl) ?_ _
  clear hHeld
  have HP5 := HP.out _ A2 c9 hO HXQ.out
  go_wp2_with fail
  go_ret
  exact ⟨_, rfl, _, _, _, _, HP5.1, hb1, HP5.2.1, HP5.2.2⟩
end Go.Proofs.Ytobbdeakocgdcaa.Ar
