/- Chapter 07: Set (26). -/
import Derived.Test.YtobbdeakocgdcaaArFresh
import Derived.Test.YtobbdeakocgdcaaArPut
namespace Go.Proofs.Ytobbdeakocgdcaa.Ar
open Go.RowKit Go.Proofs.Ytobbdeakocgdcaa.Bw

section
variable {w : World} {ρ : Nat → Tg} {base A : Nat} {S : St} {sv fv : Value} {bs : List Nat}
theorem set_nil (n : Int) (d : Da) (av : Value) (w : World) (hd : ∃ A k c, av = .slice A k c) : Calls Try.prog 26 #[.pointer none, .int .i64 n, d.val av] w fun e w' => e = .returned (.int .i64 1) ∧ Ext w w' := by
  obtain ⟨dA, dk, dc, rfl⟩ := hd
  unfold Da.val
  go_enter Try.func26, Try.ntmps26
  go_wp2_with fail
  go_ret
  exact ⟨rfl, (Ext.refl _).alloc _⟩
theorem set_no (h : AP w ρ base A S sv fv bs) (n : Int) (d : Da) (av : Value) (hd : DataIn w d av) (hn : ∀ k : Nat, n = (k : Int) → k < S.sl.length → (S.get k).live = false) (hbig : bs.length ≤ 1000000) :
    Calls Try.prog 26 #[.pointer (some ⟨A, 0, none⟩), .int .i64 n, d.val av] w fun e w' => e = .returned (.int .i64 5) ∧ Ext w w' := by
  obtain ⟨dA, dc, rfl, -⟩ := id hd.ats
  have E1 : Ext w (w.alloc (.cells #[.int .u64 d.id, .bool d.leaf, .string d.label, .slice dA d.attrs.length dc, .string d.text] 25)) := (Ext.refl _).alloc _
  have hc := live_no (h.ext E1) n hn hbig
  unfold Da.val
  clear hd h hn
  go_enter Try.func26, Try.ntmps26
  go_wp2_with (go_at_call 42; refine hc.mono ?_; rintro e w1 ⟨rfl, rfl⟩)
  go_ret
  exact ⟨rfl, E1⟩

set_option maxRecDepth 100000 in
set_option maxHeartbeats 4000000 in
theorem set_leaf (h : AP w ρ base A S sv fv bs) (n : Nat) (d : Da) (av : Value) (hd : DataIn w d av) (hn : n < S.sl.length) (hl : (S.get n).live = true) (hdl : d.leaf = true) (hx : n = 0 ∨ (S.get n).kids ≠ []) (hbig : bs.length ≤ 1000000) :
    Calls Try.prog 26 #[.pointer (some ⟨A, 0, none⟩), .int .i64 (n : Int), d.val av] w fun e w' => e = .returned (.int .i64 83) ∧ Ext w w' := by
  have hn16 : n < 16 * bs.length := Nat.lt_of_lt_of_le hn h.room
  obtain ⟨dA, dc, rfl, -⟩ := id hd.ats
  obtain ⟨W, hW⟩ : ∃ W, w.alloc (.cells #[.int .u64 d.id, .bool true, .string d.label, .slice dA d.attrs.length dc, .string d.text] 25) = W := ⟨_, rfl⟩
  have E1 : Ext w W := by rw [← hW]; exact (Ext.refl _).alloc _
  have B1 : NBox W w.heap.size 25 #[.int .u64 d.id, .bool true, .string d.label, .slice dA d.attrs.length dc, .string d.text] := by rw [← hW]; exact NBox.new _ _ _
  have h1 := h.ext E1
  have hc := live_yes h1 n hn hl hbig
  obtain ⟨b, cs, av1, kv, g1, g2, g3, g4, g5, g6⟩ := h1.slot hn16
  have hs : slotAt bs n = ⟨b, n % 16 * 8, none⟩ := by rw [slotAt, g2]
  rw [hs] at hc
  obtain ⟨kA, kc, rfl, hk1, hk2⟩ := owns_slice g6.ks
  have c7 : W.cell? ⟨b, n % 16 * 8 + 7, none⟩ = some (.slice kA (S.get n).kids.length kc) := by rw [g3.cell]; exact g5 7 _ rfl
  have d1 := B1.cell 1
  have hkl := h.big.2.2 n
  have HW := Lib.hid hW
  unfold Da.val
  rw [hdl]
  clear hd h h1 hW g1 g2 g3 g4 g5 g6 hs B1
  generalize S.get n = s at *
  go_enter Try.func26, Try.ntmps26
  go_upto_region 3 with fail
  rw [HW.out]
  rcases Nat.eq_zero_or_pos n with h0 | h0
  · subst h0
    go_wp2_with (go_at_call 42; refine hc.mono ?_; rintro e w1 ⟨rfl, rfl⟩)
    go_ret
    exact ⟨rfl, E1⟩
  · have t1 : decide ((n : Int) = 0) = false := decide_eq_false (by omega)
    have t2 : ((n : Int) == 0) = false := by simp; omega
    have hpos : 0 < s.kids.length := List.length_pos_iff.2 (by rcases hx with h | h; omega; exact h)
    have t3 : decide ((0 : Int) < (s.kids.length : Int)) = true := decide_eq_true (by omega)
    go_wp2_with (go_at_call 42; refine hc.mono ?_; rintro e w1 ⟨rfl, rfl⟩)
    go_ret
    exact ⟨rfl, E1⟩
set_option maxRecDepth 100000 in
set_option maxHeartbeats 4000000 in
theorem set_yes (h : AP w ρ base A S sv fv bs) (n : Nat) (d : Da) (av : Value) (hd : DataIn w d av) (hn : n < S.sl.length) (hl : (S.get n).live = true) (hx : d.leaf = true → n ≠ 0 ∧ (S.get n).kids = []) (hbig : bs.length ≤ 1000000) :
    Calls Try.prog 26 #[.pointer (some ⟨A, 0, none⟩), .int .i64 (n : Int), d.val av] w fun e w' => e = .returned (.int .i64 0) ∧ ∃ ρ', AP w' ρ' base A (S.setD n d) sv fv bs ∧ Step w ρ w' ρ' := by
  have hn16 : n < 16 * bs.length := Nat.lt_of_lt_of_le hn h.room
  obtain ⟨dA, dc, rfl, -⟩ := id hd.ats
  obtain ⟨W, hW⟩ : ∃ W, w.alloc (.cells #[.int .u64 d.id, .bool d.leaf, .string d.label, .slice dA d.attrs.length dc, .string d.text] 25) = W := ⟨_, rfl⟩
  have E1 : Ext w W := by rw [← hW]; exact (Ext.refl _).alloc _
  have B1 : NBox W w.heap.size 25 #[.int .u64 d.id, .bool d.leaf, .string d.label, .slice dA d.attrs.length dc, .string d.text] := by rw [← hW]; exact NBox.new _ _ _
  have h1 := h.ext E1
  have hc := live_yes h1 n hn hl hbig
  have hown := own_any d _ W (hd.ext E1)
  obtain ⟨b, cs, av1, kv, g1, g2, g3, g4, g5, g6⟩ := h1.slot hn16
  have hs : slotAt bs n = ⟨b, n % 16 * 8, none⟩ := by rw [slotAt, g2]
  rw [hs] at hc
  obtain ⟨kA, kc, hkv, hk1, hk2⟩ := owns_slice g6.ks
  have c7 : W.cell? ⟨b, n % 16 * 8 + 7, none⟩ = some (.slice kA (S.get n).kids.length kc) := by rw [g3.cell, ← hkv]; exact g5 7 _ rfl
  have d0 := B1.cell 0
  have d1 := B1.cell 1
  have d2 := B1.cell 2
  have d3 := B1.cell 3
  have d4 := B1.cell 4
  have hkl := h.big.2.2 n
  have HW := Lib.hid hW
  have c1 : cs[n % 16 * 8 + 1]? = some (.int .u64 (S.get n).id) := g5 1 _ rfl
  have c2 : cs[n % 16 * 8 + 2]? = some (.bool (S.get n).leaf) := g5 2 _ rfl
  have c3 : cs[n % 16 * 8 + 3]? = some (.string (S.get n).label) := g5 3 _ rfl
  have c4 : cs[n % 16 * 8 + 4]? = some av1 := g5 4 _ rfl
  have c5 : cs[n % 16 * 8 + 5]? = some (.string (S.get n).text) := g5 5 _ rfl
  obtain ⟨aA, ac, hav, -⟩ := id g6.da.ats
  have HP := Lib.hid (show ∀ (w3 : World) (A2 : Option Addr) (c9 : Nat), w3.ownsRow W.heap.size 61 2 (.slice A2 d.attrs.length c9) d.attrs.length (attrCells d.attrs) → Ext W w3 → ∃ ρ', AP (w3.setCells b (n % 16 * 8 + 1) [.int .u64 d.id, .bool d.leaf, .string d.label, .slice A2 d.attrs.length c9, .string d.text]) ρ' base A (S.setD n d) sv fv bs ∧ Step w ρ (w3.setCells b (n % 16 * 8 + 1) [.int .u64 d.id, .bool d.leaf, .string d.label, .slice A2 d.attrs.length c9, .string d.text]) ρ' from by
    intro w3 A2 c9 hO E3
    have hge : ∀ g, (Value.slice A2 d.attrs.length c9).ownBlock = some g → W.heap.size ≤ g := fun g hg => (hO.lt g hg).1
    have hlt : ∀ g, (Value.slice A2 d.attrs.length c9).ownBlock = some g → g < w3.heap.size := fun g hg => (hO.lt g hg).2
    refine ⟨tagNew ρ W.heap.size (Value.slice A2 d.attrs.length c9).ownBlock .data, ?_, ?_⟩
    · refine h1.put (s' := d.sl (S.get n).parent (S.get n).kids) (av' := .slice A2 d.attrs.length c9) (kv' := kv) hn (Fr.of_ext E3 _) (fun g hg => tagNew_old hg) (tagNew_lt E3.size hlt) g1 g3 g4 g5 (by simp) ?_ (by simp [slCells, Da.sl, hl]) hkl
      refine ⟨⟨hd.ids, hd.lab, hd.txt, RdS.of_owns hO, hd.few⟩, fun g hg _ => tagNew_new (hge g hg) hg, owns_fr (Fr.of_ext E3 (fun _ => False)) g6.ks (fun _ _ => id), fun g hg => ?_⟩
      rw [tagNew_old (g6.ks.lt g hg).2]
      exact g6.kvt g hg
    · refine (Step.ext E1).trans (h1.put_step (Fr.of_ext E3 _) g1 _ (fun g hg => tagNew_old hg)))
  have FC := Lib.hid (show ∀ w3 : World, Ext W w3 → w3.cell? ⟨b, n % 16 * 8 + 1, none⟩ = some (.int .u64 (S.get n).id) ∧ w3.cell? ⟨b, n % 16 * 8 + 2, none⟩ = some (.bool (S.get n).leaf) ∧ w3.cell? ⟨b, n % 16 * 8 + 3, none⟩ = some (.string (S.get n).label) ∧ w3.cell? ⟨b, n % 16 * 8 + 4, none⟩ = some (.slice aA (S.get n).attrs.length ac) ∧ w3.cell? ⟨b, n % 16 * 8 + 5, none⟩ = some (.string (S.get n).text) ∧ (∀ i, w3.frozen? ⟨b, i, none⟩ = false) from by
    intro w3 E3
    have g9 := g3.ext E3
    refine ⟨by rw [g9.cell]; exact c1, by rw [g9.cell]; exact c2, by rw [g9.cell]; exact c3, by rw [g9.cell, c4, hav]; rfl, by rw [g9.cell]; exact c5, fun i => g9.frozen i⟩)
  clear c1 c2 c3 c4 c5 hav hd h h1 hW g1 g2 g3 g4 g5 g6 hs B1 hkv
  unfold Da.val at hown ⊢
  go_enter Try.func26, Try.ntmps26
  go_upto_region 3 with fail
  rw [HW.out]
  clear HW
  generalize d.leaf = lf at *
  cases lf with
  | false =>
    go_wp2_with (first
      | (go_at_call 42; refine hc.mono ?_; rintro e w1 ⟨rfl, rfl⟩)
      | (go_at_call 28; refine hown.mono ?_; clear hown d0 d1 d2 d3 d4 c7; rintro e w3 ⟨av, rfl, hO, E3⟩; obtain ⟨A2, c9, rfl, -, -⟩ := owns_slice hO
         obtain ⟨c1, c2, c3, c4, c5, ff⟩ := FC.out w3 E3
         have f1 := ff (n % 16 * 8 + 1); have f2 := ff (n % 16 * 8 + 2); have f3 := ff (n % 16 * 8 + 3); have f4 := ff (n % 16 * 8 + 4); have f5 := ff (n % 16 * 8 + 5); clear ff))
    go_ret
    exact ⟨rfl, HP.out _ _ _ hO E3⟩
  | true =>
    obtain ⟨hx1, hx2⟩ := hx rfl
    have t1 : decide ((n : Int) = 0) = false := decide_eq_false (by omega)
    have t2 : ((n : Int) == 0) = false := by simp; omega
    rw [hx2] at c7
    clear hx
    go_wp2_with (first
      | (go_at_call 42; refine hc.mono ?_; rintro e w1 ⟨rfl, rfl⟩)
      | (go_at_call 28; refine hown.mono ?_; clear hown d0 d1 d2 d3 d4 c7; rintro e w3 ⟨av, rfl, hO, E3⟩; obtain ⟨A2, c9, rfl, -, -⟩ := owns_slice hO
         obtain ⟨c1, c2, c3, c4, c5, ff⟩ := FC.out w3 E3
         have f1 := ff (n % 16 * 8 + 1); have f2 := ff (n % 16 * 8 + 2); have f3 := ff (n % 16 * 8 + 3); have f4 := ff (n % 16 * 8 + 4); have f5 := ff (n % 16 * 8 + 5); clear ff))
    go_ret
    exact ⟨rfl, HP.out _ _ _ hO E3⟩
end
end Go.Proofs.Ytobbdeakocgdcaa.Ar
