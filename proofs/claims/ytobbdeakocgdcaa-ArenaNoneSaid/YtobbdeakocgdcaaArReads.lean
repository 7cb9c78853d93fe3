/- Chapter 07: what is read of the arena: Get 22, Kids 19, Parent 20, Slots 18, Free 21, Walk 15, under 47. -/
import Derived.Test.YtobbdeakocgdcaaArSmall
namespace Go.Proofs.Ytobbdeakocgdcaa.Ar
open Go.RowKit Go.Proofs.Ytobbdeakocgdcaa.Bw

def zeroDa : Value := .agg #[.int .u64 0, .bool false, .string ⟨#[]⟩, .slice none 0 0, .string ⟨#[]⟩]
section
variable {w : World} {ρ : Nat → Tg} {base A : Nat} {S : St} {sv fv : Value} {bs : List Nat}

set_option maxHeartbeats 2000000 in
theorem get_yes (h : AP w ρ base A S sv fv bs) (n : Nat) (hn : n < S.sl.length) (hl : (S.get n).live = true) (hbig : bs.length ≤ 1000000) :
    Calls Try.prog 22 #[.pointer (some ⟨A, 0, none⟩), .int .i64 (n : Int)] w fun e w' => ∃ av', e = .returned (.tuple #[(S.get n).da.val av', .bool true]) ∧ w'.ownsRow w.heap.size 61 2 av' (S.get n).attrs.length (attrCells (S.get n).attrs) ∧ Ext w w' := by
  have hn16 : n < 16 * bs.length := Nat.lt_of_lt_of_le hn h.room
  obtain ⟨w2, hw2⟩ : ∃ W, w.alloc (.cells #[.int .u64 0, .bool false, .string ⟨#[]⟩, .slice none 0 0, .string ⟨#[]⟩] 25) = W := ⟨_, rfl⟩
  have hs2 : w2.heap.size = w.heap.size + 1 := by rw [← hw2, World.size_alloc]
  have E2 : Ext w w2 := by rw [← hw2]; exact (Ext.refl _).alloc _
  have B2 : NBox w2 w.heap.size 25 #[.int .u64 0, .bool false, .string ⟨#[]⟩, .slice none 0 0, .string ⟨#[]⟩] := by rw [← hw2]; exact NBox.new _ _ _
  have h12 := Lib.hid hw2
  clear hw2
  have h' := h.ext E2
  have hc := live_yes h' n hn hl hbig
  obtain ⟨b, cs, av, kv, h1, h2, h3, h4, h5, h6⟩ := h'.slot hn16
  have hs : slotAt bs n = ⟨b, n % 16 * 8, none⟩ := by rw [slotAt, h2]
  rw [hs] at hc
  have hown := own_any _ av w2 h6.da
  obtain ⟨aA, ac, rfl, -⟩ := id h6.da.ats
  have c1 : w2.cell? ⟨b, n % 16 * 8 + 1, none⟩ = some (.int .u64 (S.get n).id) := by rw [h3.cell]; exact h5 1 _ rfl
  have c2 : w2.cell? ⟨b, n % 16 * 8 + 2, none⟩ = some (.bool (S.get n).leaf) := by rw [h3.cell]; exact h5 2 _ rfl
  have c3 : w2.cell? ⟨b, n % 16 * 8 + 3, none⟩ = some (.string (S.get n).label) := by rw [h3.cell]; exact h5 3 _ rfl
  have c4 : w2.cell? ⟨b, n % 16 * 8 + 4, none⟩ = some (.slice aA (S.get n).attrs.length ac) := by rw [h3.cell]; exact h5 4 _ rfl
  have c5 : w2.cell? ⟨b, n % 16 * 8 + 5, none⟩ = some (.string (S.get n).text) := by rw [h3.cell]; exact h5 5 _ rfl
  clear h h' h1 h2 h3 h4 h5 h6 hs
  have hda : ∀ v, (S.get n).da.val v = .agg #[.int .u64 (S.get n).id, .bool (S.get n).leaf, .string (S.get n).label, v, .string (S.get n).text] := fun _ => rfl
  have hat : (S.get n).da.attrs = (S.get n).attrs := rfl
  rw [hat] at hown
  simp only [hda] at hown ⊢
  generalize S.get n = s at *
  clear hda hat
  go_enter Try.func22, Try.ntmps22
  go_upto_region 1 with fail
  rw [h12.out]
  go_wp2_with (first
    | (go_at_call 42; refine hc.mono ?_; rintro e w3 ⟨rfl, rfl⟩)
    | (go_at_call 28; refine hown.mono ?_; clear hown c1 c2 c3 c4 c5; rintro e w3 ⟨av, rfl, hO, E3⟩; obtain ⟨A2, c9, rfl, -, -⟩ := owns_slice hO; have P2 := B2.ext E3
       have b0 := P2.cell 0; have b1 := P2.cell 1; have b2 := P2.cell 2; have b3 := P2.cell 3; have b4 := P2.cell 4; have g0 := P2.frozen 0; have g1 := P2.frozen 1; have g2 := P2.frozen 2; have g3 := P2.frozen 3; have g4 := P2.frozen 4))
  have F2 := Fr.set5 w3 w.heap.size (.int .u64 s.id) (.bool s.leaf) (.string s.label) (.slice A2 s.attrs.length c9) (.string s.text) 0 1 2 3 4
  refine bodyPost_ret (results_st2 rfl rfl rfl (NBox.set5 P2 _ _ _ _ _) Try.underlying25 rfl info25) rfl ⟨_, rfl, ?_, ?_⟩
  · exact owns_fr F2 (owns_mono hO (by omega)) (fun g hg h => by have := owns_base hO g hg; omega)
  · exact Fr.ext (E2.trans E3) F2 (fun i h => by omega)
set_option maxHeartbeats 1000000 in
theorem get_no (h : AP w ρ base A S sv fv bs) (n : Int) (hn : ∀ k : Nat, n = (k : Int) → k < S.sl.length → (S.get k).live = false) (hbig : bs.length ≤ 1000000) :
    Calls Try.prog 22 #[.pointer (some ⟨A, 0, none⟩), .int .i64 n] w fun e w' => e = .returned (.tuple #[zeroDa, .bool false]) ∧ Ext w w' := by
  have E2 : Ext w (w.alloc (.cells #[.int .u64 0, .bool false, .string ⟨#[]⟩, .slice none 0 0, .string ⟨#[]⟩] 25)) := (Ext.refl _).alloc _
  have B2 : NBox (w.alloc (.cells #[.int .u64 0, .bool false, .string ⟨#[]⟩, .slice none 0 0, .string ⟨#[]⟩] 25)) w.heap.size 25 #[.int .u64 0, .bool false, .string ⟨#[]⟩, .slice none 0 0, .string ⟨#[]⟩] := NBox.new _ _ _
  have hc := live_no (h.ext E2) n hn hbig
  clear h hn
  obtain ⟨w2, hw2⟩ : ∃ W, w.alloc (.cells #[.int .u64 0, .bool false, .string ⟨#[]⟩, .slice none 0 0, .string ⟨#[]⟩] 25) = W := ⟨_, rfl⟩
  rw [hw2] at E2 B2 hc
  have h12 := Lib.hid hw2
  clear hw2
  have b0 := B2.cell 0; have b1 := B2.cell 1; have b2 := B2.cell 2; have b3 := B2.cell 3; have b4 := B2.cell 4; have g0 := B2.frozen 0; have g1 := B2.frozen 1; have g2 := B2.frozen 2; have g3 := B2.frozen 3; have g4 := B2.frozen 4
  go_enter Try.func22, Try.ntmps22
  go_upto_region 1 with fail
  rw [h12.out]
  go_wp2_with (go_at_call 42; refine hc.mono ?_; rintro e w3 ⟨rfl, rfl⟩)
  exact bodyPost_ret (results_st2 rfl rfl rfl (NBox.set5 B2 _ _ _ _ _) Try.underlying25 rfl info25) rfl ⟨rfl, Fr.ext E2 (Fr.set5 _ w.heap.size _ _ _ _ _ 0 1 2 3 4) (fun i h => by omega)⟩
theorem get_nil (n : Int) (w : World) : Calls Try.prog 22 #[.pointer none, .int .i64 n] w fun e w' => e = .returned (.tuple #[zeroDa, .bool false]) ∧ Ext w w' := by
  have E2 : Ext w (w.alloc (.cells #[.int .u64 0, .bool false, .string ⟨#[]⟩, .slice none 0 0, .string ⟨#[]⟩] 25)) := (Ext.refl _).alloc _
  have B2 : NBox (w.alloc (.cells #[.int .u64 0, .bool false, .string ⟨#[]⟩, .slice none 0 0, .string ⟨#[]⟩] 25)) w.heap.size 25 #[.int .u64 0, .bool false, .string ⟨#[]⟩, .slice none 0 0, .string ⟨#[]⟩] := NBox.new _ _ _
  obtain ⟨w2, hw2⟩ : ∃ W, w.alloc (.cells #[.int .u64 0, .bool false, .string ⟨#[]⟩, .slice none 0 0, .string ⟨#[]⟩] 25) = W := ⟨_, rfl⟩
  rw [hw2] at E2 B2
  have hc := live_nil n w2
  have h12 := Lib.hid hw2
  clear hw2
  have b0 := B2.cell 0; have b1 := B2.cell 1; have b2 := B2.cell 2; have b3 := B2.cell 3; have b4 := B2.cell 4; have g0 := B2.frozen 0; have g1 := B2.frozen 1; have g2 := B2.frozen 2; have g3 := B2.frozen 3; have g4 := B2.frozen 4
  go_enter Try.func22, Try.ntmps22
  go_upto_region 1 with fail
  rw [h12.out]
  go_wp2_with (go_at_call 42; refine hc.mono ?_; rintro e w3 ⟨rfl, rfl⟩)
  exact bodyPost_ret (results_st2 rfl rfl rfl (NBox.set5 B2 _ _ _ _ _) Try.underlying25 rfl info25) rfl ⟨rfl, Fr.ext E2 (Fr.set5 _ w.heap.size _ _ _ _ _ 0 1 2 3 4) (fun i h => by omega)⟩

/-! ### Kids 19, Parent 20, Slots 18, Free 21 -/
set_option maxHeartbeats 1000000 in
theorem kids_yes (h : AP w ρ base A S sv fv bs) (n : Nat) (hn : n < S.sl.length) (hl : (S.get n).live = true) (hbig : bs.length ≤ 1000000) :
    Calls Try.prog 19 #[.pointer (some ⟨A, 0, none⟩), .int .i64 (n : Int)] w fun e w' => ∃ v', e = .returned v' ∧ w'.ownsRow w.heap.size 3 1 v' (S.get n).kids.length (ints (S.get n).kids) ∧ Ext w w' := by
  have hn16 : n < 16 * bs.length := Nat.lt_of_lt_of_le hn h.room
  have hc := live_yes h n hn hl hbig
  obtain ⟨b, cs, av, kv, h1, h2, h3, h4, h5, h6⟩ := h.slot hn16
  have hs : slotAt bs n = ⟨b, n % 16 * 8, none⟩ := by rw [slotAt, h2]
  rw [hs] at hc
  have hcl := cloneI_any kv _ _ w (RdS.of_owns h6.ks) (by have := h.big.2.2 n; omega) (ints_one _)
  obtain ⟨kA, kc, rfl, -, -⟩ := owns_slice h6.ks
  have c7 : w.cell? ⟨b, n % 16 * 8 + 7, none⟩ = some (.slice kA (S.get n).kids.length kc) := by rw [h3.cell]; exact h5 7 _ rfl
  clear h h1 h2 h3 h4 h5 h6 hs
  generalize S.get n = s at *
  go_enter Try.func19, Try.ntmps19
  go_wp2_with (first
    | (go_at_call 42; refine hc.mono ?_; rintro e w3 ⟨rfl, rfl⟩)
    | (go_at_call 43; refine hcl.mono ?_; clear hcl; rintro e w3 ⟨v, rfl, hO, E3⟩))
  go_ret
  exact ⟨v, rfl, hO, E3⟩
theorem kids_no (h : AP w ρ base A S sv fv bs) (n : Int) (hn : ∀ k : Nat, n = (k : Int) → k < S.sl.length → (S.get k).live = false) (hbig : bs.length ≤ 1000000) :
    Calls Try.prog 19 #[.pointer (some ⟨A, 0, none⟩), .int .i64 n] w fun e w' => e = .returned (.slice none 0 0) ∧ w' = w := by
  have hc := live_no h n hn hbig
  clear h hn
  go_enter Try.func19, Try.ntmps19
  go_wp2_with (go_at_call 42; refine hc.mono ?_; rintro e w3 ⟨rfl, rfl⟩)
  go_ret
  exact ⟨rfl, rfl⟩
theorem kids_nil (n : Int) (w : World) : Calls Try.prog 19 #[.pointer none, .int .i64 n] w fun e w' => e = .returned (.slice none 0 0) ∧ w' = w := by
  have hc := live_nil n w
  go_enter Try.func19, Try.ntmps19
  go_wp2_with (go_at_call 42; refine hc.mono ?_; rintro e w3 ⟨rfl, rfl⟩)
  go_ret
  exact ⟨rfl, rfl⟩
theorem parent_yes (h : AP w ρ base A S sv fv bs) (n : Nat) (hn : n < S.sl.length) (hl : (S.get n).live = true) (hbig : bs.length ≤ 1000000) :
    Calls Try.prog 20 #[.pointer (some ⟨A, 0, none⟩), .int .i64 (n : Int)] w fun e w' => e = .returned (.int .i64 (S.get n).parent) ∧ w' = w := by
  have hn16 : n < 16 * bs.length := Nat.lt_of_lt_of_le hn h.room
  have hc := live_yes h n hn hl hbig
  obtain ⟨b, cs, av, kv, h1, h2, h3, h4, h5, h6⟩ := h.slot hn16
  have hs : slotAt bs n = ⟨b, n % 16 * 8, none⟩ := by rw [slotAt, h2]
  rw [hs] at hc
  have c6 : w.cell? ⟨b, n % 16 * 8 + 6, none⟩ = some (.int .i64 (S.get n).parent) := by rw [h3.cell]; exact h5 6 _ rfl
  clear h h1 h2 h3 h4 h5 h6 hs
  go_enter Try.func20, Try.ntmps20
  go_wp2_with (go_at_call 42; refine hc.mono ?_; rintro e w3 ⟨rfl, rfl⟩)
  go_ret
  exact ⟨rfl, rfl⟩
theorem parent_no (h : AP w ρ base A S sv fv bs) (n : Int) (hn : ∀ k : Nat, n = (k : Int) → k < S.sl.length → (S.get k).live = false) (hbig : bs.length ≤ 1000000) :
    Calls Try.prog 20 #[.pointer (some ⟨A, 0, none⟩), .int .i64 n] w fun e w' => e = .returned (.int .i64 (-1)) ∧ w' = w := by
  have hc := live_no h n hn hbig
  clear h hn
  go_enter Try.func20, Try.ntmps20
  go_wp2_with (go_at_call 42; refine hc.mono ?_; rintro e w3 ⟨rfl, rfl⟩)
  go_ret
  exact ⟨rfl, rfl⟩
theorem parent_nil (n : Int) (w : World) : Calls Try.prog 20 #[.pointer none, .int .i64 n] w fun e w' => e = .returned (.int .i64 (-1)) ∧ w' = w := by
  have hc := live_nil n w
  go_enter Try.func20, Try.ntmps20
  go_wp2_with (go_at_call 42; refine hc.mono ?_; rintro e w3 ⟨rfl, rfl⟩)
  go_ret
  exact ⟨rfl, rfl⟩
theorem slots_any (h : AP w ρ base A S sv fv bs) : Calls Try.prog 18 #[.pointer (some ⟨A, 0, none⟩)] w fun e w' => e = .returned (.int .i64 (S.sl.length : Int)) ∧ w' = w := by
  have c1 : w.cell? ⟨A, 1, none⟩ = some (.int .i64 (S.sl.length : Int)) := by rw [h.box.cell]; rfl
  clear h
  go_enter Try.func18, Try.ntmps18
  go_wp2_with fail
  go_ret
  exact ⟨rfl, rfl⟩
theorem slots_nil (w : World) : Calls Try.prog 18 #[.pointer none] w fun e w' => e = .returned (.int .i64 0) ∧ w' = w := by
  go_enter Try.func18, Try.ntmps18
  go_wp2_with fail
  go_ret
  exact ⟨rfl, rfl⟩
theorem free_any (h : AP w ρ base A S sv fv bs) : Calls Try.prog 21 #[.pointer (some ⟨A, 0, none⟩)] w fun e w' => ∃ v', e = .returned v' ∧ w'.ownsRow w.heap.size 3 1 v' S.free.length (ints S.free) ∧ Ext w w' := by
  have hcl := cloneI_any fv _ _ w (RdS.of_owns h.fre) (by have := h.big.2.1; omega) (ints_one _)
  obtain ⟨kA, kc, rfl, -, -⟩ := owns_slice h.fre
  have c2 : w.cell? ⟨A, 2, none⟩ = some (.slice kA S.free.length kc) := by rw [h.box.cell]; rfl
  clear h
  go_enter Try.func21, Try.ntmps21
  go_wp2_with (go_at_call 43; refine hcl.mono ?_; clear hcl; rintro e w3 ⟨v, rfl, hO, E3⟩)
  go_ret
  exact ⟨v, rfl, hO, E3⟩
theorem free_nil (w : World) : Calls Try.prog 21 #[.pointer none] w fun e w' => e = .returned (.slice none 0 0) ∧ w' = w := by
  go_enter Try.func21, Try.ntmps21
  go_wp2_with fail
  go_ret
  exact ⟨rfl, rfl⟩
end
end Go.Proofs.Ytobbdeakocgdcaa.Ar
