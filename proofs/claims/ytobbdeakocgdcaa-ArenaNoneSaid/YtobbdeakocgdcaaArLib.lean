/- Chapter 07: Go's own functions on rows, in this seat: slices.Insert, Delete, Index, Clone. -/
import Derived.Test.YtobbdeakocgdcaaArMem
import Derived.Test.YtobbdeakocgdcaaArShelf
import Derived.WalkSpells
namespace Go.Proofs.Ytobbdeakocgdcaa.Ar
open Go.RowKit Go.Proofs.Ytobbdeakocgdcaa.Bw

theorem T33 : SliceT Try.prog 33 3 (.int .i64 0) 1 8 := SliceT.mk' Try.underlying33 (by kernel_rfl) rfl (by decide)
theorem T23 : SliceT Try.prog 23 61 (.agg #[.string ⟨#[]⟩, .string ⟨#[]⟩]) 2 32 := SliceT.mk' Try.underlying23 (by kernel_rfl) rfl (by decide)

set_option maxHeartbeats 1000000 in
/-- slices.Clone of numbers (43), whatever the slice. -/
theorem cloneI_any (v : Value) (n : Nat) (xs : List Value) (w : World) (hr : RdS w 1 n xs v) (hn : n ≤ 1000000000) (h1 : ∀ u ∈ xs, u.oneCell' = true) :
    Calls Try.prog 43 #[v] w fun e w' => ∃ v', e = .returned v' ∧ w'.ownsRow w.heap.size 3 1 v' n xs ∧ Ext w w' := by
  obtain ⟨A, c, rfl, hl, hnc, hc, hcell⟩ := id hr
  cases A with
  | none =>
    have hn0 : n = 0 := by
      rcases Nat.eq_zero_or_pos n with h | h
      · exact h
      · obtain ⟨b, off, hh, _⟩ := hcell h; cases hh
    subst hn0
    have hx : xs = [] := List.eq_nil_of_length_eq_zero (by simpa using hl)
    subst hx
    clear hr hcell
    have q22 : ∀ w, (binOp .eql 33 (.slice none 0 c) (.slice none 0 0)).run Try.prog w = .ok (.bool true) w := fun w => Lib.run_eql_slice_nil w _ _ none 0 c 0 0 Try.underlying33
    go_enter Try.func43, Try.ntmps43
    go_wp2_with fail
    go_ret
    exact ⟨_, rfl, World.ownsRow_nil _ _ _ _, Ext.refl _⟩
  | some a =>
    have q22 : ∀ w, (binOp .eql 33 (.slice (some a) n c) (.slice none 0 0)).run Try.prog w = .ok (.bool false) w := fun w => Lib.run_eql_slice_nil w _ _ (some a) n c 0 0 Try.underlying33
    have E0 : Ext w (w.alloc (.cells #[] 3)) := (Ext.refl _).alloc _
    have hr2 := Lib.hid (RdS.ext E0 hr)
    clear hr hcell
    go_enter Try.func43, Try.ntmps43
    go_wp2_with (at_builtin; refine wpList_append_rd rfl rfl T33 (v := _) rfl (World.ownsRow_made w #[] 0 (Nat.le_refl _) (Nat.zero_le _) (by simp)) rfl hr2.out h1 (by omega) (by simp only [maxLen]; omega) (by simp [World.size_alloc]) ?_; intro v9 w9 hown hg hat)
    go_ret
    rw [Nat.zero_add, List.nil_append] at hown
    exact ⟨v9, rfl, hown, E0.grown hg (fun k hk => by cases hk; exact Nat.le_refl _)⟩
set_option maxHeartbeats 1000000 in
/-- slices.Clone of attributes (48), whatever the slice. -/
theorem cloneA_any (v : Value) (n : Nat) (xs : List Value) (w : World) (hr : RdS w 2 n xs v) (hn : n ≤ 1000000000) (h1 : ∀ u ∈ xs, u.oneCell' = true) :
    Calls Try.prog 48 #[v] w fun e w' => ∃ v', e = .returned v' ∧ w'.ownsRow w.heap.size 61 2 v' n xs ∧ Ext w w' := by
  obtain ⟨A, c, rfl, hl, hnc, hc, hcell⟩ := id hr
  cases A with
  | none =>
    have hn0 : n = 0 := by
      rcases Nat.eq_zero_or_pos n with h | h
      · exact h
      · obtain ⟨b, off, hh, _⟩ := hcell h; cases hh
    subst hn0
    have hx : xs = [] := List.eq_nil_of_length_eq_zero (by simpa using hl)
    subst hx
    clear hr hcell
    have q22 : ∀ w, (binOp .eql 23 (.slice none 0 c) (.slice none 0 0)).run Try.prog w = .ok (.bool true) w := fun w => Lib.run_eql_slice_nil w _ _ none 0 c 0 0 Try.underlying23
    go_enter Try.func48, Try.ntmps48
    go_wp2_with fail
    go_ret
    exact ⟨_, rfl, World.ownsRow_nil _ _ _ _, Ext.refl _⟩
  | some a =>
    have q22 : ∀ w, (binOp .eql 23 (.slice (some a) n c) (.slice none 0 0)).run Try.prog w = .ok (.bool false) w := fun w => Lib.run_eql_slice_nil w _ _ (some a) n c 0 0 Try.underlying23
    have E0 : Ext w (w.alloc (.cells #[] 61)) := (Ext.refl _).alloc _
    have hr2 := Lib.hid (RdS.ext E0 hr)
    clear hr hcell
    go_enter Try.func48, Try.ntmps48
    go_wp2_with (at_builtin; refine wpList_append_rd rfl rfl T23 (v := _) rfl (World.ownsRow_made w #[] 0 (Nat.le_refl _) (Nat.zero_le _) (by simp)) rfl hr2.out h1 (by omega) (by simp only [maxLen]; omega) (by simp [World.size_alloc]) ?_; intro v9 w9 hown hg hat)
    go_ret
    rw [Nat.zero_add, List.nil_append] at hown
    exact ⟨v9, rfl, hown, E0.grown hg (fun k hk => by cases hk; exact Nat.le_refl _)⟩

/-! ### Index, Delete, Insert -/
/-- The place of a number. -/
theorem idxOf_ints (l : List Nat) (x : Nat) (hx : x ∈ l) : Lib.idxOf (l.map (fun k : Nat => (k : Int))) (x : Int) = (l.idxOf x : Nat) := by
  have hlt := List.idxOf_lt_length_of_mem hx
  have hmap : ∀ j : Nat, j < l.length → (l.map (fun k : Nat => (k : Int))).getD j 0 = ((l[j]?.getD 0 : Nat) : Int) := by
    intro j hj
    simp [List.getD, hj]
  have := Lib.idxOf_hit (l.map (fun k : Nat => (k : Int))) (l.map (fun k : Nat => (k : Int))).length (l.idxOf x) (x : Int) (by simpa using hlt) (Nat.le_refl _)
    (by rw [hmap _ hlt, List.getElem?_eq_getElem hlt, Option.getD_some, List.getElem_idxOf hlt]) (fun j hj => by
      rw [hmap j (by omega), List.getElem?_eq_getElem (by omega), Option.getD_some]
      intro e
      have e' : l[j]'(by omega) = x := Int.ofNat.inj e
      have h2 := List.not_of_lt_findIdx (xs := l) (p := (· == x)) hj
      rw [e'] at h2
      simp at h2)
  rwa [List.take_length] at this

/-- slices.Index (58), at a number that is there. -/
theorem index_any (v : Value) (l : List Nat) (base x : Nat) (w : World) (hr : w.ownsRow base 3 1 v l.length (ints l)) (hx : x ∈ l) (hn : l.length ≤ 1000000000) :
    Calls Try.prog 58 #[v, .int .i64 (x : Int)] w fun e w' => e = .returned (.int .i64 (l.idxOf x : Nat)) ∧ w' = w := by
  rcases owns_form hr with ⟨_, h0, _⟩ | ⟨g, cap, cs, rfl, hb, hbx, h4, h5, h6, h7, h8⟩
  · exact absurd (List.length_pos_of_mem hx) (by omega)
  · have hz : (l.map (fun k : Nat => (k : Int))).length = l.length := by simp
    have := Any.slices_Index_int Try.lays108 g 0 l.length cap (l.map (fun k : Nat => (k : Int))) (x : Int) w (by omega) (by omega) (fun j hj => by
      rw [Nat.zero_add, hbx.cell]
      refine h8 j _ ?_
      rw [hz] at hj
      simp [ints, List.getD, hj])
    rw [show (l.map (fun k : Nat => (k : Int))).take l.length = l.map (fun k : Nat => (k : Int)) by rw [← hz]; exact List.take_length, idxOf_ints l x hx] at this
    exact this
/-- slices.Delete of one (59). -/
theorem delete_any (v : Value) (l : List Nat) (base i : Nat) (w : World) (hr : w.ownsRow base 3 1 v l.length (ints l)) (hi : i < l.length) :
    Calls Try.prog 59 #[v, .int .i64 (i : Int), .int .i64 ((i + 1 : Nat) : Int)] w fun e w' => ∃ v', e = .returned v' ∧ w'.ownsRow base 3 1 v' (l.eraseIdx i).length (ints (l.eraseIdx i)) ∧ Fr w w' (fun k => v.ownBlock = some k) ∧ v'.ownBlock = v.ownBlock := by
  rcases owns_form hr with ⟨_, h0, _⟩ | ⟨g, cap, cs, rfl, hb, hbx, h4, h5, h6, h7, h8⟩
  · omega
  · have hz : (l.map (fun k : Nat => (k : Int))).length = l.length := by simp
    have hl : l.eraseIdx i = l.take i ++ l.drop (i + 1) := List.eraseIdx_eq_take_drop_succ ..
    have hlen : (l.eraseIdx i).length = l.length - 1 := by rw [List.length_eraseIdx, if_pos hi]
    refine (Any.slices_Delete_int_cells Try.laysNm223 g 0 l.length cap i (i + 1) (l.map (fun k : Nat => (k : Int))) w (by omega) h4 (by unfold maxLen at h5; omega) (by omega) (by omega) (fun j hj => by
      rw [Nat.zero_add, hbx.cell]
      refine h8 j _ ?_
      rw [hz] at hj
      simp [ints, List.getD, hj]) (fun j _ => hbx.frozen _)).mono ?_
    rintro e w' ⟨rfl, q, rfl⟩
    have hbq : NBox (w.drewN q) g 3 cs := hbx
    have hval : (((l.map (fun k : Nat => (k : Int))).take l.length).take i ++ ((l.map (fun k : Nat => (k : Int))).take l.length).drop (i + 1) ++ List.replicate (i + 1 - i) 0).map (Value.int .i64) = ints (l.eraseIdx i) ++ [.int .i64 0] := by
      rw [show (l.map (fun k : Nat => (k : Int))).take l.length = l.map (fun k : Nat => (k : Int)) by rw [← hz]; exact List.take_length, hl, show i + 1 - i = 1 by omega]
      simp [ints, Function.comp_def]
    rw [hval]
    refine ⟨_, rfl, ?_, ?_, rfl⟩
    · rw [show l.length - (i + 1 - i) = (l.eraseIdx i).length by omega]
      refine owns_mk hb (hbq.sets _ _) (by omega) h5 (by rw [over_size, h6]) (by rw [ints_len]; omega) (fun j u hu => ?_)
      have hj : j < l.length - 1 := by have := (List.getElem?_eq_some_iff.1 hu).1; rw [ints_len] at this; omega
      have := over_in (ints (l.eraseIdx i) ++ [.int .i64 0]) 0 cs j (by simp [ints_len]; omega) (by simp [ints_len]; omega)
      rw [Nat.zero_add] at this
      rw [this, List.getElem?_append_left (by rw [ints_len]; omega)]
      exact hu
    · have F0 : Fr w (w.drewN q) (fun k => (Value.slice (some ⟨g, 0, none⟩) l.length cap).ownBlock = some k) := ⟨rfl, rfl, rfl, Nat.le_refl _, fun _ _ _ => rfl⟩
      refine F0.trans ((Fr.setCells g _ 0 _).mono (fun k _ hk => by rw [hk]; rfl))
theorem get_mid {L : List Value} {X : Value} {i j : Nat} {u : Value} (hi : i ≤ L.length) (h : (L.take i ++ X :: L.drop i)[j]? = some u) : (j < i ∧ L[j]? = some u) ∨ (j = i ∧ u = X) ∨ (i < j ∧ j ≤ L.length ∧ (L.drop i)[j - (i + 1)]? = some u) := by
  have hl : (L.take i).length = i := by rw [List.length_take]; omega
  rcases Nat.lt_trichotomy j i with h1 | h1 | h1
  · rw [List.getElem?_append_left (by omega), List.getElem?_take_of_lt h1] at h
    exact .inl ⟨h1, h⟩
  · subst h1
    rw [List.getElem?_append_right (by omega), hl, Nat.sub_self] at h
    exact .inr (.inl ⟨rfl, (Option.some.inj h).symm⟩)
  · rw [List.getElem?_append_right (by omega), hl, show j - i = (j - (i + 1)) + 1 by omega, List.getElem?_cons_succ] at h
    have := (List.getElem?_eq_some_iff.1 h).1
    rw [List.length_drop] at this
    exact .inr (.inr ⟨h1, by omega, h⟩)
/-- slices.Insert of one (45). -/
theorem insert_any (v : Value) (l : List Nat) (base i x vb : Nat) (w : World) (hr : w.ownsRow base 3 1 v l.length (ints l)) (hi : i ≤ l.length) (hn : l.length ≤ 1000000000) (hvb : NBox w vb 3 #[.int .i64 (x : Int)]) (hne : v.ownBlock ≠ some vb) (hbase : base ≤ w.heap.size) :
    Calls Try.prog 45 #[v, .int .i64 (i : Int), .slice (some ⟨vb, 0, none⟩) 1 1] w fun e w' => ∃ v', e = .returned v' ∧ w'.ownsRow base 3 1 v' (insAt l i x).length (ints (insAt l i x)) ∧ Fr w w' (fun k => v.ownBlock = some k) ∧ (v'.ownBlock = v.ownBlock ∨ ∃ k, v'.ownBlock = some k ∧ w.heap.size ≤ k) := by
  have hlen : (insAt l i x).length = l.length + 1 := len_insAt
  have hvs : ∀ (j : Nat) (u : Value), ([.int .i64 (x : Int)] : List Value)[j]? = some u → w.cell? ⟨vb, 0 + j, none⟩ = some u := by
    intro j u hu
    rw [Nat.zero_add, hvb.cell]
    simpa using hu
  have h1v : ∀ u ∈ ([.int .i64 (x : Int)] : List Value), u.oneCell' = true := by intro u hu; rw [List.mem_singleton.1 hu]; rfl
  have hins : ints (insAt l i x) = (ints l).take i ++ .int .i64 (x : Int) :: (ints l).drop i := by simp [insAt, ints]
  have hmem : ∀ u ∈ ints l, u.oneCell' = true := ints_one l
  have hil := ints_len l
  have fresh : ∀ (cap' : Nat) (cs' : Array Value) (w' : World), l.length + 1 ≤ cap' → cap' ≤ maxLen → cs'.size = cap' → NBox w' w.heap.size 3 cs' → (∀ (j : Nat) (u : Value), (ints (insAt l i x))[j]? = some u → cs'[j]? = some u) → Ext w w' →
      ∃ v', Ending.returned (.slice (some ⟨w.heap.size, 0, none⟩) (l.length + 1) cap') = .returned v' ∧ w'.ownsRow base 3 1 v' (insAt l i x).length (ints (insAt l i x)) ∧ Fr w w' (fun k => v.ownBlock = some k) ∧ (v'.ownBlock = v.ownBlock ∨ ∃ k, v'.ownBlock = some k ∧ w.heap.size ≤ k) := by
    intro cap' cs' w' h1 h2 h3 h4 h5 h6
    refine ⟨_, rfl, ?_, Fr.of_ext h6 _, .inr ⟨_, rfl, Nat.le_refl _⟩⟩
    rw [hlen]
    exact owns_mk hbase h4 h1 h2 (by omega) (by rw [ints_len, hlen]; omega) h5
  have hcap : ∀ c, grownCap w (l.length + 1) c 3 ≤ maxLen := fun c => grownCap_le_maxLen w _ _ _ (by simp only [maxLen]; omega)
  have hcge : ∀ c, l.length + 1 ≤ grownCap w (l.length + 1) c 3 := fun c => grownCap_ge w _ _ _
  have zc : ∀ k, (Builtin.zeroCells (Value.int .i64 0).cells k).size = k := fun k => by rw [size_zeroCells]; exact Nat.mul_one k
  rcases owns_form hr with ⟨rfl, h0, h0'⟩ | ⟨g, cap, cs, rfl, hb, hbx, h4, h5, h6, h7, h8⟩
  · have hl0 : l = [] := List.eq_nil_of_length_eq_zero h0
    obtain rfl : i = 0 := by omega
    subst hl0
    refine (Any2.slices_Insert_int_end_grow Try.laysNm221 none 0 0 vb 0 1 1 [] [.int .i64 (x : Int)] w (by omega) (by omega) (by omega) (by omega) rfl rfl (fun _ => rfl) (fun a h => by cases h) hvs h1v).mono ?_
    rintro e w' ⟨rfl, rfl⟩
    refine fresh _ _ _ (hcge 0) (hcap 0) ?_ (NBox.new _ _ _) ?_ ((Ext.refl w).drew.alloc _)
    · have := hcge 0
      simp only [Try.laysNm221_ren] at *
      rw [Array.size_append, zc]
      simp at this ⊢; omega
    · intro j u hu
      have hj := (List.getElem?_eq_some_iff.1 hu).1
      rw [ints_len, hlen] at hj
      obtain rfl : j = 0 := by simp at hj; omega
      rw [Array.getElem?_append_left (by simp)]
      rw [hins] at hu
      simpa [ints] using hu
  · have hne' : vb ≠ g := fun e => hne (by rw [e]; rfl)
    have hcs : ∀ (j : Nat) (u : Value), (ints l)[j]? = some u → w.cell? ⟨g, 0 + j, none⟩ = some u := fun j u hu => by rw [Nat.zero_add, hbx.cell]; exact h8 j u hu
    have hsp : ∀ j, j < cap → (w.cell? ⟨g, 0 + j, none⟩).isSome = true := fun j hj => by rw [Nat.zero_add, hbx.cell, Array.getElem?_eq_getElem (by omega)]; rfl
    have hc63 : cap ≤ 9223372036854775807 := by simpa [maxLen] using h5
    rcases Nat.lt_or_ge cap (l.length + 1) with hroom | hroom
    · rcases Nat.lt_or_ge i l.length with hil' | hil'
      · refine (Any2.slices_Insert_int_grow Try.laysNm221 g 0 l.length cap i vb 0 1 1 (ints l) [.int .i64 (x : Int)] w hil' (by omega) h4 hroom (by omega) hil rfl hcs hvs hmem h1v).mono ?_
        rintro e w' ⟨rfl, rfl⟩
        rw [show Try.laysNm221_ren.t 3 = 3 from rfl]
        have hb0 := NBox.new w 3 (((ints l).take i).toArray ++ Builtin.zeroCells (Value.int .i64 0).cells (l.length + 1 - i) ++ Builtin.zeroCells (Value.int .i64 0).cells (grownCap w (l.length + 1) cap 3 - (l.length + 1)))
        have E0 : Ext w (w.alloc (.cells (((ints l).take i).toArray ++ Builtin.zeroCells (Value.int .i64 0).cells (l.length + 1 - i) ++ Builtin.zeroCells (Value.int .i64 0).cells (grownCap w (l.length + 1) cap 3 - (l.length + 1))) 3)) := (Ext.refl w).alloc _
        have hs0 : (((ints l).take i).toArray ++ Builtin.zeroCells (Value.int .i64 0).cells (l.length + 1 - i) ++ Builtin.zeroCells (Value.int .i64 0).cells (grownCap w (l.length + 1) cap 3 - (l.length + 1))).size = grownCap w (l.length + 1) cap 3 := by
          have := hcge cap
          rw [Array.size_append, Array.size_append, zc, zc]
          simp [ints_len]; omega
        have ht : ∀ j, j < i → (((ints l).take i).toArray ++ Builtin.zeroCells (Value.int .i64 0).cells (l.length + 1 - i) ++ Builtin.zeroCells (Value.int .i64 0).cells (grownCap w (l.length + 1) cap 3 - (l.length + 1)))[j]? = (ints l)[j]? := by
          intro j hj
          rw [Array.getElem?_append_left (by rw [Array.size_append]; simp [ints_len]; omega), Array.getElem?_append_left (by simp [ints_len]; omega)]
          rw [List.getElem?_toArray, List.getElem?_take_of_lt hj]
        generalize (((ints l).take i).toArray ++ Builtin.zeroCells (Value.int .i64 0).cells (l.length + 1 - i) ++ Builtin.zeroCells (Value.int .i64 0).cells (grownCap w (l.length + 1) cap 3 - (l.length + 1))) = C at *
        have b1 : NBox ((w.alloc (.cells C 3)).drew.setCells w.heap.size i [.int .i64 (x : Int)]).drew w.heap.size 3 (over C i [.int .i64 (x : Int)]) := NBox.sets (W := (w.alloc (.cells C 3)).drew) _ _ hb0
        have b2 := NBox.sets ((ints l).drop i) (i + 1) b1
        have hge := hcge cap
        refine fresh _ _ _ hge (hcap cap) (by rw [over_size, over_size]; exact hs0) b2 ?_ ?_
        · intro j u hu
          rw [hins] at hu
          rcases get_mid (by omega) hu with ⟨h1, h2⟩ | ⟨h1, h2⟩ | ⟨h1, h2, h3⟩
          · rw [over_out _ _ _ _ (by left; omega), over_out _ _ _ _ (by left; omega), ht j h1]; exact h2
          · subst h1 h2
            rw [over_out _ _ _ _ (by left; omega)]
            have := over_in [.int .i64 (x : Int)] j C 0 (by simp) (by simp; omega)
            simpa using this
          · have := over_in ((ints l).drop i) (i + 1) (over C i [.int .i64 (x : Int)]) (j - (i + 1)) (by rw [List.length_drop]; omega) (by rw [List.length_drop, over_size]; omega)
            rw [show i + 1 + (j - (i + 1)) = j by omega] at this
            rw [this]; exact h3
        · refine Fr.ext E0 (S := fun k => k = w.heap.size) ?_ (fun k hk => by omega)
          refine Fr.trans (B := ((w.alloc (.cells C 3)).drew.setCells w.heap.size i [.int .i64 (x : Int)]).drew) ?_ (Fr.setCells _ _ _ _)
          exact (Fr.trans (Fr.refl _ _).drew (Fr.setCells _ _ _ _)).drew
      · obtain rfl : i = l.length := by omega
        refine (Any2.slices_Insert_int_end_grow Try.laysNm221 (some ⟨g, 0, none⟩) l.length cap vb 0 1 1 (ints l) [.int .i64 (x : Int)] w (by omega) h4 hroom (by omega) hil rfl (fun h => by cases h) (fun a h j u hu => by cases h; rw [Addr.add_lit]; exact hcs j u hu) hvs h1v).mono ?_
        rintro e w' ⟨rfl, rfl⟩
        refine fresh _ _ _ (hcge cap) (hcap cap) ?_ (NBox.new _ _ _) ?_ ((Ext.refl w).drew.alloc _)
        · have := hcge cap
          simp only [Try.laysNm221_ren] at *
          rw [Array.size_append, zc]
          simp [ints_len] at this ⊢; omega
        · intro j u hu
          have hj := (List.getElem?_eq_some_iff.1 hu).1
          rw [ints_len, hlen] at hj
          rw [Array.getElem?_append_left (by simp [ints_len]; omega), List.getElem?_toArray]
          rw [hins, List.take_of_length_le (by omega), List.drop_eq_nil_of_le (by omega)] at hu
          exact hu
    · rcases Nat.lt_or_ge i l.length with hil' | hil'
      · refine (Any2.slices_Insert_int_shift Try.laysNm221 g 0 l.length cap i vb 0 1 1 (ints l) [.int .i64 (x : Int)] w hil' (by omega) hroom hc63 hne' hil rfl hcs (fun j hj => hsp j (by omega)) (fun j _ => hbx.frozen _) hvs hmem h1v 3 3 1 cs.size
          (by simp [World.shape?, show w.heap[vb]? = _ from hvb]) (by simp [World.shape?, show w.heap[g]? = _ from hbx]) (by omega) (hvb.frozen _) (hvb.frozen _)).mono ?_
        rintro e w' ⟨rfl, rfl⟩
        have b1 : NBox (w.drew.setCells g (0 + (i + 1)) ((ints l).drop i)) g 3 (over cs (0 + (i + 1)) ((ints l).drop i)) := NBox.sets (W := w.drew) _ _ hbx
        have b2 := NBox.sets [.int .i64 (x : Int)] (0 + i) b1
        refine ⟨_, rfl, ?_, ?_, .inl rfl⟩
        · rw [hlen]
          refine owns_mk hb b2 (by omega) h5 (by rw [over_size, over_size, h6]) (by rw [ints_len, hlen]; omega) ?_
          intro j u hu
          rw [hins] at hu
          rcases get_mid (by omega) hu with ⟨h1, h2⟩ | ⟨h1, h2⟩ | ⟨h1, h2, h3⟩
          · rw [over_out _ _ _ _ (by left; omega), over_out _ _ _ _ (by left; omega)]; exact h8 j u h2
          · subst h1 h2
            have := over_in [.int .i64 (x : Int)] (0 + j) (over cs (0 + (j + 1)) ((ints l).drop j)) 0 (by simp) (by simp [over_size]; omega)
            simpa using this
          · rw [over_out _ _ _ _ (by right; simp; omega)]
            have := over_in ((ints l).drop i) (0 + (i + 1)) cs (j - (i + 1)) (by rw [List.length_drop]; omega) (by rw [List.length_drop]; omega)
            rw [show 0 + (i + 1) + (j - (i + 1)) = j by omega] at this
            rw [this]; exact h3
        · refine Fr.mono (S := fun k => k = g) ?_ (fun k _ hk => by rw [hk]; rfl)
          exact Fr.trans (Fr.trans (Fr.refl _ _).drew (Fr.setCells _ _ _ _)) (Fr.setCells _ _ _ _)
      · obtain rfl : i = l.length := by omega
        refine (Any2.slices_Insert_int_end_room Try.laysNm221 g 0 l.length cap vb 0 1 1 [.int .i64 (x : Int)] w (by omega) hroom hc63 rfl (fun j hj => by rw [Nat.add_assoc]; exact hsp _ (by omega)) (fun j _ => hbx.frozen _) hvs h1v).mono ?_
        rintro e w' ⟨rfl, rfl⟩
        refine ⟨_, rfl, ?_, ?_, .inl rfl⟩
        · rw [hlen]
          refine owns_mk hb (hbx.sets _ _) (by omega) h5 (by rw [over_size, h6]) (by rw [ints_len, hlen]; omega) ?_
          intro j u hu
          rw [hins] at hu
          rcases get_mid (by omega) hu with ⟨h1, h2⟩ | ⟨h1, h2⟩ | ⟨h1, h2, h3⟩
          · rw [over_out _ _ _ _ (by left; omega)]; exact h8 j u h2
          · subst h1 h2
            have := over_in [.int .i64 (x : Int)] (0 + l.length) cs 0 (by simp) (by simp; omega)
            simpa using this
          · omega
        · exact (Fr.setCells g _ _ _).mono (fun k _ hk => by rw [hk]; rfl)
end Go.Proofs.Ytobbdeakocgdcaa.Ar
