/- Chapter 10: LxView turned to this seat. (Printed by gsyport.py.) -/
import Derived.Test.YtkimbpeapolcbaaSyLxViewP
import Derived.Test.YtkimbpeapolcbaaSyLxRNorm2
import Derived.Deep.CutRange
import Derived.Deep.OwnRows
import Derived.Deep.CutBlock
namespace Go.Proofs.Ytkimbpeapolcbaa.Sy
open Go.RowKit Go.Proofs.Ytkimbpeapolcbaa.Bw Go.Proofs.Ytkimbpeapolcbaa.Bs

theorem make44 (n : Nat) (hn : n ≤ 100000) (W : World) : (Instr.makeSlice 90 (.int .i64 ((n : Int) + 1)) (.int .i64 ((n : Int) + 1))).run Try.prog W = .ok (.slice (some ⟨W.heap.size, 0, none⟩) (n + 1) (n + 1)) (W.alloc (.cells (madeCells #[.string ⟨#[]⟩] (n + 1)) 9)) :=
  run_make_row' (P := Try.prog) 90 9 (.string ⟨#[]⟩) 16 Try.underlying90 (by kernel_rfl) rfl .i64 .i64 (n + 1) (by omega) (by omega) W
theorem make67 (n : Nat) (hn : n ≤ 100000) (W : World) : (Instr.makeSlice 91 (.int .i64 ((n : Int) + 1)) (.int .i64 ((n : Int) + 1))).run Try.prog W = .ok (.slice (some ⟨W.heap.size, 0, none⟩) (n + 1) (n + 1)) (W.alloc (.cells (madeCells #[.bool false] (n + 1)) 4)) :=
  run_make_row' (P := Try.prog) 91 4 (.bool false) 1 Try.underlying91 (by kernel_rfl) rfl .i64 .i64 (n + 1) (by omega) (by omega) W
def strV (P : List ByteArray) : Array Value := (P.map Value.string).toArray
def boolV (D : List Bool) : Array Value := (D.map Value.bool).toArray
theorem made_str (n : Nat) : madeCells #[.string ⟨#[]⟩] n = strV (List.replicate n ⟨#[]⟩) := by
  apply Array.ext'
  simp [madeCells, strV, Nat.mod_one]
  apply List.ext_getElem?
  intro i
  rw [List.getElem?_map, List.getElem?_replicate]
  by_cases h : i < n
  · simp [h]
  · simp [h]
theorem made_bool (n : Nat) : madeCells #[.bool false] n = boolV (List.replicate n false) := by
  apply Array.ext'
  simp [madeCells, boolV, Nat.mod_one]
  apply List.ext_getElem?
  intro i
  rw [List.getElem?_map, List.getElem?_replicate]
  by_cases h : i < n
  · simp [h]
  · simp [h]
theorem strV_set (P : List ByteArray) (i : Nat) (s : ByteArray) : (strV P).setIfInBounds i (.string s) = strV (P.set i s) := by
  unfold strV
  simp
theorem boolV_set (D : List Bool) (i : Nat) (b : Bool) : (boolV D).setIfInBounds i (.bool b) = boolV (D.set i b) := by
  unfold boolV
  simp
theorem strV_get {P : List ByteArray} {i : Nat} {s : ByteArray} (h : P[i]? = some s) : (strV P)[i]? = some (.string s) := by
  unfold strV
  simp [h]
theorem boolV_get {D : List Bool} {i : Nat} {b : Bool} (h : D[i]? = some b) : (boolV D)[i]? = some (.bool b) := by
  unfold boolV
  simp [h]
/-- A view in memory. -/
def VAt (W : World) (P : List ByteArray) (D : List Bool) (v : Value) : Prop :=
  ∃ g1 g2 c1 c2, v = .agg #[.slice (some ⟨g1, 0, none⟩) P.length c1, .slice (some ⟨g2, 0, none⟩) D.length c2] ∧ NBox W g1 9 (strV P) ∧ NBox W g2 4 (boolV D) ∧ P.length ≤ c1 ∧ D.length ≤ c2
theorem NBox.apartX {W : World} {a b : Nat} {t u : TypeId} {cs ds : Array Value} (h : NBox W a t cs) (k : NBox W b u ds) (hne : t ≠ u) : a ≠ b := by
  rintro rfl
  have := h.symm.trans k
  simp at this
  exact hne this.2
set_option maxRecDepth 100000 in
set_option maxHeartbeats 4000000 in
theorem view_any (l : List Pc) (N : Nat) (hN : N ≤ 100000) (v : Value) (w : World) (h : RdP w l v) (nn : Nn l) (hx : extL l ≤ (N : Int)) : Calls Try.prog 66 #[v, .int .i64 N] w fun e w' => ∃ v', e = .returned v' ∧ VAt w' (vGo l 0 (List.replicate (N + 1) ⟨#[]⟩)) (dGo l 0 (List.replicate (N + 1) false)) v' ∧ Ext w w' := by
  obtain ⟨A, c, rfl, a1, a2, a3⟩ := h
  unfold maxLen at a2
  have m44 := fun W => make44 N hN W
  have m67 := fun W => make67 N hN W
  have wN : IntKind.i64.wrap ((N : Int) + 1) = (N : Int) + 1 := by rw [IntKind.wrap_i64]; omega
  go_enter Try.func66, Try.ntmps66
  go_upto_region 1 with fail
  obtain ⟨w1, hw1⟩ : ∃ W, w.alloc (.cells #[.slice none 0 0, .slice none 0 0] 93) = W := ⟨_, rfl⟩
  have E1 : Ext w w1 := by rw [← hw1]; exact (Ext.refl w).alloc _
  have B1 : NBox w1 w.heap.size 93 #[.slice none 0 0, .slice none 0 0] := by rw [← hw1]; exact NBox.new _ _ _
  rw [hw1]
  clear hw1
  go_cut [5] from 9 to 15 (fun s5 wx => ∃ g1 g2 B : Nat, s5 = .pointer (some ⟨B, 0, none⟩) ∧ NBox wx B 93 #[.slice (some ⟨g1, 0, none⟩) (N + 1) (N + 1), .slice (some ⟨g2, 0, none⟩) (N + 1) (N + 1)] ∧ NBox wx g1 9 (strV (List.replicate (N + 1) ⟨#[]⟩)) ∧ NBox wx g2 4 (boolV (List.replicate (N + 1) false)) ∧ w1.heap.size ≤ g1 ∧ w1.heap.size ≤ g2 ∧ w1.heap.size ≤ B ∧ Ext w1 wx)
  case first =>
    refine wp_region_held_drew (S := fun W => Ext w1 W) (by kernel_rfl) (show Ext w1 _ from (Ext.refl w1).drew) (fun hHeld => ?_)
    refine wpAnyH_take (i := 0) (oi := ⟨_, _, _, _, _, _⟩) (v := ?_) rfl (by kernel_rfl) (by kernel_rfl) (by kernel_rfl) (fun _ _ _ h => h) (Or.inl ⟨by rfl, ?_⟩) hHeld ?_
    rotate_left
    · intro w hSw
      go_simp
      all_goals (first | with_reducible rfl | rw [if_pos (by omega)])
    try simp only [Act.put, List.setIfInBounds_toArray, List.set_cons_zero, List.set_cons_succ]
    refine wpAnyH_take (i := 1) (oi := ⟨_, _, _, _, _, _⟩) (v := ?_) rfl (by kernel_rfl) (by kernel_rfl) (by kernel_rfl) (fun _ _ _ h => h) (Or.inl ⟨by rfl, ?_⟩) hHeld ?_
    rotate_left
    · intro w hSw
      go_simp
      all_goals (first | with_reducible rfl | rw [if_pos (by omega)])
    try simp only [Act.put, List.setIfInBounds_toArray, List.set_cons_zero, List.set_cons_succ]
    refine wpAnyH_take (i := 3) (oi := ⟨_, _, _, _, _, _⟩) (v := ?_) rfl (by kernel_rfl) (by kernel_rfl) (by kernel_rfl) (fun _ _ _ h => h) (Or.inl ⟨by rfl, ?_⟩) hHeld ?_
    rotate_left
    · intro w hSw
      go_simp
      all_goals (first | with_reducible rfl | rw [if_pos (by omega)])
    try simp only [Act.put, List.setIfInBounds_toArray, List.set_cons_zero, List.set_cons_succ]
    refine wpAnyH_take (i := 4) (oi := ⟨_, _, _, _, _, _⟩) (v := ?_) rfl (by kernel_rfl) (by kernel_rfl) (by kernel_rfl) (fun _ _ _ h => h) (Or.inl ⟨by rfl, ?_⟩) hHeld ?_
    rotate_left
    · intro w hSw
      go_simp
      all_goals (first | with_reducible rfl | rw [if_pos (by omega)])
    try simp only [Act.put, List.setIfInBounds_toArray, List.set_cons_zero, List.set_cons_succ]
    refine wpAnyH_ready (rs := [2, 5, 7]) (by kernel_rfl) (by simp) ?_
    refine AllReadyH.cons (o := ⟨_, _, _, _, _, _⟩) rfl (fun K' hK => ?_) (AllReadyH.cons (o := ⟨_, _, _, _, _, _⟩) rfl (fun K' hK => ?_) (AllReadyH.cons (o := ⟨_, _, _, _, _, _⟩) rfl (fun K' hK => ?_) (AllReadyH.nil)))
    · go_simp
      obtain ⟨bG1, hbG1⟩ : ∃ b, w1.heap.size = b := ⟨_, rfl⟩
      have lG1 : w1.heap.size ≤ bG1 := by rw [← hbG1]; exact hHeld.size
      have G1 : NBox ((w1.alloc (.cells (madeCells #[.string ⟨#[]⟩] (N + 1)) 9)).drew) bG1 9 (madeCells #[.string ⟨#[]⟩] (N + 1)) := by rw [← hbG1]; exact NBox.new _ _ _
      refine hK.out _ _ (show Ext w1 ((w1.alloc (.cells (madeCells #[.string ⟨#[]⟩] (N + 1)) 9)).drew) from ((Ext.refl w1).alloc _).drew) (fun hHeld => ?_)
      clear hK K'
      try simp only [Act.put, List.setIfInBounds_toArray, List.set_cons_zero, List.set_cons_succ]
      obtain ⟨d1, hd⟩ : ∃ d, ((w1.alloc (.cells (madeCells #[.string ⟨#[]⟩] (N + 1)) 9)).drew) = d := ⟨_, rfl⟩
      have Xd1 : Ext w1 d1 := by rw [← hd]; exact ((Ext.refl w1).alloc _).drew
      rw [hd] at hHeld G1
      rw [hd]
      try rw [hbG1]
      clear hd
      refine wpAnyH_ready (rs := [5, 7]) (by kernel_rfl) (by simp) ?_
      refine AllReadyH.cons (o := ⟨_, _, _, _, _, _⟩) rfl (fun K' hK => ?_) (AllReadyH.cons (o := ⟨_, _, _, _, _, _⟩) rfl (fun K' hK => ?_) (AllReadyH.nil))
      · go_simp
        obtain ⟨bG2, hbG2⟩ : ∃ b, d1.heap.size = b := ⟨_, rfl⟩
        have lG2 : w1.heap.size ≤ bG2 := by rw [← hbG2]; exact hHeld.size
        have G2 : NBox (d1.alloc (.cells (madeCells #[.bool false] (N + 1)) 4)) bG2 4 (madeCells #[.bool false] (N + 1)) := by rw [← hbG2]; exact NBox.new _ _ _
        refine hK.out _ _ (show Ext w1 (d1.alloc (.cells (madeCells #[.bool false] (N + 1)) 4)) from hHeld.alloc _) (fun hHeld => ?_)
        clear hK K'
        try simp only [Act.put, List.setIfInBounds_toArray, List.set_cons_zero, List.set_cons_succ]
        obtain ⟨d2, hd⟩ : ∃ d, (d1.alloc (.cells (madeCells #[.bool false] (N + 1)) 4)) = d := ⟨_, rfl⟩
        have Xd2 : Ext d1 d2 := by rw [← hd]; exact (Ext.refl d1).alloc _
        rw [hd] at hHeld G2
        rw [hd]
        try rw [hbG2]
        have ltG1G2 := G1.lt
        replace G1 := G1.ext Xd2
        clear hd
        refine wpAnyH_take (i := 6) (oi := ⟨_, _, _, _, _, _⟩) (v := ?_) rfl (by kernel_rfl) (by kernel_rfl) (by kernel_rfl) (fun _ _ _ h => h) (Or.inl ⟨by rfl, ?_⟩) hHeld ?_
        rotate_left
        · intro w hSw
          go_simp
          all_goals (first | with_reducible rfl | rw [if_pos (by omega)])
        try simp only [Act.put, List.setIfInBounds_toArray, List.set_cons_zero, List.set_cons_succ]
        refine wpAnyH_ready (rs := [7]) (by kernel_rfl) (by simp) ?_
        refine AllReadyH.cons (o := ⟨_, _, _, _, _, _⟩) rfl (fun K' hK => ?_) (AllReadyH.nil)
        go_simp
        obtain ⟨bGB, hbGB⟩ : ∃ b, d2.heap.size = b := ⟨_, rfl⟩
        have lGB : w1.heap.size ≤ bGB := by rw [← hbGB]; exact hHeld.size
        have GB : NBox (d2.alloc (.cells #[.slice none 0 0, .slice none 0 0] 93)) bGB 93 (#[.slice none 0 0, .slice none 0 0]) := by rw [← hbGB]; exact NBox.new _ _ _
        refine hK.out _ _ (show Ext w1 (d2.alloc (.cells #[.slice none 0 0, .slice none 0 0] 93)) from hHeld.alloc _) (fun hHeld => ?_)
        clear hK K'
        try simp only [Act.put, List.setIfInBounds_toArray, List.set_cons_zero, List.set_cons_succ]
        obtain ⟨d3, hd⟩ : ∃ d, (d2.alloc (.cells #[.slice none 0 0, .slice none 0 0] 93)) = d := ⟨_, rfl⟩
        have Xd3 : Ext d2 d3 := by rw [← hd]; exact (Ext.refl d2).alloc _
        rw [hd] at hHeld GB
        rw [hd]
        try rw [hbGB]
        have ltG1GB := G1.lt
        replace G1 := G1.ext Xd3
        have ltG2GB := G2.lt
        replace G2 := G2.ext Xd3
        clear hd
        refine wpAnyH_ready (rs := [8]) (by kernel_rfl) (by simp) ?_
        refine AllReadyH.cons (o := ⟨_, _, _, _, _, _⟩) rfl (fun K' hK => ?_) (AllReadyH.nil)
        have z0 := GB.cell 0
        have z1 := GB.cell 1
        have z2 := GB.frozen 0
        have z3 := GB.frozen 1
        go_simp
        have b1 := NBox.set (NBox.set GB 0 (.slice (some ⟨bG1, 0, none⟩) (N + 1) (N + 1))) 1 (.slice (some ⟨bG2, 0, none⟩) (N + 1) (N + 1))
        have F := (Fr.setCell d3 bGB 0 (.slice (some ⟨bG1, 0, none⟩) (N + 1) (N + 1))).trans (Fr.setCell _ bGB 1 (.slice (some ⟨bG2, 0, none⟩) (N + 1) (N + 1)))
        have n1 := G1.fr F (by omega)
        have n2 := G2.fr F (by omega)
        have E9 := Fr.ext hHeld F (fun k hk => by omega)
        refine hK.out _ _ E9 (fun hHeld => ?_)
        clear hK K' z0 z1 z2 z3
        try simp only [Act.put, List.setIfInBounds_toArray, List.set_cons_zero, List.set_cons_succ]
        refine wpAnyH_done (by kernel_rfl) ?_ _
        go_wp2_with fail
        go_meet
        exact ⟨bG1, bG2, bGB, rfl, b1, by rw [← made_str]; exact n1, by rw [← made_bool]; exact n2, by omega, by omega, by omega, E9⟩
      · go_simp
        obtain ⟨bGB, hbGB⟩ : ∃ b, d1.heap.size = b := ⟨_, rfl⟩
        have lGB : w1.heap.size ≤ bGB := by rw [← hbGB]; exact hHeld.size
        have GB : NBox (d1.alloc (.cells #[.slice none 0 0, .slice none 0 0] 93)) bGB 93 (#[.slice none 0 0, .slice none 0 0]) := by rw [← hbGB]; exact NBox.new _ _ _
        refine hK.out _ _ (show Ext w1 (d1.alloc (.cells #[.slice none 0 0, .slice none 0 0] 93)) from hHeld.alloc _) (fun hHeld => ?_)
        clear hK K'
        try simp only [Act.put, List.setIfInBounds_toArray, List.set_cons_zero, List.set_cons_succ]
        obtain ⟨d4, hd⟩ : ∃ d, (d1.alloc (.cells #[.slice none 0 0, .slice none 0 0] 93)) = d := ⟨_, rfl⟩
        have Xd4 : Ext d1 d4 := by rw [← hd]; exact (Ext.refl d1).alloc _
        rw [hd] at hHeld GB
        rw [hd]
        try rw [hbGB]
        have ltG1GB := G1.lt
        replace G1 := G1.ext Xd4
        clear hd
        refine wpAnyH_ready (rs := [5]) (by kernel_rfl) (by simp) ?_
        refine AllReadyH.cons (o := ⟨_, _, _, _, _, _⟩) rfl (fun K' hK => ?_) (AllReadyH.nil)
        go_simp
        obtain ⟨bG2, hbG2⟩ : ∃ b, d4.heap.size = b := ⟨_, rfl⟩
        have lG2 : w1.heap.size ≤ bG2 := by rw [← hbG2]; exact hHeld.size
        have G2 : NBox (d4.alloc (.cells (madeCells #[.bool false] (N + 1)) 4)) bG2 4 (madeCells #[.bool false] (N + 1)) := by rw [← hbG2]; exact NBox.new _ _ _
        refine hK.out _ _ (show Ext w1 (d4.alloc (.cells (madeCells #[.bool false] (N + 1)) 4)) from hHeld.alloc _) (fun hHeld => ?_)
        clear hK K'
        try simp only [Act.put, List.setIfInBounds_toArray, List.set_cons_zero, List.set_cons_succ]
        obtain ⟨d5, hd⟩ : ∃ d, (d4.alloc (.cells (madeCells #[.bool false] (N + 1)) 4)) = d := ⟨_, rfl⟩
        have Xd5 : Ext d4 d5 := by rw [← hd]; exact (Ext.refl d4).alloc _
        rw [hd] at hHeld G2
        rw [hd]
        try rw [hbG2]
        have ltG1G2 := G1.lt
        replace G1 := G1.ext Xd5
        have ltGBG2 := GB.lt
        replace GB := GB.ext Xd5
        clear hd
        refine wpAnyH_take (i := 6) (oi := ⟨_, _, _, _, _, _⟩) (v := ?_) rfl (by kernel_rfl) (by kernel_rfl) (by kernel_rfl) (fun _ _ _ h => h) (Or.inl ⟨by rfl, ?_⟩) hHeld ?_
        rotate_left
        · intro w hSw
          go_simp
          all_goals (first | with_reducible rfl | rw [if_pos (by omega)])
        try simp only [Act.put, List.setIfInBounds_toArray, List.set_cons_zero, List.set_cons_succ]
        refine wpAnyH_ready (rs := [8]) (by kernel_rfl) (by simp) ?_
        refine AllReadyH.cons (o := ⟨_, _, _, _, _, _⟩) rfl (fun K' hK => ?_) (AllReadyH.nil)
        have z0 := GB.cell 0
        have z1 := GB.cell 1
        have z2 := GB.frozen 0
        have z3 := GB.frozen 1
        go_simp
        have b1 := NBox.set (NBox.set GB 0 (.slice (some ⟨bG1, 0, none⟩) (N + 1) (N + 1))) 1 (.slice (some ⟨bG2, 0, none⟩) (N + 1) (N + 1))
        have F := (Fr.setCell d5 bGB 0 (.slice (some ⟨bG1, 0, none⟩) (N + 1) (N + 1))).trans (Fr.setCell _ bGB 1 (.slice (some ⟨bG2, 0, none⟩) (N + 1) (N + 1)))
        have n1 := G1.fr F (by omega)
        have n2 := G2.fr F (by omega)
        have E9 := Fr.ext hHeld F (fun k hk => by omega)
        refine hK.out _ _ E9 (fun hHeld => ?_)
        clear hK K' z0 z1 z2 z3
        try simp only [Act.put, List.setIfInBounds_toArray, List.set_cons_zero, List.set_cons_succ]
        refine wpAnyH_done (by kernel_rfl) ?_ _
        go_wp2_with fail
        go_meet
        exact ⟨bG1, bG2, bGB, rfl, b1, by rw [← made_str]; exact n1, by rw [← made_bool]; exact n2, by omega, by omega, by omega, E9⟩
    · go_simp
      obtain ⟨bG2, hbG2⟩ : ∃ b, w1.heap.size = b := ⟨_, rfl⟩
      have lG2 : w1.heap.size ≤ bG2 := by rw [← hbG2]; exact hHeld.size
      have G2 : NBox ((w1.alloc (.cells (madeCells #[.bool false] (N + 1)) 4)).drew) bG2 4 (madeCells #[.bool false] (N + 1)) := by rw [← hbG2]; exact NBox.new _ _ _
      refine hK.out _ _ (show Ext w1 ((w1.alloc (.cells (madeCells #[.bool false] (N + 1)) 4)).drew) from ((Ext.refl w1).alloc _).drew) (fun hHeld => ?_)
      clear hK K'
      try simp only [Act.put, List.setIfInBounds_toArray, List.set_cons_zero, List.set_cons_succ]
      obtain ⟨d6, hd⟩ : ∃ d, ((w1.alloc (.cells (madeCells #[.bool false] (N + 1)) 4)).drew) = d := ⟨_, rfl⟩
      have Xd6 : Ext w1 d6 := by rw [← hd]; exact ((Ext.refl w1).alloc _).drew
      rw [hd] at hHeld G2
      rw [hd]
      try rw [hbG2]
      clear hd
      refine wpAnyH_ready (rs := [2, 7]) (by kernel_rfl) (by simp) ?_
      refine AllReadyH.cons (o := ⟨_, _, _, _, _, _⟩) rfl (fun K' hK => ?_) (AllReadyH.cons (o := ⟨_, _, _, _, _, _⟩) rfl (fun K' hK => ?_) (AllReadyH.nil))
      · go_simp
        obtain ⟨bG1, hbG1⟩ : ∃ b, d6.heap.size = b := ⟨_, rfl⟩
        have lG1 : w1.heap.size ≤ bG1 := by rw [← hbG1]; exact hHeld.size
        have G1 : NBox (d6.alloc (.cells (madeCells #[.string ⟨#[]⟩] (N + 1)) 9)) bG1 9 (madeCells #[.string ⟨#[]⟩] (N + 1)) := by rw [← hbG1]; exact NBox.new _ _ _
        refine hK.out _ _ (show Ext w1 (d6.alloc (.cells (madeCells #[.string ⟨#[]⟩] (N + 1)) 9)) from hHeld.alloc _) (fun hHeld => ?_)
        clear hK K'
        try simp only [Act.put, List.setIfInBounds_toArray, List.set_cons_zero, List.set_cons_succ]
        obtain ⟨d7, hd⟩ : ∃ d, (d6.alloc (.cells (madeCells #[.string ⟨#[]⟩] (N + 1)) 9)) = d := ⟨_, rfl⟩
        have Xd7 : Ext d6 d7 := by rw [← hd]; exact (Ext.refl d6).alloc _
        rw [hd] at hHeld G1
        rw [hd]
        try rw [hbG1]
        have ltG2G1 := G2.lt
        replace G2 := G2.ext Xd7
        clear hd
        refine wpAnyH_take (i := 6) (oi := ⟨_, _, _, _, _, _⟩) (v := ?_) rfl (by kernel_rfl) (by kernel_rfl) (by kernel_rfl) (fun _ _ _ h => h) (Or.inl ⟨by rfl, ?_⟩) hHeld ?_
        rotate_left
        · intro w hSw
          go_simp
          all_goals (first | with_reducible rfl | rw [if_pos (by omega)])
        try simp only [Act.put, List.setIfInBounds_toArray, List.set_cons_zero, List.set_cons_succ]
        refine wpAnyH_ready (rs := [7]) (by kernel_rfl) (by simp) ?_
        refine AllReadyH.cons (o := ⟨_, _, _, _, _, _⟩) rfl (fun K' hK => ?_) (AllReadyH.nil)
        go_simp
        obtain ⟨bGB, hbGB⟩ : ∃ b, d7.heap.size = b := ⟨_, rfl⟩
        have lGB : w1.heap.size ≤ bGB := by rw [← hbGB]; exact hHeld.size
        have GB : NBox (d7.alloc (.cells #[.slice none 0 0, .slice none 0 0] 93)) bGB 93 (#[.slice none 0 0, .slice none 0 0]) := by rw [← hbGB]; exact NBox.new _ _ _
        refine hK.out _ _ (show Ext w1 (d7.alloc (.cells #[.slice none 0 0, .slice none 0 0] 93)) from hHeld.alloc _) (fun hHeld => ?_)
        clear hK K'
        try simp only [Act.put, List.setIfInBounds_toArray, List.set_cons_zero, List.set_cons_succ]
        obtain ⟨d8, hd⟩ : ∃ d, (d7.alloc (.cells #[.slice none 0 0, .slice none 0 0] 93)) = d := ⟨_, rfl⟩
        have Xd8 : Ext d7 d8 := by rw [← hd]; exact (Ext.refl d7).alloc _
        rw [hd] at hHeld GB
        rw [hd]
        try rw [hbGB]
        have ltG2GB := G2.lt
        replace G2 := G2.ext Xd8
        have ltG1GB := G1.lt
        replace G1 := G1.ext Xd8
        clear hd
        refine wpAnyH_ready (rs := [8]) (by kernel_rfl) (by simp) ?_
        refine AllReadyH.cons (o := ⟨_, _, _, _, _, _⟩) rfl (fun K' hK => ?_) (AllReadyH.nil)
        have z0 := GB.cell 0
        have z1 := GB.cell 1
        have z2 := GB.frozen 0
        have z3 := GB.frozen 1
        go_simp
        have b1 := NBox.set (NBox.set GB 0 (.slice (some ⟨bG1, 0, none⟩) (N + 1) (N + 1))) 1 (.slice (some ⟨bG2, 0, none⟩) (N + 1) (N + 1))
        have F := (Fr.setCell d8 bGB 0 (.slice (some ⟨bG1, 0, none⟩) (N + 1) (N + 1))).trans (Fr.setCell _ bGB 1 (.slice (some ⟨bG2, 0, none⟩) (N + 1) (N + 1)))
        have n1 := G1.fr F (by omega)
        have n2 := G2.fr F (by omega)
        have E9 := Fr.ext hHeld F (fun k hk => by omega)
        refine hK.out _ _ E9 (fun hHeld => ?_)
        clear hK K' z0 z1 z2 z3
        try simp only [Act.put, List.setIfInBounds_toArray, List.set_cons_zero, List.set_cons_succ]
        refine wpAnyH_done (by kernel_rfl) ?_ _
        go_wp2_with fail
        go_meet
        exact ⟨bG1, bG2, bGB, rfl, b1, by rw [← made_str]; exact n1, by rw [← made_bool]; exact n2, by omega, by omega, by omega, E9⟩
      · go_simp
        obtain ⟨bGB, hbGB⟩ : ∃ b, d6.heap.size = b := ⟨_, rfl⟩
        have lGB : w1.heap.size ≤ bGB := by rw [← hbGB]; exact hHeld.size
        have GB : NBox (d6.alloc (.cells #[.slice none 0 0, .slice none 0 0] 93)) bGB 93 (#[.slice none 0 0, .slice none 0 0]) := by rw [← hbGB]; exact NBox.new _ _ _
        refine hK.out _ _ (show Ext w1 (d6.alloc (.cells #[.slice none 0 0, .slice none 0 0] 93)) from hHeld.alloc _) (fun hHeld => ?_)
        clear hK K'
        try simp only [Act.put, List.setIfInBounds_toArray, List.set_cons_zero, List.set_cons_succ]
        obtain ⟨d9, hd⟩ : ∃ d, (d6.alloc (.cells #[.slice none 0 0, .slice none 0 0] 93)) = d := ⟨_, rfl⟩
        have Xd9 : Ext d6 d9 := by rw [← hd]; exact (Ext.refl d6).alloc _
        rw [hd] at hHeld GB
        rw [hd]
        try rw [hbGB]
        have ltG2GB := G2.lt
        replace G2 := G2.ext Xd9
        clear hd
        refine wpAnyH_ready (rs := [2]) (by kernel_rfl) (by simp) ?_
        refine AllReadyH.cons (o := ⟨_, _, _, _, _, _⟩) rfl (fun K' hK => ?_) (AllReadyH.nil)
        go_simp
        obtain ⟨bG1, hbG1⟩ : ∃ b, d9.heap.size = b := ⟨_, rfl⟩
        have lG1 : w1.heap.size ≤ bG1 := by rw [← hbG1]; exact hHeld.size
        have G1 : NBox (d9.alloc (.cells (madeCells #[.string ⟨#[]⟩] (N + 1)) 9)) bG1 9 (madeCells #[.string ⟨#[]⟩] (N + 1)) := by rw [← hbG1]; exact NBox.new _ _ _
        refine hK.out _ _ (show Ext w1 (d9.alloc (.cells (madeCells #[.string ⟨#[]⟩] (N + 1)) 9)) from hHeld.alloc _) (fun hHeld => ?_)
        clear hK K'
        try simp only [Act.put, List.setIfInBounds_toArray, List.set_cons_zero, List.set_cons_succ]
        obtain ⟨d10, hd⟩ : ∃ d, (d9.alloc (.cells (madeCells #[.string ⟨#[]⟩] (N + 1)) 9)) = d := ⟨_, rfl⟩
        have Xd10 : Ext d9 d10 := by rw [← hd]; exact (Ext.refl d9).alloc _
        rw [hd] at hHeld G1
        rw [hd]
        try rw [hbG1]
        have ltG2G1 := G2.lt
        replace G2 := G2.ext Xd10
        have ltGBG1 := GB.lt
        replace GB := GB.ext Xd10
        clear hd
        refine wpAnyH_take (i := 6) (oi := ⟨_, _, _, _, _, _⟩) (v := ?_) rfl (by kernel_rfl) (by kernel_rfl) (by kernel_rfl) (fun _ _ _ h => h) (Or.inl ⟨by rfl, ?_⟩) hHeld ?_
        rotate_left
        · intro w hSw
          go_simp
          all_goals (first | with_reducible rfl | rw [if_pos (by omega)])
        try simp only [Act.put, List.setIfInBounds_toArray, List.set_cons_zero, List.set_cons_succ]
        refine wpAnyH_ready (rs := [8]) (by kernel_rfl) (by simp) ?_
        refine AllReadyH.cons (o := ⟨_, _, _, _, _, _⟩) rfl (fun K' hK => ?_) (AllReadyH.nil)
        have z0 := GB.cell 0
        have z1 := GB.cell 1
        have z2 := GB.frozen 0
        have z3 := GB.frozen 1
        go_simp
        have b1 := NBox.set (NBox.set GB 0 (.slice (some ⟨bG1, 0, none⟩) (N + 1) (N + 1))) 1 (.slice (some ⟨bG2, 0, none⟩) (N + 1) (N + 1))
        have F := (Fr.setCell d10 bGB 0 (.slice (some ⟨bG1, 0, none⟩) (N + 1) (N + 1))).trans (Fr.setCell _ bGB 1 (.slice (some ⟨bG2, 0, none⟩) (N + 1) (N + 1)))
        have n1 := G1.fr F (by omega)
        have n2 := G2.fr F (by omega)
        have E9 := Fr.ext hHeld F (fun k hk => by omega)
        refine hK.out _ _ E9 (fun hHeld => ?_)
        clear hK K' z0 z1 z2 z3
        try simp only [Act.put, List.setIfInBounds_toArray, List.set_cons_zero, List.set_cons_succ]
        refine wpAnyH_done (by kernel_rfl) ?_ _
        go_wp2_with fail
        go_meet
        exact ⟨bG1, bG2, bGB, rfl, b1, by rw [← made_str]; exact n1, by rw [← made_bool]; exact n2, by omega, by omega, by omega, E9⟩
    · go_simp
      obtain ⟨bGB, hbGB⟩ : ∃ b, w1.heap.size = b := ⟨_, rfl⟩
      have lGB : w1.heap.size ≤ bGB := by rw [← hbGB]; exact hHeld.size
      have GB : NBox ((w1.alloc (.cells #[.slice none 0 0, .slice none 0 0] 93)).drew) bGB 93 (#[.slice none 0 0, .slice none 0 0]) := by rw [← hbGB]; exact NBox.new _ _ _
      refine hK.out _ _ (show Ext w1 ((w1.alloc (.cells #[.slice none 0 0, .slice none 0 0] 93)).drew) from ((Ext.refl w1).alloc _).drew) (fun hHeld => ?_)
      clear hK K'
      try simp only [Act.put, List.setIfInBounds_toArray, List.set_cons_zero, List.set_cons_succ]
      obtain ⟨d11, hd⟩ : ∃ d, ((w1.alloc (.cells #[.slice none 0 0, .slice none 0 0] 93)).drew) = d := ⟨_, rfl⟩
      have Xd11 : Ext w1 d11 := by rw [← hd]; exact ((Ext.refl w1).alloc _).drew
      rw [hd] at hHeld GB
      rw [hd]
      try rw [hbGB]
      clear hd
      refine wpAnyH_ready (rs := [2, 5]) (by kernel_rfl) (by simp) ?_
      refine AllReadyH.cons (o := ⟨_, _, _, _, _, _⟩) rfl (fun K' hK => ?_) (AllReadyH.cons (o := ⟨_, _, _, _, _, _⟩) rfl (fun K' hK => ?_) (AllReadyH.nil))
      · go_simp
        obtain ⟨bG1, hbG1⟩ : ∃ b, d11.heap.size = b := ⟨_, rfl⟩
        have lG1 : w1.heap.size ≤ bG1 := by rw [← hbG1]; exact hHeld.size
        have G1 : NBox (d11.alloc (.cells (madeCells #[.string ⟨#[]⟩] (N + 1)) 9)) bG1 9 (madeCells #[.string ⟨#[]⟩] (N + 1)) := by rw [← hbG1]; exact NBox.new _ _ _
        refine hK.out _ _ (show Ext w1 (d11.alloc (.cells (madeCells #[.string ⟨#[]⟩] (N + 1)) 9)) from hHeld.alloc _) (fun hHeld => ?_)
        clear hK K'
        try simp only [Act.put, List.setIfInBounds_toArray, List.set_cons_zero, List.set_cons_succ]
        obtain ⟨d12, hd⟩ : ∃ d, (d11.alloc (.cells (madeCells #[.string ⟨#[]⟩] (N + 1)) 9)) = d := ⟨_, rfl⟩
        have Xd12 : Ext d11 d12 := by rw [← hd]; exact (Ext.refl d11).alloc _
        rw [hd] at hHeld G1
        rw [hd]
        try rw [hbG1]
        have ltGBG1 := GB.lt
        replace GB := GB.ext Xd12
        clear hd
        refine wpAnyH_ready (rs := [5]) (by kernel_rfl) (by simp) ?_
        refine AllReadyH.cons (o := ⟨_, _, _, _, _, _⟩) rfl (fun K' hK => ?_) (AllReadyH.nil)
        go_simp
        obtain ⟨bG2, hbG2⟩ : ∃ b, d12.heap.size = b := ⟨_, rfl⟩
        have lG2 : w1.heap.size ≤ bG2 := by rw [← hbG2]; exact hHeld.size
        have G2 : NBox (d12.alloc (.cells (madeCells #[.bool false] (N + 1)) 4)) bG2 4 (madeCells #[.bool false] (N + 1)) := by rw [← hbG2]; exact NBox.new _ _ _
        refine hK.out _ _ (show Ext w1 (d12.alloc (.cells (madeCells #[.bool false] (N + 1)) 4)) from hHeld.alloc _) (fun hHeld => ?_)
        clear hK K'
        try simp only [Act.put, List.setIfInBounds_toArray, List.set_cons_zero, List.set_cons_succ]
        obtain ⟨d13, hd⟩ : ∃ d, (d12.alloc (.cells (madeCells #[.bool false] (N + 1)) 4)) = d := ⟨_, rfl⟩
        have Xd13 : Ext d12 d13 := by rw [← hd]; exact (Ext.refl d12).alloc _
        rw [hd] at hHeld G2
        rw [hd]
        try rw [hbG2]
        have ltGBG2 := GB.lt
        replace GB := GB.ext Xd13
        have ltG1G2 := G1.lt
        replace G1 := G1.ext Xd13
        clear hd
        refine wpAnyH_take (i := 6) (oi := ⟨_, _, _, _, _, _⟩) (v := ?_) rfl (by kernel_rfl) (by kernel_rfl) (by kernel_rfl) (fun _ _ _ h => h) (Or.inl ⟨by rfl, ?_⟩) hHeld ?_
        rotate_left
        · intro w hSw
          go_simp
          all_goals (first | with_reducible rfl | rw [if_pos (by omega)])
        try simp only [Act.put, List.setIfInBounds_toArray, List.set_cons_zero, List.set_cons_succ]
        refine wpAnyH_ready (rs := [8]) (by kernel_rfl) (by simp) ?_
        refine AllReadyH.cons (o := ⟨_, _, _, _, _, _⟩) rfl (fun K' hK => ?_) (AllReadyH.nil)
        have z0 := GB.cell 0
        have z1 := GB.cell 1
        have z2 := GB.frozen 0
        have z3 := GB.frozen 1
        go_simp
        have b1 := NBox.set (NBox.set GB 0 (.slice (some ⟨bG1, 0, none⟩) (N + 1) (N + 1))) 1 (.slice (some ⟨bG2, 0, none⟩) (N + 1) (N + 1))
        have F := (Fr.setCell d13 bGB 0 (.slice (some ⟨bG1, 0, none⟩) (N + 1) (N + 1))).trans (Fr.setCell _ bGB 1 (.slice (some ⟨bG2, 0, none⟩) (N + 1) (N + 1)))
        have n1 := G1.fr F (by omega)
        have n2 := G2.fr F (by omega)
        have E9 := Fr.ext hHeld F (fun k hk => by omega)
        refine hK.out _ _ E9 (fun hHeld => ?_)
        clear hK K' z0 z1 z2 z3
        try simp only [Act.put, List.setIfInBounds_toArray, List.set_cons_zero, List.set_cons_succ]
        refine wpAnyH_done (by kernel_rfl) ?_ _
        go_wp2_with fail
        go_meet
        exact ⟨bG1, bG2, bGB, rfl, b1, by rw [← made_str]; exact n1, by rw [← made_bool]; exact n2, by omega, by omega, by omega, E9⟩
      · go_simp
        obtain ⟨bG2, hbG2⟩ : ∃ b, d11.heap.size = b := ⟨_, rfl⟩
        have lG2 : w1.heap.size ≤ bG2 := by rw [← hbG2]; exact hHeld.size
        have G2 : NBox (d11.alloc (.cells (madeCells #[.bool false] (N + 1)) 4)) bG2 4 (madeCells #[.bool false] (N + 1)) := by rw [← hbG2]; exact NBox.new _ _ _
        refine hK.out _ _ (show Ext w1 (d11.alloc (.cells (madeCells #[.bool false] (N + 1)) 4)) from hHeld.alloc _) (fun hHeld => ?_)
        clear hK K'
        try simp only [Act.put, List.setIfInBounds_toArray, List.set_cons_zero, List.set_cons_succ]
        obtain ⟨d14, hd⟩ : ∃ d, (d11.alloc (.cells (madeCells #[.bool false] (N + 1)) 4)) = d := ⟨_, rfl⟩
        have Xd14 : Ext d11 d14 := by rw [← hd]; exact (Ext.refl d11).alloc _
        rw [hd] at hHeld G2
        rw [hd]
        try rw [hbG2]
        have ltGBG2 := GB.lt
        replace GB := GB.ext Xd14
        clear hd
        refine wpAnyH_ready (rs := [2]) (by kernel_rfl) (by simp) ?_
        refine AllReadyH.cons (o := ⟨_, _, _, _, _, _⟩) rfl (fun K' hK => ?_) (AllReadyH.nil)
        go_simp
        obtain ⟨bG1, hbG1⟩ : ∃ b, d14.heap.size = b := ⟨_, rfl⟩
        have lG1 : w1.heap.size ≤ bG1 := by rw [← hbG1]; exact hHeld.size
        have G1 : NBox (d14.alloc (.cells (madeCells #[.string ⟨#[]⟩] (N + 1)) 9)) bG1 9 (madeCells #[.string ⟨#[]⟩] (N + 1)) := by rw [← hbG1]; exact NBox.new _ _ _
        refine hK.out _ _ (show Ext w1 (d14.alloc (.cells (madeCells #[.string ⟨#[]⟩] (N + 1)) 9)) from hHeld.alloc _) (fun hHeld => ?_)
        clear hK K'
        try simp only [Act.put, List.setIfInBounds_toArray, List.set_cons_zero, List.set_cons_succ]
        obtain ⟨d15, hd⟩ : ∃ d, (d14.alloc (.cells (madeCells #[.string ⟨#[]⟩] (N + 1)) 9)) = d := ⟨_, rfl⟩
        have Xd15 : Ext d14 d15 := by rw [← hd]; exact (Ext.refl d14).alloc _
        rw [hd] at hHeld G1
        rw [hd]
        try rw [hbG1]
        have ltGBG1 := GB.lt
        replace GB := GB.ext Xd15
        have ltG2G1 := G2.lt
        replace G2 := G2.ext Xd15
        clear hd
        refine wpAnyH_take (i := 6) (oi := ⟨_, _, _, _, _, _⟩) (v := ?_) rfl (by kernel_rfl) (by kernel_rfl) (by kernel_rfl) (fun _ _ _ h => h) (Or.inl ⟨by rfl, ?_⟩) hHeld ?_
        rotate_left
        · intro w hSw
          go_simp
          all_goals (first | with_reducible rfl | rw [if_pos (by omega)])
        try simp only [Act.put, List.setIfInBounds_toArray, List.set_cons_zero, List.set_cons_succ]
        refine wpAnyH_ready (rs := [8]) (by kernel_rfl) (by simp) ?_
        refine AllReadyH.cons (o := ⟨_, _, _, _, _, _⟩) rfl (fun K' hK => ?_) (AllReadyH.nil)
        have z0 := GB.cell 0
        have z1 := GB.cell 1
        have z2 := GB.frozen 0
        have z3 := GB.frozen 1
        go_simp
        have b1 := NBox.set (NBox.set GB 0 (.slice (some ⟨bG1, 0, none⟩) (N + 1) (N + 1))) 1 (.slice (some ⟨bG2, 0, none⟩) (N + 1) (N + 1))
        have F := (Fr.setCell d15 bGB 0 (.slice (some ⟨bG1, 0, none⟩) (N + 1) (N + 1))).trans (Fr.setCell _ bGB 1 (.slice (some ⟨bG2, 0, none⟩) (N + 1) (N + 1)))
        have n1 := G1.fr F (by omega)
        have n2 := G2.fr F (by omega)
        have E9 := Fr.ext hHeld F (fun k hk => by omega)
        refine hK.out _ _ E9 (fun hHeld => ?_)
        clear hK K' z0 z1 z2 z3
        try simp only [Act.put, List.setIfInBounds_toArray, List.set_cons_zero, List.set_cons_succ]
        refine wpAnyH_done (by kernel_rfl) ?_ _
        go_wp2_with fail
        go_meet
        exact ⟨bG1, bG2, bGB, rfl, b1, by rw [← made_str]; exact n1, by rw [← made_bool]; exact n2, by omega, by omega, by omega, E9⟩
  case rest =>
    obtain ⟨g1, g2, B, rfl, NB, N1, N2, l1, l2, l3, E2⟩ := hcut
    have d12 : g1 ≠ g2 := NBox.apartX N1 N2 (by decide)
    have d1B : g1 ≠ B := NBox.apartX N1 NB (by decide)
    have d2B : g2 ≠ B := NBox.apartX N2 NB (by decide)
    have hww : w.heap.size < w1.heap.size := B1.lt
    have dB0 : B ≠ w.heap.size := by omega
    go_wp2_with fail
    go_loopw [6, 7] (fun s6 s7 wr => ∃ (i n : Nat) (P : List ByteArray) (D : List Bool), s6 = .int .i64 n ∧ s7 = .int .i64 i ∧ i ≤ l.length ∧ P.length = N + 1 ∧ D.length = N + 1 ∧ NBox wr B 93 #[.slice (some ⟨g1, 0, none⟩) (N + 1) (N + 1), .slice (some ⟨g2, 0, none⟩) (N + 1) (N + 1)] ∧ NBox wr g1 9 (strV P) ∧ NBox wr g2 4 (boolV D) ∧ n + extL (l.drop i) ≤ (N : Int) ∧ Hid (vGo (l.drop i) n P = vGo l 0 (List.replicate (N + 1) ⟨#[]⟩)) ∧ Hid (dGo (l.drop i) n D = dGo l 0 (List.replicate (N + 1) false)) ∧ Ext w1 wr) (fun _ i _ => l.length - (intOf i).toNat)
    case atStart => exact ⟨0, 0, _, _, rfl, rfl, Nat.zero_le _, List.length_replicate, List.length_replicate, NB, N1, N2, by rw [List.drop_zero]; omega, Lib.hid rfl, Lib.hid rfl, E2⟩
    case round =>
      clear NB N1 N2 E2 m44 m67
      obtain ⟨i, n, P, D, rfl, rfl, hi, lP, lD, NB, N1, N2, hex, HP, HD, hE⟩ := hrel
      rcases Nat.lt_or_ge i l.length with hlt | hlt
      · obtain ⟨p, hp⟩ : ∃ p, l[i]? = some p := ⟨_, List.getElem?_eq_getElem hlt⟩
        obtain ⟨ba, oa, rfl, ra⟩ := a3 (by omega)
        have hba : ba < w.heap.size := lt_of_cell (rdPcs_at ra hp).1
        obtain ⟨e1, e2, e3, e4⟩ := rdPcs_at (rdPcs_ext (E1.trans hE) ra) hp
        obtain ⟨k1, k2⟩ := nn.at hp
        have HX := extL_at hp
        have z1 := extL_nn (nn.drop (i + 1))
        have HP1 := vGo_at hp n P
        have HD1 := dGo_at hp n D
        obtain ⟨kn, hkn⟩ : ∃ n : Nat, p.keep = n := ⟨p.keep.toNat, by omega⟩
        obtain ⟨dn, hdn⟩ : ∃ n : Nat, p.drop = n := ⟨p.drop.toNat, by omega⟩
        have hk : kN p = kn := by unfold kN; rw [hkn]; exact Int.toNat_natCast _
        have hd : dN p = dn := by unfold dN; rw [hdn]; exact Int.toNat_natCast _
        rw [hk, hd] at HP1 HD1
        have HP2 : Hid (vGo (l.drop (i + 1)) (n + kn + dn) (P.set (n + kn) p.put) = vGo l 0 (List.replicate (N + 1) ⟨#[]⟩)) := Lib.hid (HP1.symm.trans HP.out)
        have HD2 : Hid (dGo (l.drop (i + 1)) (n + kn + dn) (setR (n + kn) dn D) = dGo l 0 (List.replicate (N + 1) false)) := Lib.hid (HD1.symm.trans HD.out)
        rw [hkn] at e1
        rw [hdn] at e2
        have hex2 : ((n + kn + dn : Nat) : Int) + extL (l.drop (i + 1)) ≤ (N : Int) := by omega
        have q1 : (0 : Int) ≤ (i : Int) := by omega
        have q2 : (i : Int) < (l.length : Int) := by omega
        have j1 : n + kn + dn ≤ N := by omega
        have j2 : (0 : Int) ≤ (n : Int) + (kn : Int) := by omega
        have j3 : (n : Int) + (kn : Int) < (N : Int) + 1 := by omega
        have j4 : ((n : Int) + (kn : Int)).toNat = n + kn := by omega
        have y0 := NB.cell 0
        have y1 := NB.cell 1
        obtain ⟨u0, hu0⟩ : ∃ s, P[n + kn]? = some s := ⟨_, List.getElem?_eq_getElem (by omega)⟩
        have c0 : wr.cell? ⟨g1, n + kn, none⟩ = some (.string u0) := by rw [N1.cell]; exact strV_get hu0
        have f0 := N1.frozen (n + kn)
        unfold maxLen at e4
        clear HP1 HD1 HP HD hkn hdn hk hd hp hex ra a3 HX z1
        go_upto_region 7 with fail
        go_still_tail 9, (by kernel_rfl)
        change wpList _ _ _ _ _ wr.drew
        obtain ⟨w3, hw3⟩ : ∃ W, wr.drew = W := ⟨_, rfl⟩
        have X3 : Ext wr w3 := by rw [← hw3]; exact (Ext.refl wr).drew
        replace NB := NB.ext X3
        replace N1 := N1.ext X3
        replace N2 := N2.ext X3
        replace e2 := X3.cell e2
        replace c0 := X3.cell c0
        replace hE := hE.trans X3
        have f0 := N1.frozen (n + kn)
        rw [hw3]
        clear hw3 X3 y0 y1 e1 e3
        go_wp2_with fail
        obtain ⟨w4, hw4⟩ : ∃ W, w3.setCell ⟨g1, n + kn, none⟩ (.string p.put) = W := ⟨_, rfl⟩
        have F4 : Fr w3 w4 (fun k => k = g1) := by rw [← hw4]; exact Fr.setCell _ _ _ _
        have N1' : NBox w4 g1 9 (strV (P.set (n + kn) p.put)) := by rw [← hw4, ← strV_set]; exact N1.set _ _
        replace N2 := N2.fr F4 (fun e => d12 e.symm)
        replace NB := NB.fr F4 (fun e => d1B e.symm)
        replace e2 := F4.cell (by omega) e2
        have E4 : Ext w1 w4 := Fr.ext hE F4 (fun k hk => by omega)
        rw [hw4]
        clear hw4 F4 c0 f0 N1 hE hu0
        go_loopw [8] (fun s8 wk => ∃ (k : Nat) (D' : List Bool), s8 = .int .i64 k ∧ k ≤ dn ∧ D'.length = N + 1 ∧ NBox wk g2 4 (boolV D') ∧ Hid (setR (n + kn + k) (dn - k) D' = setR (n + kn) dn D) ∧ Fr w4 wk (fun x => x = g2)) (fun k _ => dn - (intOf k).toNat)
        case atStart => exact ⟨0, D, rfl, Nat.zero_le _, lD, N2, Lib.hid rfl, Fr.refl _ _⟩
        case round =>
          clear N2
          obtain ⟨k, D', rfl, hk, lD', N2, HS, hF⟩ := hrel
          have NB' := NB.fr hF (fun e => d2B e.symm)
          have e2' := hF.cell (by omega) e2
          have y1 := NB'.cell 1
          rcases Nat.lt_or_ge k dn with hkd | hkd
          · have HS2 : Hid (setR (n + kn + (k + 1)) (dn - (k + 1)) (D'.set (n + kn + k) true) = setR (n + kn) dn D) := Lib.hid (by
              have h := HS.out
              rw [show dn - k = (dn - (k + 1)) + 1 by omega] at h
              exact h)
            obtain ⟨u1, hu1⟩ : ∃ s, D'[n + kn + k]? = some s := ⟨_, List.getElem?_eq_getElem (by omega)⟩
            have c1 : wr.cell? ⟨g2, n + kn + k, none⟩ = some (.bool u1) := by rw [N2.cell]; exact boolV_get hu1
            have f1 := N2.frozen (n + kn + k)
            have j5 : (0 : Int) ≤ (n : Int) + (kn : Int) + (k : Int) := by omega
            have j6 : (n : Int) + (kn : Int) + (k : Int) < (N : Int) + 1 := by omega
            have j7 : ((n : Int) + (kn : Int) + (k : Int)).toNat = n + kn + k := by omega
            clear HS hu1
            go_wp2_with fail
            go_roundw
            case rel => exact ⟨k + 1, D'.set (n + kn + k) true, by go_num, by omega, by simpa using lD', by rw [← boolV_set]; exact N2.set _ _, HS2, hF.trans (Fr.setCell _ _ _ _)⟩
            case measure => simp [intOf]; omega
          · have hkd' : k = dn := by omega
            have HS2 : Hid (D' = setR (n + kn) dn D) := Lib.hid (by
              have h := HS.out
              rw [hkd', Nat.sub_self] at h
              exact h)
            clear HS
            go_wp2_with fail
            go_roundw
            case rel => exact ⟨i + 1, n + kn + dn, P.set (n + kn) p.put, D', by go_num, by go_num, by omega, by simpa using lP, lD', NB', N1'.fr hF (fun e => d12 e), N2, hex2, HP2, by rw [HS2.out]; exact HD2, Fr.ext E4 hF (fun x hx => by omega)⟩
            case measure => simp [intOf]; omega
      · have HPF : Hid (P = vGo l 0 (List.replicate (N + 1) ⟨#[]⟩)) := Lib.hid (by rw [← HP.out, List.drop_eq_nil_of_le hlt]; rfl)
        have HDF : Hid (D = dGo l 0 (List.replicate (N + 1) false)) := Lib.hid (by rw [← HD.out, List.drop_eq_nil_of_le hlt]; rfl)
        have y0 := NB.cell 0
        have y1 := NB.cell 1
        have B2 := B1.ext hE
        have z0 := B2.cell 0
        have z1 := B2.cell 1
        have z2 := B2.frozen 0
        have z3 := B2.frozen 1
        clear HP HD
        go_wp2_with fail
        have b1 := NBox.set (NBox.set B2 0 (.slice (some ⟨g1, 0, none⟩) (N + 1) (N + 1))) 1 (.slice (some ⟨g2, 0, none⟩) (N + 1) (N + 1))
        have F := (Fr.setCell wr w.heap.size 0 (.slice (some ⟨g1, 0, none⟩) (N + 1) (N + 1))).trans (Fr.setCell _ w.heap.size 1 (.slice (some ⟨g2, 0, none⟩) (N + 1) (N + 1)))
        refine bodyPost_ret (results_cell_row rfl _ _ w.heap.size 93 _ _ _ rfl b1 Try.underlying93 rfl (by kernel_rfl)) rfl ?_
        rw [← HPF.out, ← HDF.out]
        refine ⟨_, rfl, ⟨g1, g2, N + 1, N + 1, ?_, N1.fr F (by omega), N2.fr F (by omega), by omega, by omega⟩, Fr.ext (E1.trans hE) F (fun k hk => by omega)⟩
        rw [lP, lD]
        rfl
end Go.Proofs.Ytkimbpeapolcbaa.Sy
