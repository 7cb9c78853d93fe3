/- Chapter 17: GetNumber. -/
import Derived.Test.YtoplaokimahdiaaWiRdNum
import Derived.Test.YtoplaokimahdiaaWiRNum2
import Derived.StillTailTactics
namespace Go.Proofs.Ytoplaokimahdiaa.Wi
open Go.RowKit Go.Proofs.Ytoplaokimahdiaa.Bw Go.Proofs.Ytoplaokimahdiaa.Bs

theorem enters46 : ∀ args W, (callFunc 46 args).run Try.prog W = .ok (.enter 46 args) W := fun args W => by kernel_rfl
set_option maxRecDepth 100000 in
set_option maxHeartbeats 1000000 in
theorem getnum1_any (bs : List UInt8) (m : Int) (w0 w : World) (B R N : Nat) (h : RS w0 w B bs) (bR : NBox w R 83 #[.pointer (some ⟨B, 0, none⟩)]) (bN : NBox w N 28 #[.int .u64 m]) (hN : w0.heap.size ≤ N) :
    Calls Try.prog 46 #[.pointer (some ⟨R, 0, none⟩), .pointer (some ⟨N, 0, none⟩)] w fun e W' => Fr w W' (fun k => k = B ∨ k = N) ∧ match rdNum 0 0 bs with
      | none => e = .panicked WR ∧ Ext w0 W'
      | some (x, r) => e = .returned (.tuple #[]) ∧ NBox W' N 28 #[.int .u64 (x : Int)] ∧ RS w0 W' B r := by
  have hc := rnumber_any bs w0 w B h
  obtain ⟨rv, hbx, -⟩ := h.box
  have hBN : N ≠ B := NBox.apart bN hbx (by decide)
  have r0 := bR.cell 0
  have HBN := Lib.hid bN
  obtain ⟨p, hp⟩ : ∃ p, rdNum 0 0 bs = p := ⟨_, rfl⟩
  rw [hp] at hc ⊢
  clear bR bN h hbx hp
  go_enter Try.func46, Try.ntmps46
  go_wp2_with fail
  refine hc.mono ?_
  clear hc r0
  rintro e W' ⟨hX, hF, hP⟩
  cases p with
  | none =>
    subst hP
    have HX := Lib.hid hX
    have HF := Lib.hid hF
    clear hX hF
    go_wp2_with fail
    exact ⟨rfl, HF.out.mono (fun k hk => .inl hk), rfl, HX.out⟩
  | some xr =>
    obtain ⟨x, r⟩ := xr
    obtain ⟨v, rfl, hv, hR⟩ := hP
    unfold natV at hv
    subst hv
    have hb2 := HBN.out.fr hF hBN
    have n0 := hb2.cell 0
    have n1 := hb2.frozen 0
    have HB2 := Lib.hid hb2
    have HF := Lib.hid hF
    have HR := Lib.hid hR
    clear hX hF hb2 hR
    go_wp2_with fail
    go_end0
    have F2 := Fr.setCell W' N 0 (.int .u64 (x : Int))
    refine ⟨(HF.out.mono (fun k hk => .inl hk)).trans (F2.mono fun k hk => .inr hk), rfl, HB2.out.set 0 _, ?_⟩
    obtain ⟨rv2, hbx2, hrd2⟩ := HR.out.box
    exact ⟨Fr.ext HR.out.ext F2 (fun k hk => by rw [hk]; exact hN), HR.out.hB, rv2, hbx2.fr F2 (fun hh => hBN hh.symm), hrd2⟩
set_option maxRecDepth 100000 in
set_option maxHeartbeats 1000000 in
theorem cloneB_any (bs : List UInt8) (v : Value) (w : World) (h : RdS w 1 bs.length (u8s bs) v) (hl : bs.length ≤ 100000000000000) : Calls Try.prog 48 #[v] w (PutR w (some bs)) := by
  have h0 := h
  obtain ⟨A, c, rfl, _, a1, a2, a3⟩ := h0
  have hnil := Lib.run_eql_slice_nil (P := Try.prog) w 25 5 A bs.length c 0 0 Try.underlying25
  cases A with
  | none =>
    obtain rfl : bs = [] := by
      cases bs with
      | nil => rfl
      | cons x r => obtain ⟨_, _, h, _⟩ := a3 (by simp); cases h
    simp only [List.length_nil] at hnil
    go_enter Try.func48, Try.ntmps48
    go_wp2_with fail
    go_ret
    exact ⟨Ext.refl w, _, rfl, ⟨rfl, .inl ⟨rfl, rfl⟩⟩⟩
  | some a =>
    obtain ⟨w1, hw1⟩ : ∃ w1, w.alloc (.cells #[] 5) = w1 := ⟨_, rfl⟩
    have hE1 : Ext w w1 := by rw [← hw1]; exact (Ext.refl w).alloc _
    have hown : w1.ownsRow w.heap.size 5 1 (.slice (some ⟨w.heap.size, 0, none⟩) 0 0) 0 [] := by
      rw [← hw1]; exact ⟨rfl, .inr ⟨_, 0, _, rfl, Nat.le_refl _, World.alloc_heap_new w _, Nat.le_refl _, by simp [maxLen], rfl, rfl⟩⟩
    have h1 := RdS.ext hE1 h
    have H1 := Lib.hid hw1
    clear hw1 a3
    go_enter Try.func48, Try.ntmps48
    go_wp2_with (first
      | (rw [H1.out]; clear H1)
      | (at_builtin
         refine wpList_append_rd rfl rfl T25 (v := _) (by rfl) hown (by rfl) h1 (u8s_one _) (by omega) (by simp only [maxLen]; omega) (by have := hE1.size; omega) ?_
         intro v3 w3 hown3 hg3 hat3))
    go_ret
    refine ⟨Ext.grown hE1 hg3 (owns_base hown), _, rfl, ?_⟩
    have := hown3
    rw [Nat.zero_add, List.nil_append] at this
    exact this
theorem owns_le {W : World} {a b e n : Nat} {v : Value} {xs : List Value} (h : W.ownsRow a e 1 v n xs) (hab : b ≤ a) : W.ownsRow b e 1 v n xs := by
  refine ⟨h.1, ?_⟩
  rcases h.2 with h | ⟨g, cap, cur, e1, e2, h⟩
  · exact .inl h
  · exact .inr ⟨g, cap, cur, e1, Nat.le_trans hab e2, h⟩
/-- What GetNumber tells. -/
def GetR (w : World) (p : Option (Nat × List UInt8)) (e : Ending) (W' : World) : Prop :=
  Ext w W' ∧ match p with
  | none => e = .returned (.tuple #[.int .u64 0, .slice none 0 0, .int .i64 170])
  | some (x, r) => ∃ v, e = .returned (.tuple #[.int .u64 (x : Int), v, .int .i64 0]) ∧ W'.ownsRow w.heap.size 5 1 v r.length (u8s r)
set_option maxRecDepth 100000 in
set_option maxHeartbeats 2000000 in
theorem getNumber_any (bs : List UInt8) (bv : Value) (w : World) (h : RdS w 1 bs.length (u8s bs) bv) (hl : bs.length ≤ 100000000000) : Calls Try.prog 20 #[bv] w (GetR w (rdNum 0 0 bs)) := by
  have hmf : ∀ (fn : Fn) (first cap : Array Value) (w : World), (Instr.makeFunc fn first cap).run Try.prog w = .ok (.func fn first cap) w := fun _ _ _ _ => rfl
  have hnot : ∀ (x : Bool) (w : World), (Op.unary .not (.bool x)).run Try.prog w = .ok (.bool (!x)) w := fun _ _ => rfl
  obtain ⟨w3, hw3⟩ : ∃ W, ((w.alloc (.cells #[.int .u64 0] 28)).alloc (.cells #[bv] 85)).alloc (.cells #[.pointer (some ⟨w.heap.size + 1, 0, none⟩)] 83) = W := ⟨_, rfl⟩
  obtain ⟨N, hN⟩ : ∃ N, w.heap.size = N := ⟨_, rfl⟩
  have s1 : (w.alloc (.cells #[.int .u64 0] 28)).heap.size = N + 1 := by rw [World.size_alloc, hN]
  have s2 : ((w.alloc (.cells #[.int .u64 0] 28)).alloc (.cells #[bv] 85)).heap.size = N + 1 + 1 := by rw [World.size_alloc, s1]
  have E3 : Ext w w3 := by rw [← hw3]; exact (((Ext.refl w).alloc _).alloc _).alloc _
  have bN : NBox w3 N 28 #[.int .u64 0] := by rw [← hw3, ← hN]; exact (NBox.new w 28 _).ext (((Ext.refl _).alloc _).alloc _)
  have bB : NBox w3 (N + 1) 85 #[bv] := by rw [← hw3, ← s1]; exact (NBox.new _ 85 _).ext ((Ext.refl _).alloc _)
  have bR : NBox w3 (N + 1 + 1) 83 #[.pointer (some ⟨N + 1, 0, none⟩)] := by rw [← hw3, hN, ← s2]; exact NBox.new _ 83 _
  rw [hN] at hw3
  have hlt := bR.lt
  have hRS : RS w w3 (N + 1) bs := ⟨E3, by omega, bv, bB, h⟩
  have hc := tried_any 46 #[.pointer (some ⟨N + 1 + 1, 0, none⟩), .pointer (some ⟨N, 0, none⟩)] enters46
    (fun b W' => match b with
      | true => ∃ x r, rdNum 0 0 bs = some (x, r) ∧ NBox W' N 28 #[.int .u64 (x : Int)] ∧ RS w W' (N + 1) r ∧ NBox W' (N + 1 + 1) 83 #[.pointer (some ⟨N + 1, 0, none⟩)]
      | false => rdNum 0 0 bs = none ∧ Ext w W') (fun k => k = N + 1 ∨ k = N) w3 (fun k hk => by omega)
    (fun W0 hW0 => (getnum1_any bs 0 w W0 (N + 1) (N + 1 + 1) N (hRS.more hW0) (bR.ext hW0) (bN.ext hW0) (by omega)).mono fun e W' ⟨hF, hP⟩ => by
      have bR2 := (bR.ext hW0).fr hF (by omega)
      cases hp : rdNum 0 0 bs with
      | none =>
        rw [hp] at hP
        exact .inr ⟨hP.1, ⟨rfl, hP.2⟩, hF⟩
      | some xr =>
        obtain ⟨x, r⟩ := xr
        rw [hp] at hP
        exact .inl ⟨hP.1, ⟨x, r, rfl, hP.2.1, hP.2.2, bR2⟩, hF⟩)
  have HC := Lib.hid hc
  have HW := Lib.hid hw3
  have HN := Lib.hid hN
  obtain ⟨p, hp⟩ : ∃ p, rdNum 0 0 bs = p := ⟨_, rfl⟩
  rw [hp] at HC ⊢
  have HL := Lib.hid hl
  have HPL : Hid (∀ x r, p = some (x, r) → r.length ≤ bs.length) := Lib.hid (fun x r hh => by
    rw [hh] at hp
    have := (num_get hp).1
    rw [this, List.length_append]; omega)
  obtain ⟨A, c, rfl, -⟩ := h
  clear hc hw3 hN s1 s2 bN bB bR hRS hp hl
  go_enter Try.func20, Try.ntmps20
  go_wp2_with fail
  rw [HN.out, HW.out]
  refine HC.out.mono ?_
  clear HC HW
  rintro e W' ⟨b, W1, x0, rfl, hΦ, hok, hF⟩
  cases b with
  | false =>
    obtain ⟨rfl, hX⟩ := hΦ
    have HX := Lib.hid (show Ext w W' from Fr.ext hX hF (fun k hk => by have := E3.size; omega))
    clear hok hF hX
    go_wp2_with fail
    go_ret3
    exact ⟨HX.out, rfl⟩
  | true =>
    obtain ⟨x, r, rfl, hbN, hRS, hbR⟩ := hΦ
    have hbN2 := hbN.fr hF (by omega)
    have hbR2 := hbR.fr hF (by omega)
    obtain ⟨rv, hbB, hrd⟩ := hRS.box
    have hbB2 := hbB.fr hF (by omega)
    have hX2 : Ext w W' := Fr.ext hRS.ext hF (fun k hk => by have := E3.size; omega)
    have n0 := hbN2.cell 0
    have r0 := hbR2.cell 0
    have b0 := hbB2.cell 0
    have hcl := cloneB_any r rv W'.drew (RdS.ext hX2.drew hrd) (by have := HPL.out x r rfl; have := HL.out; omega)
    have HX := Lib.hid hX2
    obtain ⟨rA, rc, rfl, -⟩ := hrd
    clear hbN hbR hbB hbN2 hbR2 hbB2 hF hok hRS hX2
    go_upto_region 5 with fail
    obtain ⟨c0, hc0⟩ : ∃ c0, W'.drew = c0 := ⟨_, rfl⟩
    rw [hc0] at hcl
    have hH : c0.cell? ⟨N, 0, none⟩ = some (.int .u64 (x : Int)) ∧ c0.cell? ⟨N + 1 + 1, 0, none⟩ = some (.pointer (some ⟨N + 1, 0, none⟩)) ∧ c0.cell? ⟨N + 1, 0, none⟩ = some (.slice rA r.length rc) := by
      rw [← hc0]
      exact ⟨(Ext.refl _).drew.cell n0, (Ext.refl _).drew.cell r0, (Ext.refl _).drew.cell b0⟩
    have HX0 : Hid (Ext w c0) := Lib.hid (by rw [← hc0]; exact HX.out.drew)
    clear n0 r0 b0
    refine wp_region_held_drew (S := fun W => W.cell? ⟨N, 0, none⟩ = some (.int .u64 (x : Int)) ∧ W.cell? ⟨N + 1 + 1, 0, none⟩ = some (.pointer (some ⟨N + 1, 0, none⟩)) ∧ W.cell? ⟨N + 1, 0, none⟩ = some (.slice rA r.length rc)) (by kernel_rfl) (by rw [hc0]; exact hH) (fun hHeld => ?_)
    rw [hc0] at hHeld ⊢
    clear hc0 hH
    refine wpAnyH_take (i := 0) (oi := ⟨_, _, _, _, _, _⟩) (v := ?_) rfl (by kernel_rfl) (by kernel_rfl) (by kernel_rfl) (fun _ _ _ h => h) (Or.inl ⟨by rfl, ?_⟩) hHeld ?_
    rotate_left
    · intro w hSw
      obtain ⟨hs1, hs2, hs3⟩ := hSw
      go_simp
      all_goals (first | with_reducible rfl | rw [if_pos (by omega)])
    try simp only [Act.put, List.setIfInBounds_toArray, List.set_cons_zero, List.set_cons_succ]
    refine wpAnyH_take (i := 1) (oi := ⟨_, _, _, _, _, _⟩) (v := ?_) rfl (by kernel_rfl) (by kernel_rfl) (by kernel_rfl) (fun _ _ _ h => h) (Or.inl ⟨by rfl, ?_⟩) hHeld ?_
    rotate_left
    · intro w hSw
      obtain ⟨hs1, hs2, hs3⟩ := hSw
      go_simp
      all_goals (first | with_reducible rfl | rw [if_pos (by omega)])
    try simp only [Act.put, List.setIfInBounds_toArray, List.set_cons_zero, List.set_cons_succ]
    refine wpAnyH_take (i := 2) (oi := ⟨_, _, _, _, _, _⟩) (v := ?_) rfl (by kernel_rfl) (by kernel_rfl) (by kernel_rfl) (fun _ _ _ h => h) (Or.inl ⟨by rfl, ?_⟩) hHeld ?_
    rotate_left
    · intro w hSw
      obtain ⟨hs1, hs2, hs3⟩ := hSw
      go_simp
      all_goals (first | with_reducible rfl | rw [if_pos (by omega)])
    try simp only [Act.put, List.setIfInBounds_toArray, List.set_cons_zero, List.set_cons_succ]
    refine wpAnyH_take (i := 3) (oi := ⟨_, _, _, _, _, _⟩) (v := ?_) rfl (by kernel_rfl) (by kernel_rfl) (by kernel_rfl) (fun _ _ _ h => h) (Or.inl ⟨by rfl, ?_⟩) hHeld ?_
    rotate_left
    · intro w hSw
      obtain ⟨hs1, hs2, hs3⟩ := hSw
      go_simp
      all_goals (first | with_reducible rfl | rw [if_pos (by omega)])
    try simp only [Act.put, List.setIfInBounds_toArray, List.set_cons_zero, List.set_cons_succ]
    refine wpAnyH_take (i := 4) (oi := ⟨_, _, _, _, _, _⟩) (v := ?_) rfl (by kernel_rfl) (by kernel_rfl) (by kernel_rfl) (fun _ _ _ h => h) (Or.inl ⟨by rfl, ?_⟩) hHeld ?_
    rotate_left
    · intro w hSw
      obtain ⟨hs1, hs2, hs3⟩ := hSw
      go_simp
      all_goals (first | with_reducible rfl | rw [if_pos (by omega)])
    try simp only [Act.put, List.setIfInBounds_toArray, List.set_cons_zero, List.set_cons_succ]
    refine wpAnyH_ready (rs := [5]) (by kernel_rfl) (by simp) ?_
    refine AllReadyH.cons (o := ⟨_, _, _, _, _, _⟩) rfl (fun K' hK => ?_) (AllReadyH.nil)
    go_simp
    go_at_call 48
    refine hcl.mono ?_
    clear hcl
    rintro e W2 hP
    obtain ⟨v2, rfl, hN2⟩ := PutR.rd hP
    have HN2 := Lib.hid hN2
    obtain ⟨vA2, vC2, rfl, -⟩ := RdS.of_owns hN2.own
    refine hK.out _ _ (show _ ∧ _ from ⟨hN2.ext.cell hHeld.1, hN2.ext.cell hHeld.2.1, hN2.ext.cell hHeld.2.2⟩) (fun hHeld => ?_)
    clear hK K' hP hN2
    try simp only [Act.put, List.setIfInBounds_toArray, List.set_cons_zero, List.set_cons_succ]
    refine wpAnyH_take (i := 6) (oi := ⟨_, _, _, _, _, _⟩) (v := ?_) rfl (by kernel_rfl) (by kernel_rfl) (by kernel_rfl) (fun _ _ _ h => h) (Or.inl ⟨by rfl, ?_⟩) hHeld ?_
    rotate_left
    · intro w hSw
      obtain ⟨hs1, hs2, hs3⟩ := hSw
      go_simp
      all_goals (first | with_reducible rfl | rw [if_pos (by omega)])
    try simp only [Act.put, List.setIfInBounds_toArray, List.set_cons_zero, List.set_cons_succ]
    refine wpAnyH_take (i := 7) (oi := ⟨_, _, _, _, _, _⟩) (v := ?_) rfl (by kernel_rfl) (by kernel_rfl) (by kernel_rfl) (fun _ _ _ h => h) (Or.inl ⟨by rfl, ?_⟩) hHeld ?_
    rotate_left
    · intro w hSw
      obtain ⟨hs1, hs2, hs3⟩ := hSw
      go_simp
      all_goals (first | with_reducible rfl | rw [if_pos (by omega)])
    try simp only [Act.put, List.setIfInBounds_toArray, List.set_cons_zero, List.set_cons_succ]
    refine wpAnyH_take (i := 8) (oi := ⟨_, _, _, _, _, _⟩) (v := ?_) rfl (by kernel_rfl) (by kernel_rfl) (by kernel_rfl) (fun _ _ _ h => h) (Or.inl ⟨by rfl, ?_⟩) hHeld ?_
    rotate_left
    · intro w hSw
      obtain ⟨hs1, hs2, hs3⟩ := hSw
      go_simp
      all_goals (first | with_reducible rfl | rw [if_pos (by omega)])
    try simp only [Act.put, List.setIfInBounds_toArray, List.set_cons_zero, List.set_cons_succ]
    refine wpAnyH_done (by kernel_rfl) ?_ _
    clear hHeld
    go_wp2_with fail
    go_ret3
    exact ⟨HX0.out.trans HN2.out.ext, _, rfl, owns_le HN2.out.own HX0.out.size⟩
end Go.Proofs.Ytoplaokimahdiaa.Wi
