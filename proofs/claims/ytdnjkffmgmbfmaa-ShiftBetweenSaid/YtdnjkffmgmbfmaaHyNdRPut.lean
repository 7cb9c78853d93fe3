/- SyNdRPut turned to this seat. (Printed by gport.py.) -/
import Derived.Test.YtdnjkffmgmbfmaaHyNdPut
import Derived.Test.YtdnjkffmgmbfmaaProg
namespace Go.Proofs.Ytdnjkffmgmbfmaa.Bw
open Go.RowKit
set_option maxRecDepth 100000 in
set_option maxHeartbeats 4000000 in
theorem rput_nil (t x : Nd) (v xv : Value) (q : Value) (wo w : World) (_hWo : Sub wo w) (ht : t.rd wo v) (hx : x.rd wo xv) (hq : RdS w 1 ([] : List Int).length (([] : List Int).map (Value.int .i64)) q) :
    Calls Try.prog 59 #[v, q, xv] w (Ret w fun r w' => RdLate wo w w' (t.put [] x) r) := by
  have hq0 := hq
  obtain ⟨A, qc, rfl, _, q2, q3, q4⟩ := hq0
  obtain ⟨av, kv, rfl, i0, i1, hl, htx, hA, hK⟩ := Nd.rd_open ht
  obtain ⟨xav, xkv, rfl, x0, x1, xl, xt, hXA, hXK⟩ := Nd.rd_open hx
  unfold maxLen at q3
  obtain ⟨w0, hw0⟩ : ∃ w0, ((w.alloc (.cells #[.int .u64 t.id, .bool t.leaf, .string t.label, av, .string t.text, kv] 42)).alloc (.cells #[.int .u64 x.id, .bool x.leaf, .string x.label, xav, .string x.text, xkv] 42)).alloc (.cells #[.int .u64 0, .bool false, .string ⟨#[]⟩, .slice none 0 0, .string ⟨#[]⟩, .slice none 0 0] 42) = w0 := ⟨_, rfl⟩
  have hE0 : Ext w w0 := by rw [← hw0]; exact (((Ext.refl w).alloc _).alloc _).alloc _
  have hb1 : NBox w0 w.heap.size 42 #[.int .u64 t.id, .bool t.leaf, .string t.label, av, .string t.text, kv] := by rw [← hw0]; exact (NBox.new w _ _).ext (((Ext.refl _).alloc _).alloc _)
  have hb2 : NBox w0 (w.heap.size + 1) 42 #[.int .u64 x.id, .bool x.leaf, .string x.label, xav, .string x.text, xkv] := by rw [← hw0]; have := (NBox.new (w.alloc (.cells #[.int .u64 t.id, .bool t.leaf, .string t.label, av, .string t.text, kv] 42)) 42 #[.int .u64 x.id, .bool x.leaf, .string x.label, xav, .string x.text, xkv]).ext ((Ext.refl _).alloc (.cells #[.int .u64 0, .bool false, .string ⟨#[]⟩, .slice none 0 0, .string ⟨#[]⟩, .slice none 0 0] 42)); rwa [World.size_alloc] at this
  have hb3 : NBox w0 (w.heap.size + 1 + 1) 42 #[.int .u64 0, .bool false, .string ⟨#[]⟩, .slice none 0 0, .string ⟨#[]⟩, .slice none 0 0] := by rw [← hw0]; have := NBox.new ((w.alloc (.cells #[.int .u64 t.id, .bool t.leaf, .string t.label, av, .string t.text, kv] 42)).alloc (.cells #[.int .u64 x.id, .bool x.leaf, .string x.label, xav, .string x.text, xkv] 42)) 42 #[.int .u64 0, .bool false, .string ⟨#[]⟩, .slice none 0 0, .string ⟨#[]⟩, .slice none 0 0]; rwa [World.size_alloc, World.size_alloc] at this
  have H0 := Lib.hid hw0
  clear hw0
  have hA0 := hA
  obtain ⟨aA, ac, rfl, _⟩ := hA
  have hK0 := hK
  obtain ⟨kA, kc, rfl, k1, k2, k3⟩ := hK0
  obtain ⟨xA, xac, rfl, _⟩ := hXA
  obtain ⟨xK, xkc, rfl, _⟩ := hXK
  have HG : Hid (t.put [] x = some x) := put_nil
  simp only [List.length_nil] at *
  obtain ⟨b0, b1, b2, b3, b4, b5⟩ := NBox.six hb2
  obtain ⟨r0, r1, r2, r3, r4, r5⟩ := NBox.six hb3
  have rf0 := hb3.frozen 0; have rf1 := hb3.frozen 1; have rf2 := hb3.frozen 2; have rf3 := hb3.frozen 3; have rf4 := hb3.frozen 4; have rf5 := hb3.frozen 5
  clear k3 q4 hK hA0 ht
  go_enter Try.func59, Try.ntmps59
  go_wp2_with (rw [H0.out]; clear H0)
  exact bodyPost_ret (results_node rfl rfl rfl (NBox.set6 hb3 _ _ _ _ _ _) Try.underlying42 rfl info42) rfl ⟨_, rfl, (fun W hW _ => ⟨_, by rw [HG.out]; rfl, by rw [HG.out]; exact Nd.rd_sub hW hx⟩), hE0.set6 (by omega) _ _ _ _ _ _⟩
set_option maxRecDepth 100000 in
set_option maxHeartbeats 4000000 in
theorem rput_out (t x : Nd) (v xv : Value) (i : Int) (p : List Int) (q : Value) (wo w : World) (_hWo : Sub wo w) (ht : t.rd wo v) (hx : x.rd wo xv) (hq : RdS w 1 (i :: p).length ((i :: p).map (Value.int .i64)) q) (hf : i < 0 ∨ (t.kids.length : Int) ≤ i) :
    Calls Try.prog 59 #[v, q, xv] w (Ret w fun r w' => RdLate wo w w' (t.put (i :: p) x) r) := by
  have hq0 := hq
  obtain ⟨A, qc, rfl, _, q2, q3, q4⟩ := hq0
  obtain ⟨av, kv, rfl, i0, i1, hl, htx, hA, hK⟩ := Nd.rd_open ht
  obtain ⟨xav, xkv, rfl, x0, x1, xl, xt, hXA, hXK⟩ := Nd.rd_open hx
  unfold maxLen at q3
  obtain ⟨w0, hw0⟩ : ∃ w0, ((w.alloc (.cells #[.int .u64 t.id, .bool t.leaf, .string t.label, av, .string t.text, kv] 42)).alloc (.cells #[.int .u64 x.id, .bool x.leaf, .string x.label, xav, .string x.text, xkv] 42)).alloc (.cells #[.int .u64 0, .bool false, .string ⟨#[]⟩, .slice none 0 0, .string ⟨#[]⟩, .slice none 0 0] 42) = w0 := ⟨_, rfl⟩
  have hE0 : Ext w w0 := by rw [← hw0]; exact (((Ext.refl w).alloc _).alloc _).alloc _
  have hb1 : NBox w0 w.heap.size 42 #[.int .u64 t.id, .bool t.leaf, .string t.label, av, .string t.text, kv] := by rw [← hw0]; exact (NBox.new w _ _).ext (((Ext.refl _).alloc _).alloc _)
  have hb2 : NBox w0 (w.heap.size + 1) 42 #[.int .u64 x.id, .bool x.leaf, .string x.label, xav, .string x.text, xkv] := by rw [← hw0]; have := (NBox.new (w.alloc (.cells #[.int .u64 t.id, .bool t.leaf, .string t.label, av, .string t.text, kv] 42)) 42 #[.int .u64 x.id, .bool x.leaf, .string x.label, xav, .string x.text, xkv]).ext ((Ext.refl _).alloc (.cells #[.int .u64 0, .bool false, .string ⟨#[]⟩, .slice none 0 0, .string ⟨#[]⟩, .slice none 0 0] 42)); rwa [World.size_alloc] at this
  have hb3 : NBox w0 (w.heap.size + 1 + 1) 42 #[.int .u64 0, .bool false, .string ⟨#[]⟩, .slice none 0 0, .string ⟨#[]⟩, .slice none 0 0] := by rw [← hw0]; have := NBox.new ((w.alloc (.cells #[.int .u64 t.id, .bool t.leaf, .string t.label, av, .string t.text, kv] 42)).alloc (.cells #[.int .u64 x.id, .bool x.leaf, .string x.label, xav, .string x.text, xkv] 42)) 42 #[.int .u64 0, .bool false, .string ⟨#[]⟩, .slice none 0 0, .string ⟨#[]⟩, .slice none 0 0]; rwa [World.size_alloc, World.size_alloc] at this
  have H0 := Lib.hid hw0
  clear hw0
  have hA0 := hA
  obtain ⟨aA, ac, rfl, _⟩ := hA
  have hK0 := hK
  obtain ⟨kA, kc, rfl, k1, k2, k3⟩ := hK0
  obtain ⟨xA, xac, rfl, _⟩ := hXA
  obtain ⟨xK, xkc, rfl, _⟩ := hXK
  have HG : Hid (t.put (i :: p) x = none) := put_out hf
  obtain ⟨pb, po, pc, he, hpc⟩ := RdI_get (i := 0) hq rfl
  simp only [Value.slice.injEq, true_and] at he
  obtain ⟨rfl, rfl⟩ := he
  rw [Nat.add_zero] at hpc
  replace hpc := hE0.cell hpc
  have hpl : ((p.length : Int) + 1 == 0) = false := by rw [beq_eq_false_iff_ne]; omega
  have a5 : w0.cell? ⟨w.heap.size, 5, none⟩ = some (.slice kA t.kids.length kc) := hb1.cell 5
  obtain ⟨r0, r1, r2, r3, r4, r5⟩ := NBox.six hb3
  have rf0 := hb3.frozen 0; have rf1 := hb3.frozen 1; have rf2 := hb3.frozen 2; have rf3 := hb3.frozen 3; have rf4 := hb3.frozen 4; have rf5 := hb3.frozen 5
  clear k3 q4 hK hA0 ht hx
  rcases Int.lt_or_le i 0 with hn | hn
  · clear hf
    go_enter Try.func59, Try.ntmps59
    go_wp2_with (rw [H0.out]; clear H0)
    go_quiet (fail)
    go_wp2_with fail
    exact bodyPost_ret (results_node rfl rfl rfl (NBox.set6 (NBox.drewN hb3 _) _ _ _ _ _ _) Try.underlying42 rfl info42) rfl ⟨_, rfl, (fun W hW _ => ⟨zeroV, by rw [HG.out]; rfl, by rw [HG.out]; exact zero_rd _⟩), (hE0.drewN _).set6 (by omega) _ _ _ _ _ _⟩
  · have hn2 : (t.kids.length : Int) ≤ i := by omega
    clear hf
    go_enter Try.func59, Try.ntmps59
    go_wp2_with (rw [H0.out]; clear H0)
    go_quiet (fail)
    go_wp2_with fail
    exact bodyPost_ret (results_node rfl rfl rfl (NBox.set6 (NBox.drewN hb3 _) _ _ _ _ _ _) Try.underlying42 rfl info42) rfl ⟨_, rfl, (fun W hW _ => ⟨zeroV, by rw [HG.out]; rfl, by rw [HG.out]; exact zero_rd _⟩), (hE0.drewN _).set6 (by omega) _ _ _ _ _ _⟩
set_option maxRecDepth 100000 in
set_option maxHeartbeats 4000000 in
theorem rput_late : ∀ (p : List Int) (t x : Nd) (v xv : Value) (q : Value) (wo w : World), Sub wo w → t.rd wo v → x.rd wo xv → RdS w 1 p.length (p.map (Value.int .i64)) q → t.wt ≤ 1000000 →
    Calls Try.prog 59 #[v, q, xv] w (Ret w fun r w' => RdLate wo w w' (t.put p x) r) := by
  intro p
  induction p with
  | nil => exact fun t x v xv q wo w hWo ht hx hq _ => rput_nil t x v xv q wo w hWo ht hx hq
  | cons i p ih =>
    intro t x v xv q wo w hWo ht hx hq hwt
    by_cases hf : i < 0 ∨ (t.kids.length : Int) ≤ i
    · exact rput_out t x v xv i p q wo w hWo ht hx hq hf
    · obtain ⟨m, rfl⟩ := Int.eq_ofNat_of_zero_le (show 0 ≤ i by omega)
      obtain ⟨kid, hkid⟩ : ∃ k, t.kids[m]? = some k := ⟨_, List.getElem?_eq_getElem (by omega)⟩
      have hm : m < t.kids.length := by omega
      have hq0 := hq
      obtain ⟨A, qc, rfl, _, q2, q3, q4⟩ := hq0
      obtain ⟨av, kv, rfl, i0, i1, hl, htx, hA, hK⟩ := Nd.rd_open ht
      obtain ⟨xav, xkv, rfl, x0, x1, xl, xt, hXA, hXK⟩ := Nd.rd_open hx
      unfold maxLen at q3
      obtain ⟨w0, hw0⟩ : ∃ w0, ((w.alloc (.cells #[.int .u64 t.id, .bool t.leaf, .string t.label, av, .string t.text, kv] 42)).alloc (.cells #[.int .u64 x.id, .bool x.leaf, .string x.label, xav, .string x.text, xkv] 42)).alloc (.cells #[.int .u64 0, .bool false, .string ⟨#[]⟩, .slice none 0 0, .string ⟨#[]⟩, .slice none 0 0] 42) = w0 := ⟨_, rfl⟩
      have hE0 : Ext w w0 := by rw [← hw0]; exact (((Ext.refl w).alloc _).alloc _).alloc _
      have hb1 : NBox w0 w.heap.size 42 #[.int .u64 t.id, .bool t.leaf, .string t.label, av, .string t.text, kv] := by rw [← hw0]; exact (NBox.new w _ _).ext (((Ext.refl _).alloc _).alloc _)
      have hb2 : NBox w0 (w.heap.size + 1) 42 #[.int .u64 x.id, .bool x.leaf, .string x.label, xav, .string x.text, xkv] := by rw [← hw0]; have := (NBox.new (w.alloc (.cells #[.int .u64 t.id, .bool t.leaf, .string t.label, av, .string t.text, kv] 42)) 42 #[.int .u64 x.id, .bool x.leaf, .string x.label, xav, .string x.text, xkv]).ext ((Ext.refl _).alloc (.cells #[.int .u64 0, .bool false, .string ⟨#[]⟩, .slice none 0 0, .string ⟨#[]⟩, .slice none 0 0] 42)); rwa [World.size_alloc] at this
      have hb3 : NBox w0 (w.heap.size + 1 + 1) 42 #[.int .u64 0, .bool false, .string ⟨#[]⟩, .slice none 0 0, .string ⟨#[]⟩, .slice none 0 0] := by rw [← hw0]; have := NBox.new ((w.alloc (.cells #[.int .u64 t.id, .bool t.leaf, .string t.label, av, .string t.text, kv] 42)).alloc (.cells #[.int .u64 x.id, .bool x.leaf, .string x.label, xav, .string x.text, xkv] 42)) 42 #[.int .u64 0, .bool false, .string ⟨#[]⟩, .slice none 0 0, .string ⟨#[]⟩, .slice none 0 0]; rwa [World.size_alloc, World.size_alloc] at this
      have H0 := Lib.hid hw0
      clear hw0
      have hA0 := hA
      obtain ⟨aA, ac, rfl, _⟩ := hA
      have hK0 := hK
      obtain ⟨kA, kc, rfl, k1, k2, k3⟩ := hK0
      obtain ⟨xA, xac, rfl, _⟩ := hXA
      obtain ⟨xK, xkc, rfl, _⟩ := hXK
      clear hf
      obtain ⟨pb, po, pc, he, hpc⟩ := RdI_get (i := 0) hq rfl
      simp only [Value.slice.injEq, true_and] at he
      obtain ⟨rfl, rfl⟩ := he
      rw [Nat.add_zero] at hpc
      have hpc0 := hpc
      replace hpc := hE0.cell hpc
      have hpl : ((p.length : Int) + 1 == 0) = false := by rw [beq_eq_false_iff_ne]; omega
      have hkl : t.kids.length ≤ 1000000 := by have := wtK_len t.kids; rw [Nd.wt_eq] at hwt; omega
      have hne : t.kids ≠ [] := by intro h; rw [h] at hm; simp at hm
      obtain ⟨xs, hxs, hRS⟩ := hK.row
      obtain ⟨kb, ko, rfl, ra⟩ := k3 hne
      obtain ⟨yA, ya, yK, yk, f0, f1, f2, f3, f4, f5, hY⟩ := rdKids_get ra hkid
      replace f0 := hWo.cell f0; replace f1 := hWo.cell f1; replace f2 := hWo.cell f2; replace f3 := hWo.cell f3; replace f4 := hWo.cell f4; replace f5 := hWo.cell f5
      have a5 : w0.cell? ⟨w.heap.size, 5, none⟩ = some (.slice (some ⟨kb, ko, none⟩) t.kids.length kc) := hb1.cell 5
      have HX := Lib.hid hx
      have HT := Lib.hid ht
      have HY := Lib.hid hY
      have q5 : (m : Int) < (t.kids.length : Int) := by omega
      have hs0 : w0.heap.size = w.heap.size + 1 + 1 + 1 := by rw [← H0.out]; simp
      have hone := Lib.hid (rowK_one hxs)
      obtain ⟨o, ho⟩ : ∃ o, kid.put p x = o := ⟨_, rfl⟩
      obtain ⟨z, hz⟩ : ∃ z, o.getD Nd.zero = z := ⟨_, rfl⟩
      obtain ⟨bb, hbb⟩ : ∃ bb, o.isSome = bb := ⟨_, rfl⟩
      have HO := Lib.hid ho
      have HZ := Lib.hid hz
      have HB := Lib.hid hbb
      clear ho hz hbb
      clear hne ra hK hx ht hY k3
      go_enter Try.func59, Try.ntmps59
      go_wp2_with (rw [H0.out]; clear H0)
      go_quiet (fail)
      go_wp2_with fail
      generalize hw4 : w0.drewN nq = w4
      have E4 : Ext w0 w4 := by rw [← hw4]; exact (Ext.refl _).drewN _
      have hs4 : w.heap.size + 1 + 1 + 1 ≤ w4.heap.size := by rw [← hw4]; exact Nat.le_of_eq hs0.symm
      have B1 := hb1.ext E4
      have X1 := hb2.ext E4
      have R1 := hb3.ext E4
      have W4 := hE0.trans E4
      clear hw4 hpc a5 hb1 hb2 hb3 hs0
      refine wp_region_held_drew (S := (fun W => Ext w W ∧ NBox W w.heap.size 42 #[.int .u64 t.id, .bool t.leaf, .string t.label, .slice aA t.attrs.length ac, .string t.text, .slice (some ⟨kb, ko, none⟩) t.kids.length kc] ∧ NBox W (w.heap.size + 1) 42 #[.int .u64 x.id, .bool x.leaf, .string x.label, .slice xA x.attrs.length xac, .string x.text, .slice xK x.kids.length xkc] ∧ NBox W (w.heap.size + 1 + 1) 42 #[.int .u64 0, .bool false, .string ⟨#[]⟩, .slice none 0 0, .string ⟨#[]⟩, .slice none 0 0] ∧ W.cell? ⟨w.heap.size, 5, none⟩ = some (.slice (some ⟨kb, ko, none⟩) t.kids.length kc) ∧ W.cell? ⟨pb, po, none⟩ = some (.int .i64 m) ∧ W.cell? ⟨w.heap.size + 1, 0, none⟩ = some (.int .u64 x.id) ∧ W.cell? ⟨w.heap.size + 1, 1, none⟩ = some (.bool x.leaf) ∧ W.cell? ⟨w.heap.size + 1, 2, none⟩ = some (.string x.label) ∧ W.cell? ⟨w.heap.size + 1, 3, none⟩ = some (.slice xA x.attrs.length xac) ∧ W.cell? ⟨w.heap.size + 1, 4, none⟩ = some (.string x.text) ∧ W.cell? ⟨w.heap.size + 1, 5, none⟩ = some (.slice xK x.kids.length xkc) ∧ W.cell? ⟨kb, ko + m * 6, none⟩ = some (.int .u64 kid.id) ∧ W.cell? ⟨kb, ko + m * 6 + 1, none⟩ = some (.bool kid.leaf) ∧ W.cell? ⟨kb, ko + m * 6 + 2, none⟩ = some (.string kid.label) ∧ W.cell? ⟨kb, ko + m * 6 + 3, none⟩ = some (.slice yA kid.attrs.length ya) ∧ W.cell? ⟨kb, ko + m * 6 + 4, none⟩ = some (.string kid.text) ∧ W.cell? ⟨kb, ko + m * 6 + 5, none⟩ = some (.slice yK kid.kids.length yk))) (by kernel_rfl) ⟨W4.drew, B1, X1, R1, (B1).cell 5, (W4.drew).cell hpc0, (X1).cell 0, (X1).cell 1, (X1).cell 2, (X1).cell 3, (X1).cell 4, (X1).cell 5, (W4.drew).cell f0, (W4.drew).cell f1, (W4.drew).cell f2, (W4.drew).cell f3, (W4.drew).cell f4, (W4.drew).cell f5⟩ (fun hHeld => ?_)
      refine tk 0 ?_ rfl (.inl ⟨by rfl, ?_⟩) hHeld ?_
      rotate_left
      · intro w hSw
        try dsimp only at hSw
        go_simp
        all_goals (first | with_reducible rfl | rw [if_pos (by omega)])
      try simp only [Act.put, aS]
      refine tk 1 ?_ rfl (.inl ⟨by rfl, ?_⟩) hHeld ?_
      rotate_left
      · intro w hSw
        try dsimp only at hSw
        go_simp
        all_goals (first | with_reducible rfl | rw [if_pos (by omega)])
      try simp only [Act.put, aS]
      refine tk 2 ?_ rfl (.inl ⟨by rfl, ?_⟩) hHeld ?_
      rotate_left
      · intro w hSw
        try dsimp only at hSw
        go_simp
        all_goals (first | with_reducible rfl | rw [if_pos (by omega)])
      try simp only [Act.put, aS]
      refine tk 3 ?_ rfl (.inl ⟨by rfl, ?_⟩) hHeld ?_
      rotate_left
      · intro w hSw
        try dsimp only at hSw
        go_simp
        all_goals (first | with_reducible rfl | rw [if_pos (by omega)])
      try simp only [Act.put, aS]
      refine tk 4 ?_ rfl (.inl ⟨by rfl, ?_⟩) hHeld ?_
      rotate_left
      · intro w hSw
        try dsimp only at hSw
        go_simp
        all_goals (first | with_reducible rfl | rw [if_pos (by omega)])
      try simp only [Act.put, aS]
      refine tk 5 ?_ rfl (.inl ⟨by rfl, ?_⟩) hHeld ?_
      rotate_left
      · intro w hSw
        try dsimp only at hSw
        go_simp
        all_goals (first | with_reducible rfl | rw [if_pos (by omega)])
      try simp only [Act.put, aS]
      refine tk 6 ?_ rfl (.inl ⟨by rfl, ?_⟩) hHeld ?_
      rotate_left
      · intro w hSw
        try dsimp only at hSw
        go_simp
        all_goals (first | with_reducible rfl | rw [if_pos (by omega)])
      try simp only [Act.put, aS]
      refine tk 7 ?_ rfl (.inl ⟨by rfl, ?_⟩) hHeld ?_
      rotate_left
      · intro w hSw
        try dsimp only at hSw
        go_simp
        all_goals (first | with_reducible rfl | rw [if_pos (by omega)])
      try simp only [Act.put, aS]
      refine tk 8 ?_ rfl (.inl ⟨by rfl, ?_⟩) hHeld ?_
      rotate_left
      · intro w hSw
        try dsimp only at hSw
        go_simp
        all_goals (first | with_reducible rfl | rw [if_pos (by omega)])
      try simp only [Act.put, aS]
      refine tk 9 ?_ rfl (.inl ⟨by rfl, ?_⟩) hHeld ?_
      rotate_left
      · intro w hSw
        try dsimp only at hSw
        go_simp
        all_goals (first | with_reducible rfl | rw [if_pos (by omega)])
      try simp only [Act.put, aS]
      refine wpAnyH_ready (rs := [10, 14]) (by kernel_rfl) (by simp) ?_
      refine AllReadyH.cons (o := ⟨_, _, _, _, _, _⟩) rfl (fun K' hK => ?_) (AllReadyH.cons (o := ⟨_, _, _, _, _, _⟩) rfl (fun K' hK => ?_) (AllReadyH.nil))
      · go_simp
        go_at_call 59
        refine (ih kid x _ _ _ wo _ (hWo.trans hHeld.1) HY.out HX.out ((RdI_tail hq).ext hHeld.1) (Nat.le_trans (Nat.le_of_lt (Nd.wt_kid hkid)) hwt)).mono ?_
        rintro e w5 ⟨r, rfl, hr5, hE5⟩
        rw [HO.out] at hr5
        have hr5' := hr5 w5 ((hWo.trans hHeld.1).trans hE5) (fun _ _ _ => rfl)
        obtain ⟨ov, hrv, hov⟩ := hr5'
        rw [HB.out] at hrv
        subst hrv
        rw [HZ.out] at hov
        obtain ⟨oav, okv, rfl, _, _, _, _, ⟨zA, zac, rfl, _⟩, ⟨zK, zkc, rfl, _⟩⟩ := Nd.rd_open hov
        clear hov
        have HR5 := Lib.hid hr5
        clear hr5
        have H5 := Lib.hid hE5
        refine hK.out _ _ (by obtain ⟨h1, h2, h3, h4, _⟩ := hHeld; exact ⟨h1.trans hE5, h2.ext hE5, h3.ext hE5, h4.ext hE5, (h2.ext hE5).cell 5, (h1.trans hE5).cell hpc0, (h3.ext hE5).cell 0, (h3.ext hE5).cell 1, (h3.ext hE5).cell 2, (h3.ext hE5).cell 3, (h3.ext hE5).cell 4, (h3.ext hE5).cell 5, (h1.trans hE5).cell f0, (h1.trans hE5).cell f1, (h1.trans hE5).cell f2, (h1.trans hE5).cell f3, (h1.trans hE5).cell f4, (h1.trans hE5).cell f5⟩) (fun hHeld => ?_)
        clear hK K' hE5
        try simp only [Act.put, aS]
        refine tk 11 ?_ rfl (.inl ⟨by rfl, ?_⟩) hHeld ?_
        rotate_left
        · intro w hSw
          try dsimp only at hSw
          go_simp
          all_goals (first | with_reducible rfl | rw [if_pos (by omega)])
        try simp only [Act.put, aS]
        refine tk 12 ?_ rfl (.inl ⟨by rfl, ?_⟩) hHeld ?_
        rotate_left
        · intro w hSw
          try dsimp only at hSw
          go_simp
          all_goals (first | with_reducible rfl | rw [if_pos (by omega)])
        try simp only [Act.put, aS]
        refine tk 13 ?_ rfl (.inl ⟨by rfl, ?_⟩) hHeld ?_
        rotate_left
        · intro w hSw
          try dsimp only at hSw
          go_simp
          all_goals (first | with_reducible rfl | rw [if_pos (by omega)])
        try simp only [Act.put, aS]
        refine wpAnyH_ready (rs := [14]) (by kernel_rfl) (by simp) ?_
        refine AllReadyH.cons (o := ⟨_, _, _, _, _, _⟩) rfl (fun K' hK => ?_) (AllReadyH.nil)
        go_simp
        have K5 := NBox.new w5 42 #[.int .u64 0, .bool false, .string ⟨#[]⟩, .slice none 0 0, .string ⟨#[]⟩, .slice none 0 0]
        refine hK.out _ _ (by obtain ⟨h1, h2, h3, h4, _⟩ := hHeld; exact ⟨h1.alloc _, h2.ext ((Ext.refl _).alloc _), h3.ext ((Ext.refl _).alloc _), h4.ext ((Ext.refl _).alloc _), (h2.ext ((Ext.refl _).alloc _)).cell 5, (h1.alloc _).cell hpc0, (h3.ext ((Ext.refl _).alloc _)).cell 0, (h3.ext ((Ext.refl _).alloc _)).cell 1, (h3.ext ((Ext.refl _).alloc _)).cell 2, (h3.ext ((Ext.refl _).alloc _)).cell 3, (h3.ext ((Ext.refl _).alloc _)).cell 4, (h3.ext ((Ext.refl _).alloc _)).cell 5, (h1.alloc _).cell f0, (h1.alloc _).cell f1, (h1.alloc _).cell f2, (h1.alloc _).cell f3, (h1.alloc _).cell f4, (h1.alloc _).cell f5⟩) (fun hHeld => ?_)
        clear hK K'
        try simp only [Act.put, aS]
        obtain ⟨wa, hwa⟩ : ∃ wa, w5.alloc (.cells #[.int .u64 0, .bool false, .string ⟨#[]⟩, .slice none 0 0, .string ⟨#[]⟩, .slice none 0 0] 42) = wa := ⟨_, rfl⟩
        have hsa : wa.heap.size = w5.heap.size + 1 := by rw [← hwa]; simp
        have hba : ∀ k, k < w5.heap.size → wa.heap[k]? = w5.heap[k]? := fun k hk => by rw [← hwa]; exact Below.heap_alloc _ _ _ hk
        have hz5 : w4.heap.size ≤ w5.heap.size := by have := H5.out.size; exact this
        rw [hwa] at K5 hHeld
        rw [hwa]
        have HRW : Hid (∀ W, Sub wo W → (∀ k, w4.heap.size ≤ k → k < wa.heap.size → k ≠ w5.heap.size → W.heap[k]? = wa.heap[k]?) → RdO W o (.tuple #[.agg #[.int .u64 z.id, .bool z.leaf, .string z.label, .slice zA z.attrs.length zac, .string z.text, .slice zK z.kids.length zkc], .bool bb])) :=
          fun W hW hk => HR5.out W hW (fun k h1 h2 => (hk k h1 (by omega) (by omega)).trans (hba k h2))
        have hBlo : w4.heap.size ≤ w5.heap.size := hz5
        have hBhi : w5.heap.size < wa.heap.size := by omega
        clear hwa hba hz5 HR5 H5 hsa
        obtain ⟨c0, c1, c2, c3, c4, c5⟩ := NBox.six K5
        have cf0 := K5.frozen 0; have cf1 := K5.frozen 1; have cf2 := K5.frozen 2; have cf3 := K5.frozen 3; have cf4 := K5.frozen 4; have cf5 := K5.frozen 5
        refine wpAnyH_ready (rs := [15]) (by kernel_rfl) (by simp) ?_
        refine AllReadyH.cons (o := ⟨_, _, _, _, _, _⟩) rfl (fun K' hK => ?_) (AllReadyH.nil)
        go_simp
        have hn1 : w.heap.size ≠ w5.heap.size := by omega
        have hn2 : w.heap.size + 1 ≠ w5.heap.size := by omega
        have hn3 : w.heap.size + 1 + 1 ≠ w5.heap.size := by omega
        have K6 := K5.set6 (.int .u64 z.id) (.bool z.leaf) (.string z.label) (.slice zA z.attrs.length zac) (.string z.text) (.slice zK z.kids.length zkc)
        refine hK.out _ _ (by obtain ⟨h1, h2, h3, h4, _⟩ := hHeld; exact ⟨(h1.set6 (B := w5.heap.size) (by omega) (.int .u64 z.id) (.bool z.leaf) (.string z.label) (.slice zA z.attrs.length zac) (.string z.text) (.slice zK z.kids.length zkc)), (h2.far6 hn1 (.int .u64 z.id) (.bool z.leaf) (.string z.label) (.slice zA z.attrs.length zac) (.string z.text) (.slice zK z.kids.length zkc)), (h3.far6 hn2 (.int .u64 z.id) (.bool z.leaf) (.string z.label) (.slice zA z.attrs.length zac) (.string z.text) (.slice zK z.kids.length zkc)), (h4.far6 hn3 (.int .u64 z.id) (.bool z.leaf) (.string z.label) (.slice zA z.attrs.length zac) (.string z.text) (.slice zK z.kids.length zkc)), ((h2.far6 hn1 (.int .u64 z.id) (.bool z.leaf) (.string z.label) (.slice zA z.attrs.length zac) (.string z.text) (.slice zK z.kids.length zkc))).cell 5, ((h1.set6 (B := w5.heap.size) (by omega) (.int .u64 z.id) (.bool z.leaf) (.string z.label) (.slice zA z.attrs.length zac) (.string z.text) (.slice zK z.kids.length zkc))).cell hpc0, ((h3.far6 hn2 (.int .u64 z.id) (.bool z.leaf) (.string z.label) (.slice zA z.attrs.length zac) (.string z.text) (.slice zK z.kids.length zkc))).cell 0, ((h3.far6 hn2 (.int .u64 z.id) (.bool z.leaf) (.string z.label) (.slice zA z.attrs.length zac) (.string z.text) (.slice zK z.kids.length zkc))).cell 1, ((h3.far6 hn2 (.int .u64 z.id) (.bool z.leaf) (.string z.label) (.slice zA z.attrs.length zac) (.string z.text) (.slice zK z.kids.length zkc))).cell 2, ((h3.far6 hn2 (.int .u64 z.id) (.bool z.leaf) (.string z.label) (.slice zA z.attrs.length zac) (.string z.text) (.slice zK z.kids.length zkc))).cell 3, ((h3.far6 hn2 (.int .u64 z.id) (.bool z.leaf) (.string z.label) (.slice zA z.attrs.length zac) (.string z.text) (.slice zK z.kids.length zkc))).cell 4, ((h3.far6 hn2 (.int .u64 z.id) (.bool z.leaf) (.string z.label) (.slice zA z.attrs.length zac) (.string z.text) (.slice zK z.kids.length zkc))).cell 5, ((h1.set6 (B := w5.heap.size) (by omega) (.int .u64 z.id) (.bool z.leaf) (.string z.label) (.slice zA z.attrs.length zac) (.string z.text) (.slice zK z.kids.length zkc))).cell f0, ((h1.set6 (B := w5.heap.size) (by omega) (.int .u64 z.id) (.bool z.leaf) (.string z.label) (.slice zA z.attrs.length zac) (.string z.text) (.slice zK z.kids.length zkc))).cell f1, ((h1.set6 (B := w5.heap.size) (by omega) (.int .u64 z.id) (.bool z.leaf) (.string z.label) (.slice zA z.attrs.length zac) (.string z.text) (.slice zK z.kids.length zkc))).cell f2, ((h1.set6 (B := w5.heap.size) (by omega) (.int .u64 z.id) (.bool z.leaf) (.string z.label) (.slice zA z.attrs.length zac) (.string z.text) (.slice zK z.kids.length zkc))).cell f3, ((h1.set6 (B := w5.heap.size) (by omega) (.int .u64 z.id) (.bool z.leaf) (.string z.label) (.slice zA z.attrs.length zac) (.string z.text) (.slice zK z.kids.length zkc))).cell f4, ((h1.set6 (B := w5.heap.size) (by omega) (.int .u64 z.id) (.bool z.leaf) (.string z.label) (.slice zA z.attrs.length zac) (.string z.text) (.slice zK z.kids.length zkc))).cell f5⟩) (fun hHeld => ?_)
        clear hK K'
        try simp only [Act.put, aS]
        refine tk 16 ?_ rfl (.inl ⟨by rfl, ?_⟩) hHeld ?_
        rotate_left
        · intro w hSw
          try dsimp only at hSw
          go_simp
          all_goals (first | with_reducible rfl | rw [if_pos (by omega)])
        try simp only [Act.put, aS]
        have hs6 : ((((((wa.setCell ⟨w5.heap.size, 0, none⟩ (.int .u64 z.id)).setCell ⟨w5.heap.size, 1, none⟩ (.bool z.leaf)).setCell ⟨w5.heap.size, 2, none⟩ (.string z.label)).setCell ⟨w5.heap.size, 3, none⟩ (.slice zA z.attrs.length zac)).setCell ⟨w5.heap.size, 4, none⟩ (.string z.text)).setCell ⟨w5.heap.size, 5, none⟩ (.slice zK z.kids.length zkc)).heap.size = wa.heap.size := by simp
        have hb6 : ∀ k, k ≠ w5.heap.size → ((((((wa.setCell ⟨w5.heap.size, 0, none⟩ (.int .u64 z.id)).setCell ⟨w5.heap.size, 1, none⟩ (.bool z.leaf)).setCell ⟨w5.heap.size, 2, none⟩ (.string z.label)).setCell ⟨w5.heap.size, 3, none⟩ (.slice zA z.attrs.length zac)).setCell ⟨w5.heap.size, 4, none⟩ (.string z.text)).setCell ⟨w5.heap.size, 5, none⟩ (.slice zK z.kids.length zkc)).heap[k]? = wa.heap[k]? := fun k hk => heap_at6 wa _ 0 _ _ _ _ _ _ k hk
        obtain ⟨w6, hw6⟩ : ∃ w6, (((((wa.setCell ⟨w5.heap.size, 0, none⟩ (.int .u64 z.id)).setCell ⟨w5.heap.size, 1, none⟩ (.bool z.leaf)).setCell ⟨w5.heap.size, 2, none⟩ (.string z.label)).setCell ⟨w5.heap.size, 3, none⟩ (.slice zA z.attrs.length zac)).setCell ⟨w5.heap.size, 4, none⟩ (.string z.text)).setCell ⟨w5.heap.size, 5, none⟩ (.slice zK z.kids.length zkc) = w6 := ⟨_, rfl⟩
        rw [hw6] at hs6 K6 hHeld
        simp only [hw6] at hb6
        rw [hw6]
        refine wpAnyH_done (by kernel_rfl) ?_ _
        obtain ⟨E6, N6, X6, R6, _⟩ := hHeld
        have HRW6 : Hid (∀ W, Sub wo W → (∀ k, w4.heap.size ≤ k → k < w6.heap.size → k ≠ w5.heap.size → W.heap[k]? = w6.heap[k]?) → RdO W o (.tuple #[.agg #[.int .u64 z.id, .bool z.leaf, .string z.label, .slice zA z.attrs.length zac, .string z.text, .slice zK z.kids.length zkc], .bool bb])) :=
          fun W hW hk => HRW.out W hW (fun k h1 h2 h3 => (hk k h1 (by omega) h3).trans (hb6 k h3))
        have hB6 : w5.heap.size < w6.heap.size := by omega
        clear hw6 hb6 HRW K5 c0 c1 c2 c3 c4 c5 cf0 cf1 cf2 cf3 cf4 cf5
        generalize (if qc = 1 then (some ⟨pb, po, none⟩ : Option Addr) else some ⟨pb, po + 1, none⟩) = ta
        have n5 : w6.cell? ⟨w.heap.size, 5, none⟩ = some (.slice (some ⟨kb, ko, none⟩) t.kids.length kc) := N6.cell 5
        obtain ⟨r0, r1, r2, r3, r4, r5⟩ := NBox.six R6
        have rf0 := R6.frozen 0; have rf1 := R6.frozen 1; have rf2 := R6.frozen 2; have rf3 := R6.frozen 3; have rf4 := R6.frozen 4; have rf5 := R6.frozen 5
        rcases bb with _ | _
        · have HP : Hid (t.put ((m : Int) :: p) x = none) := put_none hkid (by rw [HO.out]; have := HB.out; cases o with | none => rfl | some k => cases this)
          go_wp2_with fail
          exact bodyPost_ret (results_node rfl rfl rfl (NBox.set6 R6 _ _ _ _ _ _) Try.underlying42 rfl info42) rfl ⟨_, rfl, (fun W _ _ => ⟨zeroV, by rw [HP.out]; rfl, by rw [HP.out]; exact zero_rd _⟩), E6.set6 (by omega) _ _ _ _ _ _⟩
        · have HP : Hid (t.put ((m : Int) :: p) x = some (t.withKids (t.kids.set m z))) := put_some hkid (by rw [HO.out]; have := HB.out; have := HZ.out; cases o with | none => cases HB.out | some k => rw [show z = k from this.symm])
          have hnil : w6.ownsRow w6.heap.size 42 6 (.slice none 0 0) 0 [] := ⟨rfl, .inl ⟨rfl, rfl⟩⟩
          have hRS6 := hRS.sub (hWo.trans E6)
          clear r0 r1 r2 r3 r4 r5 rf0 rf1 rf2 rf3 rf4 rf5
          go_wp2_with (first
            | (at_builtin
               refine wpList_append_rd rfl rfl T24 (v := _) (by rfl) hnil (by rfl) hRS6 hone.out (by omega) (by simp only [maxLen]; omega) (Nat.le_refl _) ?_
               intro v3 w7 hown hg hat
               simp only [Nat.zero_add, List.nil_append] at hown
               obtain ⟨g, cap, rfl, hg1, hg2⟩ := World.ownsRow.form hown (by omega)))
          have E67 : Ext w6 w7 := Ext.grown (Ext.refl w6) hg (fun k hk => by cases hk)
          replace K6 := K6.ext E67
          have hne : w5.heap.size ≠ g := by omega
          have gn1 : w.heap.size ≠ g := by have := E6.size; omega
          have gn3 : w.heap.size + 1 + 1 ≠ g := by omega
          obtain ⟨yA', ya', yK', yk', g0, g1, g2, g3, g4, g5, _⟩ := rowK_get hxs hkid
          rw [← hown.cellAt (m * 6) (by omega)] at g0
          rw [← hown.cellAt (m * 6 + 1) (by omega)] at g1
          rw [← hown.cellAt (m * 6 + 2) (by omega)] at g2
          rw [← hown.cellAt (m * 6 + 3) (by omega)] at g3
          rw [← hown.cellAt (m * 6 + 4) (by omega)] at g4
          rw [← hown.cellAt (m * 6 + 5) (by omega)] at g5
          have gf0 := hown.frozenAt (m * 6); have gf1 := hown.frozenAt (m * 6 + 1); have gf2 := hown.frozenAt (m * 6 + 2); have gf3 := hown.frozenAt (m * 6 + 3); have gf4 := hown.frozenAt (m * 6 + 4); have gf5 := hown.frozenAt (m * 6 + 5)
          refine wp_region_held_drew (S := (fun W => Ext w W ∧ NBox W w.heap.size 42 #[.int .u64 t.id, .bool t.leaf, .string t.label, .slice aA t.attrs.length ac, .string t.text, .slice (some ⟨kb, ko, none⟩) t.kids.length kc] ∧ NBox W (w.heap.size + 1 + 1) 42 #[.int .u64 0, .bool false, .string ⟨#[]⟩, .slice none 0 0, .string ⟨#[]⟩, .slice none 0 0] ∧ NBox W (w5.heap.size) 42 #[.int .u64 z.id, .bool z.leaf, .string z.label, .slice zA z.attrs.length zac, .string z.text, .slice zK z.kids.length zkc] ∧ W.cell? ⟨pb, po, none⟩ = some (.int .i64 m) ∧ W.cell? ⟨w5.heap.size, 0, none⟩ = some (.int .u64 z.id) ∧ W.cell? ⟨w5.heap.size, 1, none⟩ = some (.bool z.leaf) ∧ W.cell? ⟨w5.heap.size, 2, none⟩ = some (.string z.label) ∧ W.cell? ⟨w5.heap.size, 3, none⟩ = some (.slice zA z.attrs.length zac) ∧ W.cell? ⟨w5.heap.size, 4, none⟩ = some (.string z.text) ∧ W.cell? ⟨w5.heap.size, 5, none⟩ = some (.slice zK z.kids.length zkc))) (by kernel_rfl) (by have e := (E6.trans E67).drew; have n := N6.ext E67; have r := R6.ext E67; exact ⟨e, n, r, K6, (e).cell hpc0, (K6).cell 0, (K6).cell 1, (K6).cell 2, (K6).cell 3, (K6).cell 4, (K6).cell 5⟩) (fun hHeld => ?_)
          refine tk 0 ?_ rfl (.inl ⟨by rfl, ?_⟩) hHeld ?_
          rotate_left
          · intro w hSw
            try dsimp only at hSw
            go_simp
            all_goals (first | with_reducible rfl | rw [if_pos (by omega)])
          try simp only [Act.put, aS]
          refine tk 1 ?_ rfl (.inl ⟨by rfl, ?_⟩) hHeld ?_
          rotate_left
          · intro w hSw
            try dsimp only at hSw
            go_simp
            all_goals (first | with_reducible rfl | rw [if_pos (by omega)])
          try simp only [Act.put, aS]
          refine tk 2 ?_ rfl (.inl ⟨by rfl, ?_⟩) hHeld ?_
          rotate_left
          · intro w hSw
            try dsimp only at hSw
            go_simp
            all_goals (first | with_reducible rfl | rw [if_pos (by omega)])
          try simp only [Act.put, aS]
          refine tk 3 ?_ rfl (.inl ⟨by rfl, ?_⟩) hHeld ?_
          rotate_left
          · intro w hSw
            try dsimp only at hSw
            go_simp
            all_goals (first | with_reducible rfl | rw [if_pos (by omega)])
          try simp only [Act.put, aS]
          refine tk 4 ?_ rfl (.inl ⟨by rfl, ?_⟩) hHeld ?_
          rotate_left
          · intro w hSw
            try dsimp only at hSw
            go_simp
            all_goals (first | with_reducible rfl | rw [if_pos (by omega)])
          try simp only [Act.put, aS]
          refine tk 5 ?_ rfl (.inl ⟨by rfl, ?_⟩) hHeld ?_
          rotate_left
          · intro w hSw
            try dsimp only at hSw
            go_simp
            all_goals (first | with_reducible rfl | rw [if_pos (by omega)])
          try simp only [Act.put, aS]
          refine wpAnyH_ready (rs := [6]) (by kernel_rfl) (by simp) ?_
          refine AllReadyH.cons (o := ⟨_, _, _, _, _, _⟩) rfl (fun K' hK => ?_) (AllReadyH.nil)
          go_simp
          have own8 := own_set6 hown (m * 6) (.int .u64 z.id) (.bool z.leaf) (.string z.label) (.slice zA z.attrs.length zac) (.string z.text) (.slice zK z.kids.length zkc)
          have E8 := ((E6.trans E67).setAt (B := g) (by have := E6.size; omega) (m * 6) (.int .u64 z.id) (.bool z.leaf) (.string z.label) (.slice zA z.attrs.length zac) (.string z.text) (.slice zK z.kids.length zkc)).drew
          have N8 := ((N6.ext E67).farAt gn1 (m * 6) (.int .u64 z.id) (.bool z.leaf) (.string z.label) (.slice zA z.attrs.length zac) (.string z.text) (.slice zK z.kids.length zkc)).drew
          have R8 := ((R6.ext E67).farAt gn3 (m * 6) (.int .u64 z.id) (.bool z.leaf) (.string z.label) (.slice zA z.attrs.length zac) (.string z.text) (.slice zK z.kids.length zkc)).drew
          have K8 := (K6.farAt hne (m * 6) (.int .u64 z.id) (.bool z.leaf) (.string z.label) (.slice zA z.attrs.length zac) (.string z.text) (.slice zK z.kids.length zkc)).drew
          have hb8 : ∀ k, k ≠ g → ((((((w7.setCell ⟨g, m * 6, none⟩ (.int .u64 z.id)).setCell ⟨g, m * 6 + 1, none⟩ (.bool z.leaf)).setCell ⟨g, m * 6 + 2, none⟩ (.string z.label)).setCell ⟨g, m * 6 + 3, none⟩ (.slice zA z.attrs.length zac)).setCell ⟨g, m * 6 + 4, none⟩ (.string z.text)).setCell ⟨g, m * 6 + 5, none⟩ (.slice zK z.kids.length zkc)).heap[k]? = w7.heap[k]? := fun k hk => heap_at6 w7 g (m * 6) _ _ _ _ _ _ k hk
          have hs8 : ((((((w7.setCell ⟨g, m * 6, none⟩ (.int .u64 z.id)).setCell ⟨g, m * 6 + 1, none⟩ (.bool z.leaf)).setCell ⟨g, m * 6 + 2, none⟩ (.string z.label)).setCell ⟨g, m * 6 + 3, none⟩ (.slice zA z.attrs.length zac)).setCell ⟨g, m * 6 + 4, none⟩ (.string z.text)).setCell ⟨g, m * 6 + 5, none⟩ (.slice zK z.kids.length zkc)).heap.size = w7.heap.size := by simp
          obtain ⟨wq, hwq⟩ : ∃ wq, (((((w7.setCell ⟨g, m * 6, none⟩ (.int .u64 z.id)).setCell ⟨g, m * 6 + 1, none⟩ (.bool z.leaf)).setCell ⟨g, m * 6 + 2, none⟩ (.string z.label)).setCell ⟨g, m * 6 + 3, none⟩ (.slice zA z.attrs.length zac)).setCell ⟨g, m * 6 + 4, none⟩ (.string z.text)).setCell ⟨g, m * 6 + 5, none⟩ (.slice zK z.kids.length zkc) = wq := ⟨_, rfl⟩
          rw [hwq] at E8 N8 R8 K8 own8 hs8
          simp only [hwq] at hb8
          rw [hwq]
          refine hK.out _ _ ⟨E8, N8, R8, K8, (E8).cell hpc0, (K8).cell 0, (K8).cell 1, (K8).cell 2, (K8).cell 3, (K8).cell 4, (K8).cell 5⟩ (fun _ => ?_)
          clear hwq hK K' hHeld
          try simp only [Act.put, aS]
          obtain ⟨w8, hw8⟩ : ∃ w8, wq.drew = w8 := ⟨_, rfl⟩
          have hb8' : ∀ k, k ≠ g → w8.heap[k]? = w7.heap[k]? := fun k hk => by rw [← hw8]; exact hb8 k hk
          have hs8' : w8.heap.size = w7.heap.size := by rw [← hw8]; exact hs8
          replace own8 := own8.drew
          rw [hw8] at E8 N8 R8 K8 own8
          rw [hw8]
          have HB8 := Lib.hid hb8'
          have HS8 := Lib.hid hs8'
          clear hb8 hs8 hb8' hs8'
          refine wpAnyH_done (by kernel_rfl) ?_ _
          clear hw8 g0 g1 g2 g3 g4 g5 gf0 gf1 gf2 gf3 gf4 gf5 n5
          obtain ⟨n0, n1, n2, n3, n4, n5⟩ := NBox.six N8
          have nf5 := N8.frozen 5
          obtain ⟨r0, r1, r2, r3, r4, r5⟩ := NBox.six R8
          have rf0 := R8.frozen 0; have rf1 := R8.frozen 1; have rf2 := R8.frozen 2; have rf3 := R8.frozen 3; have rf4 := R8.frozen 4; have rf5 := R8.frozen 5
          go_wp2_with fail
          exact bodyPost_ret (results_node rfl rfl rfl (NBox.set6 (R8.other (p := ⟨w.heap.size, 5, none⟩) (by simp; omega) (.slice (some ⟨g, 0, none⟩) t.kids.length cap)) _ _ _ _ _ _) Try.underlying42 rfl info42) rfl ⟨_, rfl, (fun W hW hB => by
            have hsz : w8.heap.size = w7.heap.size := HS8.out
            have h67 := E67.size
            have hB' : ∀ k, w.heap.size ≤ k → k < w8.heap.size → k ≠ w.heap.size → k ≠ w.heap.size + 1 + 1 → W.heap[k]? = w8.heap[k]? := fun k h1 h2 h3 h4 => by
              rw [hB k h1 (by simpa using h2), heap_at6 _ (w.heap.size + 1 + 1) 0 _ _ _ _ _ _ k h4, Below.heap_setCell _ _ _ _ h3]
            have hk' : z.rd W (.agg #[.int .u64 z.id, .bool z.leaf, .string z.label, .slice zA z.attrs.length zac, .string z.text, .slice zK z.kids.length zkc]) := by
              obtain ⟨ov, h1, h2⟩ := HRW6.out W hW (fun k h1 h2 h3 => by
                rw [hB' k (by omega) (by omega) (by omega) (by omega), HB8.out k (by omega)]
                exact E67.block k h2)
              have h3 := HB.out
              have h4 := HZ.out
              simp only [Value.tuple.injEq, Array.mk.injEq, List.cons.injEq, and_true] at h1
              rw [h1.1]
              rw [h4] at h2
              exact h2
            have hset := rowK_set (rowK_sub hW hxs) hm hk'
            have ownW := owns_same own8 (hB' g (by omega) (by omega) (by omega) (by omega))
            have hRK : RdK W (t.kids.set m z) (.slice (some ⟨g, 0, none⟩) t.kids.length cap) := by
              have hro := RdS.of_owns ownW
              rw [show t.kids.length = (t.kids.set m z).length by simp] at hro
              have := RdK.of_row hset hro
              simpa using this
            rw [HP.out]
            exact ⟨_, rfl, Nd.rd_shut (t := t.withKids (t.kids.set m z)) i0 i1 hl htx (hA0.sub hW) hRK⟩), Ext.set6 (Below.setCell E8 (p := ⟨w.heap.size, 5, none⟩) (Nat.le_refl _) _) (by omega) _ _ _ _ _ _⟩
      · go_simp
        have K5 : NBox (w4.drew.alloc (.cells #[.int .u64 0, .bool false, .string ⟨#[]⟩, .slice none 0 0, .string ⟨#[]⟩, .slice none 0 0] 42)) w4.heap.size 42 #[.int .u64 0, .bool false, .string ⟨#[]⟩, .slice none 0 0, .string ⟨#[]⟩, .slice none 0 0] := NBox.new w4.drew 42 #[.int .u64 0, .bool false, .string ⟨#[]⟩, .slice none 0 0, .string ⟨#[]⟩, .slice none 0 0]
        refine hK.out _ _ (by obtain ⟨h1, h2, h3, h4, _⟩ := hHeld; exact ⟨h1.alloc _, h2.ext ((Ext.refl _).alloc _), h3.ext ((Ext.refl _).alloc _), h4.ext ((Ext.refl _).alloc _), (h2.ext ((Ext.refl _).alloc _)).cell 5, (h1.alloc _).cell hpc0, (h3.ext ((Ext.refl _).alloc _)).cell 0, (h3.ext ((Ext.refl _).alloc _)).cell 1, (h3.ext ((Ext.refl _).alloc _)).cell 2, (h3.ext ((Ext.refl _).alloc _)).cell 3, (h3.ext ((Ext.refl _).alloc _)).cell 4, (h3.ext ((Ext.refl _).alloc _)).cell 5, (h1.alloc _).cell f0, (h1.alloc _).cell f1, (h1.alloc _).cell f2, (h1.alloc _).cell f3, (h1.alloc _).cell f4, (h1.alloc _).cell f5⟩) (fun hHeld => ?_)
        clear hK K'
        try simp only [Act.put, aS]
        obtain ⟨wb, hwb⟩ : ∃ wb, w4.drew.alloc (.cells #[.int .u64 0, .bool false, .string ⟨#[]⟩, .slice none 0 0, .string ⟨#[]⟩, .slice none 0 0] 42) = wb := ⟨_, rfl⟩
        have hsb : wb.heap.size = w4.heap.size + 1 := by rw [← hwb, World.size_alloc]; rfl
        replace hHeld : (fun W => Ext w W ∧ NBox W w.heap.size 42 #[.int .u64 t.id, .bool t.leaf, .string t.label, .slice aA t.attrs.length ac, .string t.text, .slice (some ⟨kb, ko, none⟩) t.kids.length kc] ∧ NBox W (w.heap.size + 1) 42 #[.int .u64 x.id, .bool x.leaf, .string x.label, .slice xA x.attrs.length xac, .string x.text, .slice xK x.kids.length xkc] ∧ NBox W (w.heap.size + 1 + 1) 42 #[.int .u64 0, .bool false, .string ⟨#[]⟩, .slice none 0 0, .string ⟨#[]⟩, .slice none 0 0] ∧ W.cell? ⟨w.heap.size, 5, none⟩ = some (.slice (some ⟨kb, ko, none⟩) t.kids.length kc) ∧ W.cell? ⟨pb, po, none⟩ = some (.int .i64 m) ∧ W.cell? ⟨w.heap.size + 1, 0, none⟩ = some (.int .u64 x.id) ∧ W.cell? ⟨w.heap.size + 1, 1, none⟩ = some (.bool x.leaf) ∧ W.cell? ⟨w.heap.size + 1, 2, none⟩ = some (.string x.label) ∧ W.cell? ⟨w.heap.size + 1, 3, none⟩ = some (.slice xA x.attrs.length xac) ∧ W.cell? ⟨w.heap.size + 1, 4, none⟩ = some (.string x.text) ∧ W.cell? ⟨w.heap.size + 1, 5, none⟩ = some (.slice xK x.kids.length xkc) ∧ W.cell? ⟨kb, ko + m * 6, none⟩ = some (.int .u64 kid.id) ∧ W.cell? ⟨kb, ko + m * 6 + 1, none⟩ = some (.bool kid.leaf) ∧ W.cell? ⟨kb, ko + m * 6 + 2, none⟩ = some (.string kid.label) ∧ W.cell? ⟨kb, ko + m * 6 + 3, none⟩ = some (.slice yA kid.attrs.length ya) ∧ W.cell? ⟨kb, ko + m * 6 + 4, none⟩ = some (.string kid.text) ∧ W.cell? ⟨kb, ko + m * 6 + 5, none⟩ = some (.slice yK kid.kids.length yk)) (w4.drew.alloc (.cells #[.int .u64 0, .bool false, .string ⟨#[]⟩, .slice none 0 0, .string ⟨#[]⟩, .slice none 0 0] 42)) := hHeld
        change wpAnyH _ _ _ _ _ _ _ _ (w4.drew.alloc (.cells #[.int .u64 0, .bool false, .string ⟨#[]⟩, .slice none 0 0, .string ⟨#[]⟩, .slice none 0 0] 42))
        rw [hwb] at K5 hHeld
        rw [hwb]
        clear hwb
        refine wpAnyH_ready (rs := [10]) (by kernel_rfl) (by simp) ?_
        refine AllReadyH.cons (o := ⟨_, _, _, _, _, _⟩) rfl (fun K' hK => ?_) (AllReadyH.nil)
        go_simp
        go_at_call 59
        refine (ih kid x _ _ _ wo _ (hWo.trans hHeld.1) HY.out HX.out ((RdI_tail hq).ext hHeld.1) (Nat.le_trans (Nat.le_of_lt (Nd.wt_kid hkid)) hwt)).mono ?_
        rintro e w5 ⟨r, rfl, hr5, hE5⟩
        rw [HO.out] at hr5
        have hr5' := hr5 w5 ((hWo.trans hHeld.1).trans hE5) (fun _ _ _ => rfl)
        obtain ⟨ov, hrv, hov⟩ := hr5'
        rw [HB.out] at hrv
        subst hrv
        rw [HZ.out] at hov
        obtain ⟨oav, okv, rfl, _, _, _, _, ⟨zA, zac, rfl, _⟩, ⟨zK, zkc, rfl, _⟩⟩ := Nd.rd_open hov
        clear hov
        have HR5 := Lib.hid hr5
        clear hr5
        have H5 := Lib.hid hE5
        refine hK.out _ _ (by obtain ⟨h1, h2, h3, h4, _⟩ := hHeld; exact ⟨h1.trans hE5, h2.ext hE5, h3.ext hE5, h4.ext hE5, (h2.ext hE5).cell 5, (h1.trans hE5).cell hpc0, (h3.ext hE5).cell 0, (h3.ext hE5).cell 1, (h3.ext hE5).cell 2, (h3.ext hE5).cell 3, (h3.ext hE5).cell 4, (h3.ext hE5).cell 5, (h1.trans hE5).cell f0, (h1.trans hE5).cell f1, (h1.trans hE5).cell f2, (h1.trans hE5).cell f3, (h1.trans hE5).cell f4, (h1.trans hE5).cell f5⟩) (fun hHeld => ?_)
        clear hK K'
        try simp only [Act.put, aS]
        refine tk 11 ?_ rfl (.inl ⟨by rfl, ?_⟩) hHeld ?_
        rotate_left
        · intro w hSw
          try dsimp only at hSw
          go_simp
          all_goals (first | with_reducible rfl | rw [if_pos (by omega)])
        try simp only [Act.put, aS]
        refine tk 12 ?_ rfl (.inl ⟨by rfl, ?_⟩) hHeld ?_
        rotate_left
        · intro w hSw
          try dsimp only at hSw
          go_simp
          all_goals (first | with_reducible rfl | rw [if_pos (by omega)])
        try simp only [Act.put, aS]
        refine tk 13 ?_ rfl (.inl ⟨by rfl, ?_⟩) hHeld ?_
        rotate_left
        · intro w hSw
          try dsimp only at hSw
          go_simp
          all_goals (first | with_reducible rfl | rw [if_pos (by omega)])
        try simp only [Act.put, aS]
        replace K5 := K5.ext hE5
        have hz5 : wb.heap.size ≤ w5.heap.size := hE5.size
        have HRW : Hid (∀ W, Sub wo W → (∀ k, w4.heap.size ≤ k → k < w5.heap.size → k ≠ w4.heap.size → W.heap[k]? = w5.heap[k]?) → RdO W o (.tuple #[.agg #[.int .u64 z.id, .bool z.leaf, .string z.label, .slice zA z.attrs.length zac, .string z.text, .slice zK z.kids.length zkc], .bool bb])) :=
          fun W hW hk => HR5.out W hW (fun k h1 h2 => hk k (by omega) h2 (by omega))
        have hBlo : w4.heap.size ≤ w4.heap.size := Nat.le_refl _
        have hBhi : w4.heap.size < w5.heap.size := by omega
        clear hz5 HR5 H5 hE5 hsb
        obtain ⟨c0, c1, c2, c3, c4, c5⟩ := NBox.six K5
        have cf0 := K5.frozen 0; have cf1 := K5.frozen 1; have cf2 := K5.frozen 2; have cf3 := K5.frozen 3; have cf4 := K5.frozen 4; have cf5 := K5.frozen 5
        refine wpAnyH_ready (rs := [15]) (by kernel_rfl) (by simp) ?_
        refine AllReadyH.cons (o := ⟨_, _, _, _, _, _⟩) rfl (fun K' hK => ?_) (AllReadyH.nil)
        go_simp
        have hn1 : w.heap.size ≠ w4.heap.size := by omega
        have hn2 : w.heap.size + 1 ≠ w4.heap.size := by omega
        have hn3 : w.heap.size + 1 + 1 ≠ w4.heap.size := by omega
        have K6 := K5.set6 (.int .u64 z.id) (.bool z.leaf) (.string z.label) (.slice zA z.attrs.length zac) (.string z.text) (.slice zK z.kids.length zkc)
        refine hK.out _ _ (by obtain ⟨h1, h2, h3, h4, _⟩ := hHeld; exact ⟨(h1.set6 (B := w4.heap.size) (by omega) (.int .u64 z.id) (.bool z.leaf) (.string z.label) (.slice zA z.attrs.length zac) (.string z.text) (.slice zK z.kids.length zkc)), (h2.far6 hn1 (.int .u64 z.id) (.bool z.leaf) (.string z.label) (.slice zA z.attrs.length zac) (.string z.text) (.slice zK z.kids.length zkc)), (h3.far6 hn2 (.int .u64 z.id) (.bool z.leaf) (.string z.label) (.slice zA z.attrs.length zac) (.string z.text) (.slice zK z.kids.length zkc)), (h4.far6 hn3 (.int .u64 z.id) (.bool z.leaf) (.string z.label) (.slice zA z.attrs.length zac) (.string z.text) (.slice zK z.kids.length zkc)), ((h2.far6 hn1 (.int .u64 z.id) (.bool z.leaf) (.string z.label) (.slice zA z.attrs.length zac) (.string z.text) (.slice zK z.kids.length zkc))).cell 5, ((h1.set6 (B := w4.heap.size) (by omega) (.int .u64 z.id) (.bool z.leaf) (.string z.label) (.slice zA z.attrs.length zac) (.string z.text) (.slice zK z.kids.length zkc))).cell hpc0, ((h3.far6 hn2 (.int .u64 z.id) (.bool z.leaf) (.string z.label) (.slice zA z.attrs.length zac) (.string z.text) (.slice zK z.kids.length zkc))).cell 0, ((h3.far6 hn2 (.int .u64 z.id) (.bool z.leaf) (.string z.label) (.slice zA z.attrs.length zac) (.string z.text) (.slice zK z.kids.length zkc))).cell 1, ((h3.far6 hn2 (.int .u64 z.id) (.bool z.leaf) (.string z.label) (.slice zA z.attrs.length zac) (.string z.text) (.slice zK z.kids.length zkc))).cell 2, ((h3.far6 hn2 (.int .u64 z.id) (.bool z.leaf) (.string z.label) (.slice zA z.attrs.length zac) (.string z.text) (.slice zK z.kids.length zkc))).cell 3, ((h3.far6 hn2 (.int .u64 z.id) (.bool z.leaf) (.string z.label) (.slice zA z.attrs.length zac) (.string z.text) (.slice zK z.kids.length zkc))).cell 4, ((h3.far6 hn2 (.int .u64 z.id) (.bool z.leaf) (.string z.label) (.slice zA z.attrs.length zac) (.string z.text) (.slice zK z.kids.length zkc))).cell 5, ((h1.set6 (B := w4.heap.size) (by omega) (.int .u64 z.id) (.bool z.leaf) (.string z.label) (.slice zA z.attrs.length zac) (.string z.text) (.slice zK z.kids.length zkc))).cell f0, ((h1.set6 (B := w4.heap.size) (by omega) (.int .u64 z.id) (.bool z.leaf) (.string z.label) (.slice zA z.attrs.length zac) (.string z.text) (.slice zK z.kids.length zkc))).cell f1, ((h1.set6 (B := w4.heap.size) (by omega) (.int .u64 z.id) (.bool z.leaf) (.string z.label) (.slice zA z.attrs.length zac) (.string z.text) (.slice zK z.kids.length zkc))).cell f2, ((h1.set6 (B := w4.heap.size) (by omega) (.int .u64 z.id) (.bool z.leaf) (.string z.label) (.slice zA z.attrs.length zac) (.string z.text) (.slice zK z.kids.length zkc))).cell f3, ((h1.set6 (B := w4.heap.size) (by omega) (.int .u64 z.id) (.bool z.leaf) (.string z.label) (.slice zA z.attrs.length zac) (.string z.text) (.slice zK z.kids.length zkc))).cell f4, ((h1.set6 (B := w4.heap.size) (by omega) (.int .u64 z.id) (.bool z.leaf) (.string z.label) (.slice zA z.attrs.length zac) (.string z.text) (.slice zK z.kids.length zkc))).cell f5⟩) (fun hHeld => ?_)
        clear hK K'
        try simp only [Act.put, aS]
        refine tk 16 ?_ rfl (.inl ⟨by rfl, ?_⟩) hHeld ?_
        rotate_left
        · intro w hSw
          try dsimp only at hSw
          go_simp
          all_goals (first | with_reducible rfl | rw [if_pos (by omega)])
        try simp only [Act.put, aS]
        have hs6 : ((((((w5.setCell ⟨w4.heap.size, 0, none⟩ (.int .u64 z.id)).setCell ⟨w4.heap.size, 1, none⟩ (.bool z.leaf)).setCell ⟨w4.heap.size, 2, none⟩ (.string z.label)).setCell ⟨w4.heap.size, 3, none⟩ (.slice zA z.attrs.length zac)).setCell ⟨w4.heap.size, 4, none⟩ (.string z.text)).setCell ⟨w4.heap.size, 5, none⟩ (.slice zK z.kids.length zkc)).heap.size = w5.heap.size := by simp
        have hb6 : ∀ k, k ≠ w4.heap.size → ((((((w5.setCell ⟨w4.heap.size, 0, none⟩ (.int .u64 z.id)).setCell ⟨w4.heap.size, 1, none⟩ (.bool z.leaf)).setCell ⟨w4.heap.size, 2, none⟩ (.string z.label)).setCell ⟨w4.heap.size, 3, none⟩ (.slice zA z.attrs.length zac)).setCell ⟨w4.heap.size, 4, none⟩ (.string z.text)).setCell ⟨w4.heap.size, 5, none⟩ (.slice zK z.kids.length zkc)).heap[k]? = w5.heap[k]? := fun k hk => heap_at6 w5 _ 0 _ _ _ _ _ _ k hk
        obtain ⟨w6, hw6⟩ : ∃ w6, (((((w5.setCell ⟨w4.heap.size, 0, none⟩ (.int .u64 z.id)).setCell ⟨w4.heap.size, 1, none⟩ (.bool z.leaf)).setCell ⟨w4.heap.size, 2, none⟩ (.string z.label)).setCell ⟨w4.heap.size, 3, none⟩ (.slice zA z.attrs.length zac)).setCell ⟨w4.heap.size, 4, none⟩ (.string z.text)).setCell ⟨w4.heap.size, 5, none⟩ (.slice zK z.kids.length zkc) = w6 := ⟨_, rfl⟩
        rw [hw6] at hs6 K6 hHeld
        simp only [hw6] at hb6
        rw [hw6]
        refine wpAnyH_done (by kernel_rfl) ?_ _
        obtain ⟨E6, N6, X6, R6, _⟩ := hHeld
        have HRW6 : Hid (∀ W, Sub wo W → (∀ k, w4.heap.size ≤ k → k < w6.heap.size → k ≠ w4.heap.size → W.heap[k]? = w6.heap[k]?) → RdO W o (.tuple #[.agg #[.int .u64 z.id, .bool z.leaf, .string z.label, .slice zA z.attrs.length zac, .string z.text, .slice zK z.kids.length zkc], .bool bb])) :=
          fun W hW hk => HRW.out W hW (fun k h1 h2 h3 => (hk k h1 (by omega) h3).trans (hb6 k h3))
        have hB6 : w4.heap.size < w6.heap.size := by omega
        clear hw6 hb6 HRW K5 c0 c1 c2 c3 c4 c5 cf0 cf1 cf2 cf3 cf4 cf5
        generalize (if qc = 1 then (some ⟨pb, po, none⟩ : Option Addr) else some ⟨pb, po + 1, none⟩) = ta
        have n5 : w6.cell? ⟨w.heap.size, 5, none⟩ = some (.slice (some ⟨kb, ko, none⟩) t.kids.length kc) := N6.cell 5
        obtain ⟨r0, r1, r2, r3, r4, r5⟩ := NBox.six R6
        have rf0 := R6.frozen 0; have rf1 := R6.frozen 1; have rf2 := R6.frozen 2; have rf3 := R6.frozen 3; have rf4 := R6.frozen 4; have rf5 := R6.frozen 5
        rcases bb with _ | _
        · have HP : Hid (t.put ((m : Int) :: p) x = none) := put_none hkid (by rw [HO.out]; have := HB.out; cases o with | none => rfl | some k => cases this)
          go_wp2_with fail
          exact bodyPost_ret (results_node rfl rfl rfl (NBox.set6 R6 _ _ _ _ _ _) Try.underlying42 rfl info42) rfl ⟨_, rfl, (fun W _ _ => ⟨zeroV, by rw [HP.out]; rfl, by rw [HP.out]; exact zero_rd _⟩), E6.set6 (by omega) _ _ _ _ _ _⟩
        · have HP : Hid (t.put ((m : Int) :: p) x = some (t.withKids (t.kids.set m z))) := put_some hkid (by rw [HO.out]; have := HB.out; have := HZ.out; cases o with | none => cases HB.out | some k => rw [show z = k from this.symm])
          have hnil : w6.ownsRow w6.heap.size 42 6 (.slice none 0 0) 0 [] := ⟨rfl, .inl ⟨rfl, rfl⟩⟩
          have hRS6 := hRS.sub (hWo.trans E6)
          clear r0 r1 r2 r3 r4 r5 rf0 rf1 rf2 rf3 rf4 rf5
          go_wp2_with (first
            | (at_builtin
               refine wpList_append_rd rfl rfl T24 (v := _) (by rfl) hnil (by rfl) hRS6 hone.out (by omega) (by simp only [maxLen]; omega) (Nat.le_refl _) ?_
               intro v3 w7 hown hg hat
               simp only [Nat.zero_add, List.nil_append] at hown
               obtain ⟨g, cap, rfl, hg1, hg2⟩ := World.ownsRow.form hown (by omega)))
          have E67 : Ext w6 w7 := Ext.grown (Ext.refl w6) hg (fun k hk => by cases hk)
          replace K6 := K6.ext E67
          have hne : w4.heap.size ≠ g := by omega
          have gn1 : w.heap.size ≠ g := by have := E6.size; omega
          have gn3 : w.heap.size + 1 + 1 ≠ g := by omega
          obtain ⟨yA', ya', yK', yk', g0, g1, g2, g3, g4, g5, _⟩ := rowK_get hxs hkid
          rw [← hown.cellAt (m * 6) (by omega)] at g0
          rw [← hown.cellAt (m * 6 + 1) (by omega)] at g1
          rw [← hown.cellAt (m * 6 + 2) (by omega)] at g2
          rw [← hown.cellAt (m * 6 + 3) (by omega)] at g3
          rw [← hown.cellAt (m * 6 + 4) (by omega)] at g4
          rw [← hown.cellAt (m * 6 + 5) (by omega)] at g5
          have gf0 := hown.frozenAt (m * 6); have gf1 := hown.frozenAt (m * 6 + 1); have gf2 := hown.frozenAt (m * 6 + 2); have gf3 := hown.frozenAt (m * 6 + 3); have gf4 := hown.frozenAt (m * 6 + 4); have gf5 := hown.frozenAt (m * 6 + 5)
          refine wp_region_held_drew (S := (fun W => Ext w W ∧ NBox W w.heap.size 42 #[.int .u64 t.id, .bool t.leaf, .string t.label, .slice aA t.attrs.length ac, .string t.text, .slice (some ⟨kb, ko, none⟩) t.kids.length kc] ∧ NBox W (w.heap.size + 1 + 1) 42 #[.int .u64 0, .bool false, .string ⟨#[]⟩, .slice none 0 0, .string ⟨#[]⟩, .slice none 0 0] ∧ NBox W (w4.heap.size) 42 #[.int .u64 z.id, .bool z.leaf, .string z.label, .slice zA z.attrs.length zac, .string z.text, .slice zK z.kids.length zkc] ∧ W.cell? ⟨pb, po, none⟩ = some (.int .i64 m) ∧ W.cell? ⟨w4.heap.size, 0, none⟩ = some (.int .u64 z.id) ∧ W.cell? ⟨w4.heap.size, 1, none⟩ = some (.bool z.leaf) ∧ W.cell? ⟨w4.heap.size, 2, none⟩ = some (.string z.label) ∧ W.cell? ⟨w4.heap.size, 3, none⟩ = some (.slice zA z.attrs.length zac) ∧ W.cell? ⟨w4.heap.size, 4, none⟩ = some (.string z.text) ∧ W.cell? ⟨w4.heap.size, 5, none⟩ = some (.slice zK z.kids.length zkc))) (by kernel_rfl) (by have e := (E6.trans E67).drew; have n := N6.ext E67; have r := R6.ext E67; exact ⟨e, n, r, K6, (e).cell hpc0, (K6).cell 0, (K6).cell 1, (K6).cell 2, (K6).cell 3, (K6).cell 4, (K6).cell 5⟩) (fun hHeld => ?_)
          refine tk 0 ?_ rfl (.inl ⟨by rfl, ?_⟩) hHeld ?_
          rotate_left
          · intro w hSw
            try dsimp only at hSw
            go_simp
            all_goals (first | with_reducible rfl | rw [if_pos (by omega)])
          try simp only [Act.put, aS]
          refine tk 1 ?_ rfl (.inl ⟨by rfl, ?_⟩) hHeld ?_
          rotate_left
          · intro w hSw
            try dsimp only at hSw
            go_simp
            all_goals (first | with_reducible rfl | rw [if_pos (by omega)])
          try simp only [Act.put, aS]
          refine tk 2 ?_ rfl (.inl ⟨by rfl, ?_⟩) hHeld ?_
          rotate_left
          · intro w hSw
            try dsimp only at hSw
            go_simp
            all_goals (first | with_reducible rfl | rw [if_pos (by omega)])
          try simp only [Act.put, aS]
          refine tk 3 ?_ rfl (.inl ⟨by rfl, ?_⟩) hHeld ?_
          rotate_left
          · intro w hSw
            try dsimp only at hSw
            go_simp
            all_goals (first | with_reducible rfl | rw [if_pos (by omega)])
          try simp only [Act.put, aS]
          refine tk 4 ?_ rfl (.inl ⟨by rfl, ?_⟩) hHeld ?_
          rotate_left
          · intro w hSw
            try dsimp only at hSw
            go_simp
            all_goals (first | with_reducible rfl | rw [if_pos (by omega)])
          try simp only [Act.put, aS]
          refine tk 5 ?_ rfl (.inl ⟨by rfl, ?_⟩) hHeld ?_
          rotate_left
          · intro w hSw
            try dsimp only at hSw
            go_simp
            all_goals (first | with_reducible rfl | rw [if_pos (by omega)])
          try simp only [Act.put, aS]
          refine wpAnyH_ready (rs := [6]) (by kernel_rfl) (by simp) ?_
          refine AllReadyH.cons (o := ⟨_, _, _, _, _, _⟩) rfl (fun K' hK => ?_) (AllReadyH.nil)
          go_simp
          have own8 := own_set6 hown (m * 6) (.int .u64 z.id) (.bool z.leaf) (.string z.label) (.slice zA z.attrs.length zac) (.string z.text) (.slice zK z.kids.length zkc)
          have E8 := ((E6.trans E67).setAt (B := g) (by have := E6.size; omega) (m * 6) (.int .u64 z.id) (.bool z.leaf) (.string z.label) (.slice zA z.attrs.length zac) (.string z.text) (.slice zK z.kids.length zkc)).drew
          have N8 := ((N6.ext E67).farAt gn1 (m * 6) (.int .u64 z.id) (.bool z.leaf) (.string z.label) (.slice zA z.attrs.length zac) (.string z.text) (.slice zK z.kids.length zkc)).drew
          have R8 := ((R6.ext E67).farAt gn3 (m * 6) (.int .u64 z.id) (.bool z.leaf) (.string z.label) (.slice zA z.attrs.length zac) (.string z.text) (.slice zK z.kids.length zkc)).drew
          have K8 := (K6.farAt hne (m * 6) (.int .u64 z.id) (.bool z.leaf) (.string z.label) (.slice zA z.attrs.length zac) (.string z.text) (.slice zK z.kids.length zkc)).drew
          have hb8 : ∀ k, k ≠ g → ((((((w7.setCell ⟨g, m * 6, none⟩ (.int .u64 z.id)).setCell ⟨g, m * 6 + 1, none⟩ (.bool z.leaf)).setCell ⟨g, m * 6 + 2, none⟩ (.string z.label)).setCell ⟨g, m * 6 + 3, none⟩ (.slice zA z.attrs.length zac)).setCell ⟨g, m * 6 + 4, none⟩ (.string z.text)).setCell ⟨g, m * 6 + 5, none⟩ (.slice zK z.kids.length zkc)).heap[k]? = w7.heap[k]? := fun k hk => heap_at6 w7 g (m * 6) _ _ _ _ _ _ k hk
          have hs8 : ((((((w7.setCell ⟨g, m * 6, none⟩ (.int .u64 z.id)).setCell ⟨g, m * 6 + 1, none⟩ (.bool z.leaf)).setCell ⟨g, m * 6 + 2, none⟩ (.string z.label)).setCell ⟨g, m * 6 + 3, none⟩ (.slice zA z.attrs.length zac)).setCell ⟨g, m * 6 + 4, none⟩ (.string z.text)).setCell ⟨g, m * 6 + 5, none⟩ (.slice zK z.kids.length zkc)).heap.size = w7.heap.size := by simp
          obtain ⟨wq, hwq⟩ : ∃ wq, (((((w7.setCell ⟨g, m * 6, none⟩ (.int .u64 z.id)).setCell ⟨g, m * 6 + 1, none⟩ (.bool z.leaf)).setCell ⟨g, m * 6 + 2, none⟩ (.string z.label)).setCell ⟨g, m * 6 + 3, none⟩ (.slice zA z.attrs.length zac)).setCell ⟨g, m * 6 + 4, none⟩ (.string z.text)).setCell ⟨g, m * 6 + 5, none⟩ (.slice zK z.kids.length zkc) = wq := ⟨_, rfl⟩
          rw [hwq] at E8 N8 R8 K8 own8 hs8
          simp only [hwq] at hb8
          rw [hwq]
          refine hK.out _ _ ⟨E8, N8, R8, K8, (E8).cell hpc0, (K8).cell 0, (K8).cell 1, (K8).cell 2, (K8).cell 3, (K8).cell 4, (K8).cell 5⟩ (fun _ => ?_)
          clear hwq hK K' hHeld
          try simp only [Act.put, aS]
          obtain ⟨w8, hw8⟩ : ∃ w8, wq.drew = w8 := ⟨_, rfl⟩
          have hb8' : ∀ k, k ≠ g → w8.heap[k]? = w7.heap[k]? := fun k hk => by rw [← hw8]; exact hb8 k hk
          have hs8' : w8.heap.size = w7.heap.size := by rw [← hw8]; exact hs8
          replace own8 := own8.drew
          rw [hw8] at E8 N8 R8 K8 own8
          rw [hw8]
          have HB8 := Lib.hid hb8'
          have HS8 := Lib.hid hs8'
          clear hb8 hs8 hb8' hs8'
          refine wpAnyH_done (by kernel_rfl) ?_ _
          clear hw8 g0 g1 g2 g3 g4 g5 gf0 gf1 gf2 gf3 gf4 gf5 n5
          obtain ⟨n0, n1, n2, n3, n4, n5⟩ := NBox.six N8
          have nf5 := N8.frozen 5
          obtain ⟨r0, r1, r2, r3, r4, r5⟩ := NBox.six R8
          have rf0 := R8.frozen 0; have rf1 := R8.frozen 1; have rf2 := R8.frozen 2; have rf3 := R8.frozen 3; have rf4 := R8.frozen 4; have rf5 := R8.frozen 5
          go_wp2_with fail
          exact bodyPost_ret (results_node rfl rfl rfl (NBox.set6 (R8.other (p := ⟨w.heap.size, 5, none⟩) (by simp; omega) (.slice (some ⟨g, 0, none⟩) t.kids.length cap)) _ _ _ _ _ _) Try.underlying42 rfl info42) rfl ⟨_, rfl, (fun W hW hB => by
            have hsz : w8.heap.size = w7.heap.size := HS8.out
            have h67 := E67.size
            have hB' : ∀ k, w.heap.size ≤ k → k < w8.heap.size → k ≠ w.heap.size → k ≠ w.heap.size + 1 + 1 → W.heap[k]? = w8.heap[k]? := fun k h1 h2 h3 h4 => by
              rw [hB k h1 (by simpa using h2), heap_at6 _ (w.heap.size + 1 + 1) 0 _ _ _ _ _ _ k h4, Below.heap_setCell _ _ _ _ h3]
            have hk' : z.rd W (.agg #[.int .u64 z.id, .bool z.leaf, .string z.label, .slice zA z.attrs.length zac, .string z.text, .slice zK z.kids.length zkc]) := by
              obtain ⟨ov, h1, h2⟩ := HRW6.out W hW (fun k h1 h2 h3 => by
                rw [hB' k (by omega) (by omega) (by omega) (by omega), HB8.out k (by omega)]
                exact E67.block k h2)
              have h3 := HB.out
              have h4 := HZ.out
              simp only [Value.tuple.injEq, Array.mk.injEq, List.cons.injEq, and_true] at h1
              rw [h1.1]
              rw [h4] at h2
              exact h2
            have hset := rowK_set (rowK_sub hW hxs) hm hk'
            have ownW := owns_same own8 (hB' g (by omega) (by omega) (by omega) (by omega))
            have hRK : RdK W (t.kids.set m z) (.slice (some ⟨g, 0, none⟩) t.kids.length cap) := by
              have hro := RdS.of_owns ownW
              rw [show t.kids.length = (t.kids.set m z).length by simp] at hro
              have := RdK.of_row hset hro
              simpa using this
            rw [HP.out]
            exact ⟨_, rfl, Nd.rd_shut (t := t.withKids (t.kids.set m z)) i0 i1 hl htx (hA0.sub hW) hRK⟩), Ext.set6 (Below.setCell E8 (p := ⟨w.heap.size, 5, none⟩) (Nat.le_refl _) _) (by omega) _ _ _ _ _ _⟩
end Go.Proofs.Ytdnjkffmgmbfmaa.Bw
