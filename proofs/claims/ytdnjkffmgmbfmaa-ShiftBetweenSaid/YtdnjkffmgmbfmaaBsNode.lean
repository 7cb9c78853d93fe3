/- Chapter 11: where a node is. -/
import Derived.Test.YtdnjkffmgmbfmaaBsChild
import Derived.Test.YtdnjkffmgmbfmaaHyLxFrame
import Derived.Deep.RegionHeld3
namespace Go.Proofs.Ytdnjkffmgmbfmaa.Bs
open Go.RowKit Go.Proofs.Ytdnjkffmgmbfmaa.Bw

theorem wp_append_rd {P : Program} {w : World} {o : Oper} {a : Act} {K : Act → World → Prop} {Q : Exit → Act → World → Prop} {s x : Operand} {t : TypeId}
  (ho : o.op = .call { callee := .builtin .append, args := #[s, x], argTypes := #[t, t] }) {e : TypeId} {z : Value} {size bytes : Nat} (T : SliceT P t e z size bytes) {base : Nat} {v : Value} {n : Nat} {xs : List Value} (hs : a.eval s = v) (hown : w.ownsRow base e size v n xs)
  {m : Nat} {news : List Value} {y : Value} (hx : a.eval x = y) (hr : RdS w size m news y) (h1 : ∀ u ∈ news, u.oneCell' = true) (hb : (n + m) * bytes ≤ 140737488355328) (hm : n + m ≤ maxLen) (hbase : base ≤ w.heap.size)
  (h : ∀ v' w', w'.ownsRow base e size v' (n + m) (xs ++ news) → w.grownBy w' v.ownBlock → (v'.ownBlock = v.ownBlock ∨ v'.ownBlock = some w.heap.size) → K (a.put o.dst v') w') : o.wp P a w K Q := by
 obtain ⟨v', w', hrun, h2, h3, h4⟩ := run_append_rd T o.type hown hr h1 hb hm hbase
 unfold Oper.wp execOp
 simp only [ho, resolve, invoke, builtin, Sem.run_bind, Sem.run_pure, Result.andThen_ok, List.map_toArray, List.map_cons, List.map_nil, hs, hx, hrun]
 exact h v' w' h2 h3 h4
theorem RdC.slices {w : World} {o : OpD} {v : Value} (h : RdC w o v) {tb : Bool} (ht : o.sh.takes = tb) : ∃ (fA : Option Addr) (fc : Nat) (f : List Int) (gA : Option Addr) (gc : Nat) (a : Int), v = .agg #[.bool tb, .bool o.sh.puts, .slice fA f.length fc, .slice gA o.sh.goal.length gc, .int .i64 a, .int .i64 o.at_] := by
 obtain ⟨fv, gv, f, a, rfl, ⟨fA, fc, rfl, _⟩, ⟨gA, gc, rfl, _⟩, _⟩ := h
 subst ht
 exact ⟨fA, fc, f, gA, gc, a, rfl⟩
theorem go_len (o : Sh) : ∀ (r pre : List Int), (o.go pre r).length = r.length
 | [], _ => rfl
 | k :: r, pre => by rw [Sh.go, List.length_cons, go_len o r, List.length_cons]
theorem go_take (o : Sh) {p : List Int} {i : Nat} {x : Int} (hx : p[i]? = some x) : o.go [] (p.take (i + 1)) = o.go [] (p.take i) ++ [o.number (p.take i) x] := by
 have h : p.take (i + 1) = p.take i ++ [x] := by rw [List.take_add_one, hx]; rfl
 rw [h, Sh.go_snoc, List.nil_append]

set_option maxRecDepth 100000 in
set_option maxHeartbeats 4000000 in
theorem node_stay (o : OpD) (v pv : Value) (p : List Int) (w : World) (h : o.rd w v) (hp : RdI w p pv) (hm : o.sh.moves = true) (hw : (o.sh.takes && within o.path p) = false) (hl : o.path.length ≤ 100000) (hpl' : p.length ≤ 100000) : Calls Try.prog 11 #[v, pv] w (Ret w fun r w' => ∃ r', r = .tuple #[r', .bool true] ∧ w'.ownsRow w.heap.size 3 1 r' p.length ((o.sh.go [] p).map (Value.int .i64))) := by
 have hkd := (moves_kind hm).1
 obtain ⟨pv, tv, cv, rfl, hP, hT, hC, s1, s2, s3⟩ := h
 have h : o.rd w (.agg #[.int .u8 o.kind, pv, .int .i64 o.at_, tv, .int .u64 o.id, .bool o.leaf, .string o.label, .string o.key, .string o.value, .bool o.gone, cv]) := ⟨pv, tv, cv, rfl, hP, hT, hC, s1, s2, s3⟩
 have hP0 := hP
 have hT0 := hT
 have hC0 := hC
 obtain ⟨pA, pc, rfl, _, _, hpc, _⟩ := hP0
 obtain ⟨tA, tc, rfl, _, _, htc, _⟩ := hT0
 obtain ⟨cA, cc, rfl, _⟩ := hC0
 have hpl : o.path.length ≤ pc := by obtain ⟨_, _, e, _, h1, _⟩ := hP; simp only [Value.slice.injEq] at e; omega
 have htl : o.to.length ≤ tc := by obtain ⟨_, _, e, _, h1, _⟩ := hT; simp only [Value.slice.injEq] at e; omega
 unfold maxLen at hpc htc
 have hp0 := hp
 obtain ⟨xA, xc, rfl, _, x1, x2, x3⟩ := hp0
 unfold maxLen at x2
 obtain ⟨w1, hw1⟩ : ∃ w1, w.alloc (.cells #[.int .u8 o.kind, .slice pA o.path.length pc, .int .i64 o.at_, .slice tA o.to.length tc, .int .u64 o.id, .bool o.leaf, .string o.label, .string o.key, .string o.value, .bool o.gone, .slice cA o.pcs.length cc] 26) = w1 := ⟨_, rfl⟩
 have hE1 : Ext w w1 := by rw [← hw1]; exact (Ext.refl w).alloc _
 have B0 : w1.cell? ⟨w.heap.size, 0, none⟩ = some (.int .u8 o.kind) := by rw [← hw1]; exact (NBox.new _ _ _).cell 0
 have B1 : w1.cell? ⟨w.heap.size, 1, none⟩ = some (.slice pA o.path.length pc) := by rw [← hw1]; exact (NBox.new _ _ _).cell 1
 have B2 : w1.cell? ⟨w.heap.size, 2, none⟩ = some (.int .i64 o.at_) := by rw [← hw1]; exact (NBox.new _ _ _).cell 2
 have B3 : w1.cell? ⟨w.heap.size, 3, none⟩ = some (.slice tA o.to.length tc) := by rw [← hw1]; exact (NBox.new _ _ _).cell 3
 have B4 : w1.cell? ⟨w.heap.size, 4, none⟩ = some (.int .u64 o.id) := by rw [← hw1]; exact (NBox.new _ _ _).cell 4
 have B5 : w1.cell? ⟨w.heap.size, 5, none⟩ = some (.bool o.leaf) := by rw [← hw1]; exact (NBox.new _ _ _).cell 5
 have B6 : w1.cell? ⟨w.heap.size, 6, none⟩ = some (.string o.label) := by rw [← hw1]; exact (NBox.new _ _ _).cell 6
 have B7 : w1.cell? ⟨w.heap.size, 7, none⟩ = some (.string o.key) := by rw [← hw1]; exact (NBox.new _ _ _).cell 7
 have B8 : w1.cell? ⟨w.heap.size, 8, none⟩ = some (.string o.value) := by rw [← hw1]; exact (NBox.new _ _ _).cell 8
 have B9 : w1.cell? ⟨w.heap.size, 9, none⟩ = some (.bool o.gone) := by rw [← hw1]; exact (NBox.new _ _ _).cell 9
 have B10 : w1.cell? ⟨w.heap.size, 10, none⟩ = some (.slice cA o.pcs.length cc) := by rw [← hw1]; exact (NBox.new _ _ _).cell 10
 have E := Ext.refl w1
 have H1 := Lib.hid hw1
 clear hw1
 have hc29 : ∀ W, Ext w1 W → Calls Try.prog 29 #[.agg #[.int .u8 o.kind, .slice pA o.path.length pc, .int .i64 o.at_, .slice tA o.to.length tc, .int .u64 o.id, .bool o.leaf, .string o.label, .string o.key, .string o.value, .bool o.gone, .slice cA o.pcs.length cc]] W (Ret W fun r _ => r = .bool true) := fun W hW => by
  have := moves_any o _ W (OpD.rd_ext (hE1.trans hW) h)
  rwa [hm] at this
 have hc31 : ∀ W, Ext w1 W → Calls Try.prog 31 #[.agg #[.int .u8 o.kind, .slice pA o.path.length pc, .int .i64 o.at_, .slice tA o.to.length tc, .int .u64 o.id, .bool o.leaf, .string o.label, .string o.key, .string o.value, .bool o.gone, .slice cA o.pcs.length cc]] W (Ret W fun r w' => RdC w' o r) := fun W hW => of_any o _ W (OpD.rd_ext (hE1.trans hW) h) hkd (by omega)
 have hc32 : ∀ W, Ext w1 W → Calls Try.prog 32 #[.slice pA o.path.length pc, .slice xA p.length xc] W (Ret W fun r _ => r = .bool (within o.path p)) := fun W hW => pathWithin_any _ _ _ _ _ (RdS.ext (hE1.trans hW) hP) (RdS.ext (hE1.trans hW) hp)
 clear h hP hT hC s1 s2 s3 hpl htl hkd hm
 rcases htk : o.sh.takes with _ | _
 ·clear hc32
  clear hw
  go_enter Try.func11, Try.ntmps11
  go_wp2_with fail
  refine wp_scope_fwd 0 rfl ?_
  go_wp2_with (first | (rw [H1.out]; clear H1) | (rw [H4.out]; clear H4) | (go_at_call 29; refine (hc29 _ E).mono ?_; clear hc29; rintro e u ⟨r, rfl, rfl, hE⟩; replace E := Ext.trans E hE; clear hE; have B0' := E.cell B0; have B1' := E.cell B1; have B2' := E.cell B2; have B3' := E.cell B3; have B4' := E.cell B4; have B5' := E.cell B5; have B6' := E.cell B6; have B7' := E.cell B7; have B8' := E.cell B8; have B9' := E.cell B9; have B10' := E.cell B10) | (go_at_call 31; refine (hc31 _ E).mono ?_; clear hc31; rintro e u2 ⟨r, rfl, hRC, hE⟩; obtain ⟨fA, fc, f, gA, gc, a, rfl⟩ := RdC.slices hRC htk; obtain ⟨w4, hw4⟩ : ∃ w4, u2.alloc (.cells #[.bool false, .bool o.sh.puts, .slice fA f.length fc, .slice gA o.sh.goal.length gc, .int .i64 a, .int .i64 o.at_] 63) = w4 := ⟨_, rfl⟩; have E4 : Ext w1 w4 := (by rw [← hw4]; exact (Ext.trans E hE).alloc _); have hRC4 : RdC w4 o (.agg #[.bool false, .bool o.sh.puts, .slice fA f.length fc, .slice gA o.sh.goal.length gc, .int .i64 a, .int .i64 o.at_]) := (by rw [← hw4]; exact RdC.ext ((Ext.refl _).alloc _) hRC); have NB : NBox w4 u2.heap.size 63 #[.bool false, .bool o.sh.puts, .slice fA f.length fc, .slice gA o.sh.goal.length gc, .int .i64 a, .int .i64 o.at_] := (by rw [← hw4]; exact NBox.new _ _ _); have C0 := NB.cell 0; have C1 := NB.cell 1; have C2 := NB.cell 2; have C3 := NB.cell 3; have C4 := NB.cell 4; have C5 := NB.cell 5; have D0 := E4.cell B0; have D1 := E4.cell B1; have D3 := E4.cell B3; have hlt4 := NB.lt; have H4 := Lib.hid hw4; clear hw4 hE hRC E))
  have hnil : w4.ownsRow w4.heap.size 3 1 (.slice none 0 0) 0 [] := ⟨rfl, .inl ⟨rfl, rfl⟩⟩
  go_loopw [7, 9] (fun s7 s9 wr => ∃ i : Nat, s9 = .int .i64 i ∧ i ≤ p.length ∧ wr.ownsRow w4.heap.size 3 1 s7 i ((o.sh.go [] (p.take i)).map (Value.int .i64)) ∧ Ext w4 wr) (fun _ i _ => p.length - (intOf i).toNat)
  case atStart => exact ⟨0, rfl, Nat.zero_le _, hnil, Ext.refl _⟩
  case round =>
   obtain ⟨i, rfl, hi, hown, hX⟩ := hrel
   have q1 : (0 : Int) ≤ (i : Int) := by omega
   rcases Nat.lt_or_ge i p.length with hlt | hlt
   ·obtain ⟨x, hx⟩ : ∃ x, p[i]? = some x := ⟨_, List.getElem?_eq_getElem hlt⟩
    obtain ⟨ba, oa, rfl, ra⟩ := x3 (by omega)
    have hgo := Lib.hid (go_take o.sh hx)
    have q2 : (i : Int) < (p.length : Int) := by omega
    have q3 : (i : Int) ≤ (xc : Int) := by omega
    have q4 : i ≤ xc := by omega
    have e0 : w1.cell? ⟨ba, oa + i, none⟩ = some (.int .i64 x) := hE1.cell (ra i (.int .i64 x) (by rw [List.getElem?_map, hx]; rfl))
    have hc34 : ∀ W, Ext w4 W → Calls Try.prog 34 #[.agg #[.bool false, .bool o.sh.puts, .slice fA f.length fc, .slice gA o.sh.goal.length gc, .int .i64 a, .int .i64 o.at_], .slice (some ⟨ba, oa, none⟩) i xc, .int .i64 x] W (Ret W fun r _ => r = .int .i64 (o.sh.number (p.take i) x)) := fun W hW => by
     have hq := RdI.take (RdS.ext (hE1.trans (E4.trans hW)) hp) i (by omega)
     exact number_any o _ _ (p.take i) x W (RdC.ext hW hRC4) hq
    clear hx ra x3 hRC4 hp hnil
    obtain ⟨wl, hwl⟩ : ∃ wl, wr = wl := ⟨_, rfl⟩
    subst hwl
    have F0 := (hX.cell C0); have F1 := (hX.cell C1); have F2 := (hX.cell C2); have F3 := (hX.cell C3); have F4 := (hX.cell C4); have F5 := (hX.cell C5)
    have e1 := (E4.trans hX).cell e0
    have e4 := E4.cell e0
    go_wp2_with fail
    refine wp_region_held_drew (S := fun W => Ext w4 W ∧ W.cell? ⟨u2.heap.size, 0, none⟩ = some (.bool false) ∧ W.cell? ⟨u2.heap.size, 1, none⟩ = some (.bool o.sh.puts) ∧ W.cell? ⟨u2.heap.size, 2, none⟩ = some (.slice fA f.length fc) ∧ W.cell? ⟨u2.heap.size, 3, none⟩ = some (.slice gA o.sh.goal.length gc) ∧ W.cell? ⟨u2.heap.size, 4, none⟩ = some (.int .i64 a) ∧ W.cell? ⟨u2.heap.size, 5, none⟩ = some (.int .i64 o.at_) ∧ W.cell? ⟨ba, oa + i, none⟩ = some (.int .i64 x)) (by kernel_rfl) (by have hz : Ext w4 _ := hX.drew; exact ⟨hz, hz.cell C0, hz.cell C1, hz.cell C2, hz.cell C3, hz.cell C4, hz.cell C5, hz.cell e4⟩) (fun hHeld => ?_)
    clear F0 F1 F2 F3 F4 F5 e1
    refine tk 0 ?_ rfl (.inl ⟨by rfl, ?_⟩) hHeld ?_
    rotate_left
    ·intro w hSw
     try dsimp only at hSw
     go_simp
     all_goals (first | with_reducible rfl | rw [if_pos (by omega)])
    try simp only [Act.put, aS]
    refine tk 1 ?_ rfl (.inl ⟨by rfl, ?_⟩) hHeld ?_
    rotate_left
    ·intro w hSw
     try dsimp only at hSw
     go_simp
     all_goals (first | with_reducible rfl | rw [if_pos (by omega)])
    try simp only [Act.put, aS]
    refine tk 2 ?_ rfl (.inl ⟨by rfl, ?_⟩) hHeld ?_
    rotate_left
    ·intro w hSw
     try dsimp only at hSw
     go_simp
     all_goals (first | with_reducible rfl | rw [if_pos (by omega)])
    try simp only [Act.put, aS]
    refine tk 3 ?_ rfl (.inl ⟨by rfl, ?_⟩) hHeld ?_
    rotate_left
    ·intro w hSw
     try dsimp only at hSw
     go_simp
     all_goals (first | with_reducible rfl | rw [if_pos (by omega)])
    try simp only [Act.put, aS]
    refine tk 4 ?_ rfl (.inl ⟨by rfl, ?_⟩) hHeld ?_
    rotate_left
    ·intro w hSw
     try dsimp only at hSw
     go_simp
     all_goals (first | with_reducible rfl | rw [if_pos (by omega)])
    try simp only [Act.put, aS]
    refine tk 5 ?_ rfl (.inl ⟨by rfl, ?_⟩) hHeld ?_
    rotate_left
    ·intro w hSw
     try dsimp only at hSw
     go_simp
     all_goals (first | with_reducible rfl | rw [if_pos (by omega)])
    try simp only [Act.put, aS]
    refine tk 6 ?_ rfl (.inl ⟨by rfl, ?_⟩) hHeld ?_
    rotate_left
    ·intro w hSw
     try dsimp only at hSw
     go_simp
     all_goals (first | with_reducible rfl | rw [if_pos (by omega)])
    try simp only [Act.put, aS]
    refine tk 7 ?_ rfl (.inl ⟨by rfl, ?_⟩) hHeld ?_
    rotate_left
    ·intro w hSw
     try dsimp only at hSw
     go_simp
     all_goals (first | with_reducible rfl | rw [if_pos (by omega)])
    try simp only [Act.put, aS]
    refine tk 8 ?_ rfl (.inl ⟨by rfl, ?_⟩) hHeld ?_
    rotate_left
    ·intro w hSw
     try dsimp only at hSw
     go_simp
     all_goals (first | with_reducible rfl | rw [if_pos (by omega)])
    try simp only [Act.put, aS]
    refine wpAnyH_ready (rs := [9]) (by kernel_rfl) (by simp) ?_
    refine AllReadyH.cons (o := ⟨_, _, _, _, _, _⟩) rfl (fun K' hK => ?_) (AllReadyH.nil)
    go_simp
    go_at_call 34
    refine (hc34 _ hHeld.1).mono ?_
    rintro e w5 ⟨r, rfl, rfl, hE5⟩
    refine hK.out _ _ (by have hz : Ext w4 _ := hHeld.1.trans hE5; exact ⟨hz, hz.cell C0, hz.cell C1, hz.cell C2, hz.cell C3, hz.cell C4, hz.cell C5, hz.cell e4⟩) (fun hHeld => ?_)
    clear hK K'
    try simp only [Act.put, aS]
    refine wpAnyH_ready (rs := [10]) (by kernel_rfl) (by simp) ?_
    refine AllReadyH.cons (o := ⟨_, _, _, _, _, _⟩) rfl (fun K' hK => ?_) (AllReadyH.nil)
    go_simp
    refine hK.out _ _ (by have hz : Ext w4 (w5.alloc (.cells #[.int .i64 (o.sh.number (p.take i) x)] 3)) := hHeld.1.alloc _; exact ⟨hz, hz.cell C0, hz.cell C1, hz.cell C2, hz.cell C3, hz.cell C4, hz.cell C5, hz.cell e4⟩) (fun hHeld => ?_)
    clear hK K'
    try simp only [Act.put, aS]
    refine wpAnyH_ready (rs := [11]) (by kernel_rfl) (by simp) ?_
    refine AllReadyH.cons (o := ⟨_, _, _, _, _, _⟩) rfl (fun K' hK => ?_) (AllReadyH.nil)
    have hR1 : RdS (w5.alloc (.cells #[.int .i64 (o.sh.number (p.take i) x)] 3)) 1 1 [.int .i64 (o.sh.number (p.take i) x)] (.slice (some ⟨w5.heap.size, 0, none⟩) 1 1) := RdS.one rfl
    refine wp_append_rd rfl T22 (by rfl) (owns_ext ((Ext.refl _).alloc _) (owns_ext hE5 hown.drew)) (by rfl) hR1 (fun u hu => by rw [List.mem_singleton.1 hu]; rfl) (by omega) (by simp only [maxLen]; omega) hHeld.1.size ?_
    intro v7 w7 hown7 hg7 hat7
    refine hK.out _ _ (by have hz : Ext w4 _ := Ext.grown ((hX.drew.trans hE5).alloc _) hg7 (owns_base hown); exact ⟨hz, hz.cell C0, hz.cell C1, hz.cell C2, hz.cell C3, hz.cell C4, hz.cell C5, hz.cell e4⟩) (fun hHeld => ?_)
    clear hK K'
    try simp only [Act.put, aS]
    refine tk 12 ?_ rfl (.inl ⟨by rfl, ?_⟩) hHeld ?_
    rotate_left
    ·intro w hSw
     try dsimp only at hSw
     go_simp
     all_goals (first | with_reducible rfl | rw [if_pos (by omega)])
    try simp only [Act.put, aS]
    refine wpAnyH_done (by kernel_rfl) ?_ _
    go_wp2_with fail
    go_roundw
    case rel =>
     refine ⟨i + 1, by go_num, by omega, ?_, Ext.grown ((hX.drew.trans hE5).alloc _) hg7 (owns_base hown)⟩
     rw [hgo.out, List.map_append, List.map_cons, List.map_nil]
     exact hown7
    case measure => simp [intOf]; omega
   ·have htk' : p.take i = p := List.take_of_length_le hlt
    have hii : i = p.length := by omega
    have q2 : decide ((i : Int) < (p.length : Int)) = false := decide_eq_false (by omega)
    rw [htk'] at hown
    clear x3 htk' hRC4 hp
    go_wp2_with fail
    go_ret2
    exact ⟨_, rfl, ⟨_, rfl, by subst hii; exact owns_mono hown (hE1.trans E4).size⟩, (hE1.trans E4).trans hX⟩
 ·rw [htk, Bool.true_and] at hw; simp only [hw] at hc32
  clear hw
  go_enter Try.func11, Try.ntmps11
  go_wp2_with fail
  refine wp_scope_fwd 0 rfl ?_
  go_wp2_with (first | (rw [H1.out]; clear H1) | (rw [H4.out]; clear H4) | (go_at_call 29; refine (hc29 _ E).mono ?_; clear hc29; rintro e u ⟨r, rfl, rfl, hE⟩; replace E := Ext.trans E hE; clear hE; have B0' := E.cell B0; have B1' := E.cell B1; have B2' := E.cell B2; have B3' := E.cell B3; have B4' := E.cell B4; have B5' := E.cell B5; have B6' := E.cell B6; have B7' := E.cell B7; have B8' := E.cell B8; have B9' := E.cell B9; have B10' := E.cell B10) | (go_at_call 31; refine (hc31 _ E).mono ?_; clear hc31; rintro e u2 ⟨r, rfl, hRC, hE⟩; obtain ⟨fA, fc, f, gA, gc, a, rfl⟩ := RdC.slices hRC htk; obtain ⟨w4, hw4⟩ : ∃ w4, u2.alloc (.cells #[.bool true, .bool o.sh.puts, .slice fA f.length fc, .slice gA o.sh.goal.length gc, .int .i64 a, .int .i64 o.at_] 63) = w4 := ⟨_, rfl⟩; have E4 : Ext w1 w4 := (by rw [← hw4]; exact (Ext.trans E hE).alloc _); have hRC4 : RdC w4 o (.agg #[.bool true, .bool o.sh.puts, .slice fA f.length fc, .slice gA o.sh.goal.length gc, .int .i64 a, .int .i64 o.at_]) := (by rw [← hw4]; exact RdC.ext ((Ext.refl _).alloc _) hRC); have NB : NBox w4 u2.heap.size 63 #[.bool true, .bool o.sh.puts, .slice fA f.length fc, .slice gA o.sh.goal.length gc, .int .i64 a, .int .i64 o.at_] := (by rw [← hw4]; exact NBox.new _ _ _); have C0 := NB.cell 0; have C1 := NB.cell 1; have C2 := NB.cell 2; have C3 := NB.cell 3; have C4 := NB.cell 4; have C5 := NB.cell 5; have D0 := E4.cell B0; have D1 := E4.cell B1; have D3 := E4.cell B3; have hlt4 := NB.lt; have H4 := Lib.hid hw4; clear hw4 hE hRC E) | (go_at_call 32; refine (hc32 _ E4).mono ?_; clear hc32; rintro e u3 ⟨r, rfl, rfl, hE⟩; replace E4 := Ext.trans E4 hE; replace hRC4 := RdC.ext hE hRC4; replace NB := NB.ext hE; replace C0 := NB.cell 0; replace C1 := NB.cell 1; replace C2 := NB.cell 2; replace C3 := NB.cell 3; replace C4 := NB.cell 4; replace C5 := NB.cell 5; replace D0 := E4.cell B0; replace D1 := E4.cell B1; replace D3 := E4.cell B3; replace hlt4 := NB.lt; clear hE))
  have hnil : u3.ownsRow u3.heap.size 3 1 (.slice none 0 0) 0 [] := ⟨rfl, .inl ⟨rfl, rfl⟩⟩
  go_loopw [7, 9] (fun s7 s9 wr => ∃ i : Nat, s9 = .int .i64 i ∧ i ≤ p.length ∧ wr.ownsRow u3.heap.size 3 1 s7 i ((o.sh.go [] (p.take i)).map (Value.int .i64)) ∧ Ext u3 wr) (fun _ i _ => p.length - (intOf i).toNat)
  case atStart => exact ⟨0, rfl, Nat.zero_le _, hnil, Ext.refl _⟩
  case round =>
   obtain ⟨i, rfl, hi, hown, hX⟩ := hrel
   have q1 : (0 : Int) ≤ (i : Int) := by omega
   rcases Nat.lt_or_ge i p.length with hlt | hlt
   ·obtain ⟨x, hx⟩ : ∃ x, p[i]? = some x := ⟨_, List.getElem?_eq_getElem hlt⟩
    obtain ⟨ba, oa, rfl, ra⟩ := x3 (by omega)
    have hgo := Lib.hid (go_take o.sh hx)
    have q2 : (i : Int) < (p.length : Int) := by omega
    have q3 : (i : Int) ≤ (xc : Int) := by omega
    have q4 : i ≤ xc := by omega
    have e0 : w1.cell? ⟨ba, oa + i, none⟩ = some (.int .i64 x) := hE1.cell (ra i (.int .i64 x) (by rw [List.getElem?_map, hx]; rfl))
    have hc34 : ∀ W, Ext u3 W → Calls Try.prog 34 #[.agg #[.bool true, .bool o.sh.puts, .slice fA f.length fc, .slice gA o.sh.goal.length gc, .int .i64 a, .int .i64 o.at_], .slice (some ⟨ba, oa, none⟩) i xc, .int .i64 x] W (Ret W fun r _ => r = .int .i64 (o.sh.number (p.take i) x)) := fun W hW => by
     have hq := RdI.take (RdS.ext (hE1.trans (E4.trans hW)) hp) i (by omega)
     exact number_any o _ _ (p.take i) x W (RdC.ext hW hRC4) hq
    clear hx ra x3 hRC4 hp hnil
    obtain ⟨wl, hwl⟩ : ∃ wl, wr = wl := ⟨_, rfl⟩
    subst hwl
    have F0 := (hX.cell C0); have F1 := (hX.cell C1); have F2 := (hX.cell C2); have F3 := (hX.cell C3); have F4 := (hX.cell C4); have F5 := (hX.cell C5)
    have e1 := (E4.trans hX).cell e0
    have e4 := E4.cell e0
    go_wp2_with fail
    refine wp_region_held_drew (S := fun W => Ext u3 W ∧ W.cell? ⟨u2.heap.size, 0, none⟩ = some (.bool true) ∧ W.cell? ⟨u2.heap.size, 1, none⟩ = some (.bool o.sh.puts) ∧ W.cell? ⟨u2.heap.size, 2, none⟩ = some (.slice fA f.length fc) ∧ W.cell? ⟨u2.heap.size, 3, none⟩ = some (.slice gA o.sh.goal.length gc) ∧ W.cell? ⟨u2.heap.size, 4, none⟩ = some (.int .i64 a) ∧ W.cell? ⟨u2.heap.size, 5, none⟩ = some (.int .i64 o.at_) ∧ W.cell? ⟨ba, oa + i, none⟩ = some (.int .i64 x)) (by kernel_rfl) (by have hz : Ext u3 _ := hX.drew; exact ⟨hz, hz.cell C0, hz.cell C1, hz.cell C2, hz.cell C3, hz.cell C4, hz.cell C5, hz.cell e4⟩) (fun hHeld => ?_)
    clear F0 F1 F2 F3 F4 F5 e1
    refine tk 0 ?_ rfl (.inl ⟨by rfl, ?_⟩) hHeld ?_
    rotate_left
    ·intro w hSw
     try dsimp only at hSw
     go_simp
     all_goals (first | with_reducible rfl | rw [if_pos (by omega)])
    try simp only [Act.put, aS]
    refine tk 1 ?_ rfl (.inl ⟨by rfl, ?_⟩) hHeld ?_
    rotate_left
    ·intro w hSw
     try dsimp only at hSw
     go_simp
     all_goals (first | with_reducible rfl | rw [if_pos (by omega)])
    try simp only [Act.put, aS]
    refine tk 2 ?_ rfl (.inl ⟨by rfl, ?_⟩) hHeld ?_
    rotate_left
    ·intro w hSw
     try dsimp only at hSw
     go_simp
     all_goals (first | with_reducible rfl | rw [if_pos (by omega)])
    try simp only [Act.put, aS]
    refine tk 3 ?_ rfl (.inl ⟨by rfl, ?_⟩) hHeld ?_
    rotate_left
    ·intro w hSw
     try dsimp only at hSw
     go_simp
     all_goals (first | with_reducible rfl | rw [if_pos (by omega)])
    try simp only [Act.put, aS]
    refine tk 4 ?_ rfl (.inl ⟨by rfl, ?_⟩) hHeld ?_
    rotate_left
    ·intro w hSw
     try dsimp only at hSw
     go_simp
     all_goals (first | with_reducible rfl | rw [if_pos (by omega)])
    try simp only [Act.put, aS]
    refine tk 5 ?_ rfl (.inl ⟨by rfl, ?_⟩) hHeld ?_
    rotate_left
    ·intro w hSw
     try dsimp only at hSw
     go_simp
     all_goals (first | with_reducible rfl | rw [if_pos (by omega)])
    try simp only [Act.put, aS]
    refine tk 6 ?_ rfl (.inl ⟨by rfl, ?_⟩) hHeld ?_
    rotate_left
    ·intro w hSw
     try dsimp only at hSw
     go_simp
     all_goals (first | with_reducible rfl | rw [if_pos (by omega)])
    try simp only [Act.put, aS]
    refine tk 7 ?_ rfl (.inl ⟨by rfl, ?_⟩) hHeld ?_
    rotate_left
    ·intro w hSw
     try dsimp only at hSw
     go_simp
     all_goals (first | with_reducible rfl | rw [if_pos (by omega)])
    try simp only [Act.put, aS]
    refine tk 8 ?_ rfl (.inl ⟨by rfl, ?_⟩) hHeld ?_
    rotate_left
    ·intro w hSw
     try dsimp only at hSw
     go_simp
     all_goals (first | with_reducible rfl | rw [if_pos (by omega)])
    try simp only [Act.put, aS]
    refine wpAnyH_ready (rs := [9]) (by kernel_rfl) (by simp) ?_
    refine AllReadyH.cons (o := ⟨_, _, _, _, _, _⟩) rfl (fun K' hK => ?_) (AllReadyH.nil)
    go_simp
    go_at_call 34
    refine (hc34 _ hHeld.1).mono ?_
    rintro e w5 ⟨r, rfl, rfl, hE5⟩
    refine hK.out _ _ (by have hz : Ext u3 _ := hHeld.1.trans hE5; exact ⟨hz, hz.cell C0, hz.cell C1, hz.cell C2, hz.cell C3, hz.cell C4, hz.cell C5, hz.cell e4⟩) (fun hHeld => ?_)
    clear hK K'
    try simp only [Act.put, aS]
    refine wpAnyH_ready (rs := [10]) (by kernel_rfl) (by simp) ?_
    refine AllReadyH.cons (o := ⟨_, _, _, _, _, _⟩) rfl (fun K' hK => ?_) (AllReadyH.nil)
    go_simp
    refine hK.out _ _ (by have hz : Ext u3 (w5.alloc (.cells #[.int .i64 (o.sh.number (p.take i) x)] 3)) := hHeld.1.alloc _; exact ⟨hz, hz.cell C0, hz.cell C1, hz.cell C2, hz.cell C3, hz.cell C4, hz.cell C5, hz.cell e4⟩) (fun hHeld => ?_)
    clear hK K'
    try simp only [Act.put, aS]
    refine wpAnyH_ready (rs := [11]) (by kernel_rfl) (by simp) ?_
    refine AllReadyH.cons (o := ⟨_, _, _, _, _, _⟩) rfl (fun K' hK => ?_) (AllReadyH.nil)
    have hR1 : RdS (w5.alloc (.cells #[.int .i64 (o.sh.number (p.take i) x)] 3)) 1 1 [.int .i64 (o.sh.number (p.take i) x)] (.slice (some ⟨w5.heap.size, 0, none⟩) 1 1) := RdS.one rfl
    refine wp_append_rd rfl T22 (by rfl) (owns_ext ((Ext.refl _).alloc _) (owns_ext hE5 hown.drew)) (by rfl) hR1 (fun u hu => by rw [List.mem_singleton.1 hu]; rfl) (by omega) (by simp only [maxLen]; omega) hHeld.1.size ?_
    intro v7 w7 hown7 hg7 hat7
    refine hK.out _ _ (by have hz : Ext u3 _ := Ext.grown ((hX.drew.trans hE5).alloc _) hg7 (owns_base hown); exact ⟨hz, hz.cell C0, hz.cell C1, hz.cell C2, hz.cell C3, hz.cell C4, hz.cell C5, hz.cell e4⟩) (fun hHeld => ?_)
    clear hK K'
    try simp only [Act.put, aS]
    refine tk 12 ?_ rfl (.inl ⟨by rfl, ?_⟩) hHeld ?_
    rotate_left
    ·intro w hSw
     try dsimp only at hSw
     go_simp
     all_goals (first | with_reducible rfl | rw [if_pos (by omega)])
    try simp only [Act.put, aS]
    refine wpAnyH_done (by kernel_rfl) ?_ _
    go_wp2_with fail
    go_roundw
    case rel =>
     refine ⟨i + 1, by go_num, by omega, ?_, Ext.grown ((hX.drew.trans hE5).alloc _) hg7 (owns_base hown)⟩
     rw [hgo.out, List.map_append, List.map_cons, List.map_nil]
     exact hown7
    case measure => simp [intOf]; omega
   ·have htk' : p.take i = p := List.take_of_length_le hlt
    have hii : i = p.length := by omega
    have q2 : decide ((i : Int) < (p.length : Int)) = false := decide_eq_false (by omega)
    rw [htk'] at hown
    clear x3 htk' hRC4 hp
    go_wp2_with fail
    go_ret2
    exact ⟨_, rfl, ⟨_, rfl, by subst hii; exact owns_mono hown (hE1.trans E4).size⟩, (hE1.trans E4).trans hX⟩
end Go.Proofs.Ytdnjkffmgmbfmaa.Bs
