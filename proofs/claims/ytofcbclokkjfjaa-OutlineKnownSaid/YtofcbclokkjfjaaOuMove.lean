/- Chapter 24: a move is told: move (29), the document's move (32), the closures (27, 34, 37, 38). (Printed by goumove.py.) -/
import Derived.Test.YtofcbclokkjfjaaOuSpot
namespace Go.Proofs.Ytofcbclokkjfjaa.Wi
open Go.RowKit Go.Proofs.Ytofcbclokkjfjaa.Bw Go.Proofs.Ytofcbclokkjfjaa.Bs

theorem wp_append_rd {P : Program} {w : World} {o : Oper} {a : Act} {K : Act → World → Prop} {Q : Exit → Act → World → Prop} {s x : Operand} {t : TypeId}
  (ho : o.op = .call { callee := .builtin .append, args := #[s, x], argTypes := #[t, t] }) {e : TypeId} {z : Value} {size bytes : Nat} (T : SliceT P t e z size bytes) {base : Nat} {v : Value} {n : Nat} {xs : List Value} (hs : a.eval s = v) (hown : w.ownsRow base e size v n xs)
  {m : Nat} {news : List Value} {y : Value} (hx : a.eval x = y) (hr : RdS w size m news y) (h1 : ∀ u ∈ news, u.oneCell' = true) (hb : (n + m) * bytes ≤ 140737488355328) (hm : n + m ≤ maxLen) (hbase : base ≤ w.heap.size)
  (h : ∀ v' w', w'.ownsRow base e size v' (n + m) (xs ++ news) → w.grownBy w' v.ownBlock → (v'.ownBlock = v.ownBlock ∨ v'.ownBlock = some w.heap.size) → K (a.put o.dst v') w') : o.wp P a w K Q := by
 obtain ⟨v', w', hrun, h2, h3, h4⟩ := run_append_rd T o.type hown hr h1 hb hm hbase
 unfold Oper.wp execOp
 simp only [ho, resolve, invoke, builtin, Sem.run_bind, Sem.run_pure, Result.andThen_ok, List.map_toArray, List.map_cons, List.map_nil, hs, hx, hrun]
 exact h v' w' h2 h3 h4
/-- A list of one move, in new memory. -/
def MvV (lo : Nat) (p tq : List Int) (at_ : Int) (v : Value) (W : World) : Prop := ∃ g pA pc tA tc, v = .slice (some ⟨g, 0, none⟩) 1 1 ∧ lo ≤ g ∧ NBox W g 38 #[.int .u8 3, .slice pA p.length pc, .int .i64 at_, .slice tA tq.length tc, .int .u64 0, .bool false, .string ⟨#[]⟩, .string ⟨#[]⟩, .string ⟨#[]⟩, .bool false, .slice none 0 0] ∧
 W.ownsRow lo 3 1 (.slice pA p.length pc) p.length (p.map (Value.int .i64)) ∧ W.ownsRow lo 3 1 (.slice tA tq.length tc) tq.length (tq.map (Value.int .i64))
theorem MvV.fr {lo : Nat} {p tq : List Int} {at_ : Int} {v : Value} {W W' : World} {S : Nat → Prop} (h : MvV lo p tq at_ v W) (F : Fr W W' S) (hS : ∀ k, S k → k < lo) : MvV lo p tq at_ v W' := by
 obtain ⟨g, pA, pc, tA, tc, h1, h2, h3, h4, h5⟩ := h
 refine ⟨g, pA, pc, tA, tc, h1, h2, h3.fr F (fun hh => by have := hS g hh; omega), owns_fr F h4 (fun q hq hh => by have := hS q hh; have := owns_base h4 q hq; omega), owns_fr F h5 (fun q hq hh => by have := hS q hh; have := owns_base h5 q hq; omega)⟩
theorem MvV.ext {lo : Nat} {p tq : List Int} {at_ : Int} {v : Value} {W W' : World} (h : MvV lo p tq at_ v W) (X : Ext W W') : MvV lo p tq at_ v W' := MvV.fr (S := fun _ => False) h (Fr.of_ext X _) (fun _ hk => hk.elim)
theorem MvV.low {lo lo' : Nat} {p tq : List Int} {at_ : Int} {v : Value} {W : World} (h : MvV lo p tq at_ v W) (hl : lo' ≤ lo) : MvV lo' p tq at_ v W := by
 obtain ⟨g, pA, pc, tA, tc, h1, h2, h3, h4, h5⟩ := h
 exact ⟨g, pA, pc, tA, tc, h1, Nat.le_trans hl h2, h3, owns_lo h4 hl, owns_lo h5 hl⟩
theorem ints_one1 (l : List Int) : ∀ u ∈ l.map (Value.int .i64), u.oneCell' = true := by
 intro u hu
 obtain ⟨x, -, rfl⟩ := List.mem_map.1 hu
 rfl
theorem SpV.ext {w W W' : World} {s : SpD} {v : Value} (h : SpV w W s v) (X : Ext W W') : SpV w W' s v := by
 obtain ⟨a1, a2, a3, a4, a5, a6, a7, a8, a9, b1, b2, b3, h1, h2, h3, h4, h5⟩ := h
 exact ⟨a1, a2, a3, a4, a5, a6, a7, a8, a9, b1, b2, b3, h1, h2, h3, owns_ext X h4, owns_ext X h5⟩
theorem T27 : SliceT Try.prog 27 3 (.int .i64 0) 1 8 := SliceT.mk' Try.underlying27 (by kernel_rfl) rfl (by decide)
set_option maxRecDepth 100000 in
set_option maxHeartbeats 4000000 in
theorem move29_any (s : SpD) (tq : List Int) (at_ : Int) (sv tv : Value) (w0 w : World) (hX : Ext w0 w) (hs : SpV w0 w s sv) (ht : RdI w tq tv) (hl : tq.length ≤ 100000) : Calls Try.prog 29 #[sv, tv, .int .i64 at_] w (fun e W' => Ext w W' ∧ ∃ v, e = .returned v ∧ MvV w0.heap.size s.p tq at_ v W') := by
 obtain ⟨xA, xc, xK, xd, pA, pc, uA, uc, yA, yc, yK, yd, rfl, -, -, hP, -⟩ := hs
 obtain ⟨w1, hw1⟩ : ∃ W, w.alloc (.cells #[.int .u64 s.x.id, .bool s.x.leaf, .string s.x.label, .slice xA s.x.attrs.length xc, .string s.x.text, .slice xK s.x.kids.length xd, .slice pA s.p.length pc, .slice uA s.up.length uc, .int .i64 s.i, .int .u64 s.par.id, .bool s.par.leaf, .string s.par.label, .slice yA s.par.attrs.length yc, .string s.par.text, .slice yK s.par.kids.length yd] 52) = W := ⟨_, rfl⟩
 obtain ⟨X, hXX⟩ : ∃ X, w.heap.size = X := ⟨_, rfl⟩
 have E1 : Ext w w1 := by rw [← hw1]; exact (Ext.refl w).alloc _
 have bX : NBox w1 X 52 #[.int .u64 s.x.id, .bool s.x.leaf, .string s.x.label, .slice xA s.x.attrs.length xc, .string s.x.text, .slice xK s.x.kids.length xd, .slice pA s.p.length pc, .slice uA s.up.length uc, .int .i64 s.i, .int .u64 s.par.id, .bool s.par.leaf, .string s.par.label, .slice yA s.par.attrs.length yc, .string s.par.text, .slice yK s.par.kids.length yd] := by rw [← hw1, ← hXX]; exact NBox.new _ _ _
 obtain ⟨c0, hc0⟩ : ∃ c0, w1.drew = c0 := ⟨_, rfl⟩
 have XC : Ext w1 c0 := by rw [← hc0]; exact (Ext.refl _).drew
 have HE := Lib.hid (E1.trans XC)
 have HX0 := Lib.hid hX
 have HB := Lib.hid (bX.ext XC)
 have HP := Lib.hid (owns_ext (E1.trans XC) hP)
 have HT := Lib.hid (RdS.ext (E1.trans XC) ht)
 have HW := Lib.hid hw1
 have HXX := Lib.hid hXX
 obtain ⟨tA0, tc0, rfl, -⟩ := ht
 clear hw1 hXX E1 bX XC hP hX
 go_enter Try.func29, Try.ntmps29
 go_upto_region 1 with fail
 rw [HW.out, HXX.out]
 refine wp_region_held_drew (S := fun W => NBox W X 52 #[.int .u64 s.x.id, .bool s.x.leaf, .string s.x.label, .slice xA s.x.attrs.length xc, .string s.x.text, .slice xK s.x.kids.length xd, .slice pA s.p.length pc, .slice uA s.up.length uc, .int .i64 s.i, .int .u64 s.par.id, .bool s.par.leaf, .string s.par.label, .slice yA s.par.attrs.length yc, .string s.par.text, .slice yK s.par.kids.length yd]) (by kernel_rfl) (by rw [hc0]; exact HB.out) (fun hHeld => ?_)
 rw [hc0] at hHeld ⊢
 clear hc0
 refine tk 0 ?_ rfl (.inl ⟨by rfl, ?_⟩) hHeld ?_
 rotate_left
 ·intro w hSw
  try dsimp only at hSw
  go_simp
  all_goals (first | with_reducible rfl | rw [if_pos (by omega)])
 try simp only [Act.put, aS]
 refine tk 1 ?_ rfl (.inl ⟨by rfl, ?_⟩) hHeld ?_
 rotate_left
 ·intro w hSw
  have hb : NBox w X 52 _ := hSw
  have g0 := hb.cell 0
  have g1 := hb.cell 1
  have g2 := hb.cell 2
  have g3 := hb.cell 3
  have g4 := hb.cell 4
  have g5 := hb.cell 5
  have g6 := hb.cell 6
  have g7 := hb.cell 7
  have g8 := hb.cell 8
  have g9 := hb.cell 9
  have g10 := hb.cell 10
  have g11 := hb.cell 11
  have g12 := hb.cell 12
  have g13 := hb.cell 13
  have g14 := hb.cell 14
  clear hb hSw
  go_simp
  all_goals (first | with_reducible rfl | rw [if_pos (by omega)])
 try simp only [Act.put, aS]
 refine tk 2 ?_ rfl (.inl ⟨by rfl, ?_⟩) hHeld ?_
 rotate_left
 ·intro w hSw
  try dsimp only at hSw
  go_simp
  all_goals (first | with_reducible rfl | rw [if_pos (by omega)])
 try simp only [Act.put, aS]
 refine tk 4 ?_ rfl (.inl ⟨by rfl, ?_⟩) hHeld ?_
 rotate_left
 ·intro w hSw
  try dsimp only at hSw
  go_simp
  all_goals (first | with_reducible rfl | rw [if_pos (by omega)])
 try simp only [Act.put, aS]
 refine wpAnyH_ready (rs := [3]) (by kernel_rfl) (by simp) ?_
 refine AllReadyH.cons (o := ⟨_, _, _, _, _, _⟩) rfl (fun K' hK => ?_) AllReadyH.nil
 have hnil : c0.ownsRow c0.heap.size 3 1 (.slice none 0 0) 0 [] := ⟨rfl, .inl ⟨rfl, rfl⟩⟩
 refine wp_append_rd rfl T27 (by rfl) hnil (by rfl) HT.out (ints_one1 _) (by omega) (by simp only [maxLen]; omega) (Nat.le_refl _) ?_
 intro v3 w3 O3 hg3 hat3
 rw [Nat.zero_add, List.nil_append] at O3
 have X3 : Ext c0 w3 := Ext.grown (Ext.refl c0) hg3 (fun q hq => by cases hq)
 have HT3 := Lib.hid (owns_lo O3 (Nat.le_trans HX0.out.size HE.out.size))
 obtain ⟨tA, tc, rfl, -⟩ := RdS.of_owns O3
 have HE3 := Lib.hid (HE.out.trans X3)
 have HP3 := Lib.hid (owns_ext X3 HP.out)
 refine hK.out _ _ (show NBox _ _ _ _ from HB.out.ext X3) (fun hHeld => ?_)
 clear hK K' O3 hg3 hat3 X3 hnil
 try simp only [Act.put, aS]
 refine tk 5 ?_ rfl (.inl ⟨by rfl, ?_⟩) hHeld ?_
 rotate_left
 ·intro w hSw
  try dsimp only at hSw
  go_simp
  all_goals (first | with_reducible rfl | rw [if_pos (by omega)])
 try simp only [Act.put, aS]
 obtain ⟨w4, hw4⟩ : ∃ W, w3.alloc (.cells #[.int .u8 3, .slice pA s.p.length pc, .int .i64 at_, .slice tA tq.length tc, .int .u64 0, .bool false, .string ⟨#[]⟩, .string ⟨#[]⟩, .string ⟨#[]⟩, .bool false, .slice none 0 0] 38) = W := ⟨_, rfl⟩
 obtain ⟨g, hg⟩ : ∃ g, w3.heap.size = g := ⟨_, rfl⟩
 have X4 : Ext w3 w4 := by rw [← hw4]; exact (Ext.refl _).alloc _
 have HG := Lib.hid (show NBox w4 g 38 #[.int .u8 3, .slice pA s.p.length pc, .int .i64 at_, .slice tA tq.length tc, .int .u64 0, .bool false, .string ⟨#[]⟩, .string ⟨#[]⟩, .string ⟨#[]⟩, .bool false, .slice none 0 0] from by rw [← hw4, ← hg]; exact NBox.new _ _ _)
 have HGL := Lib.hid (show w0.heap.size ≤ g from by rw [← hg]; exact Nat.le_trans HX0.out.size HE3.out.size)
 have HE4 := Lib.hid (HE3.out.trans X4)
 have HP4 := Lib.hid (owns_ext X4 HP3.out)
 have HT4 := Lib.hid (owns_ext X4 HT3.out)
 have HW4 := Lib.hid hw4
 have HGG := Lib.hid hg
 refine wpAnyH_ready (rs := [6]) (by kernel_rfl) (by simp) ?_
 refine AllReadyH.cons (o := ⟨_, _, _, _, _, _⟩) rfl (fun K' hK => ?_) AllReadyH.nil
 have HB4 := NBox.ext X4 hHeld
 clear hw4 hg X4
 go_simp
 rw [HW4.out, HGG.out]
 refine hK.out _ _ (show NBox _ _ _ _ from HB4) (fun hHeld => ?_)
 clear hK K' HB4
 try simp only [Act.put, aS]
 refine tk 7 ?_ rfl (.inl ⟨by rfl, ?_⟩) hHeld ?_
 rotate_left
 ·intro w hSw
  try dsimp only at hSw
  go_simp
  all_goals (first | with_reducible rfl | rw [if_pos (by omega)])
 try simp only [Act.put, aS]
 refine wpAnyH_done (by kernel_rfl) ?_ _
 clear hHeld
 go_wp2_with fail
 go_ret
 exact ⟨HE4.out, _, rfl, g, pA, pc, tA, tc, rfl, HGL.out, HG.out, HP4.out, HT4.out⟩
set_option maxRecDepth 100000 in
set_option maxHeartbeats 4000000 in
theorem move32_any (p tq : List Int) (at_ : Int) (pv tv : Value) (w : World) (hp : RdI w p pv) (ht : RdI w tq tv) (hpl : p.length ≤ 100000) (hl : tq.length ≤ 100000) : Calls Try.prog 32 #[pv, tv, .int .i64 at_] w (fun e W' => Ext w W' ∧ ∃ v, e = .returned v ∧ MvV w.heap.size p tq at_ v W') := by
 have hc := copied_any p _ w hp (by omega)
 have HT := Lib.hid ht
 obtain ⟨pA0, pc0, rfl, -⟩ := hp
 obtain ⟨tA0, tc0, rfl, -⟩ := ht
 go_enter Try.func32, Try.ntmps32
 go_wp2_with fail
 refine hc.mono ?_
 clear hc
 rintro e w1 ⟨r, rfl, hO, hE⟩
 have HP := Lib.hid hO
 have HE := Lib.hid hE
 have hc := copied_any tq _ w1 (RdS.ext hE HT.out) (by omega)
 obtain ⟨pA, pc, rfl, -⟩ := RdS.of_owns hO
 clear hO hE
 go_wp2_with fail
 refine hc.mono ?_
 clear hc
 rintro e w2 ⟨r, rfl, hO, hE⟩
 have HP2 := Lib.hid (owns_ext hE HP.out)
 have HT2 := Lib.hid (owns_lo hO HE.out.size)
 have HE2 := Lib.hid (HE.out.trans hE)
 obtain ⟨tA, tc, rfl, -⟩ := RdS.of_owns hO
 clear hO hE
 obtain ⟨w4, hw4⟩ : ∃ W, w2.alloc (.cells #[.int .u8 3, .slice pA p.length pc, .int .i64 at_, .slice tA tq.length tc, .int .u64 0, .bool false, .string ⟨#[]⟩, .string ⟨#[]⟩, .string ⟨#[]⟩, .bool false, .slice none 0 0] 38) = W := ⟨_, rfl⟩
 obtain ⟨g, hg⟩ : ∃ g, w2.heap.size = g := ⟨_, rfl⟩
 have X4 : Ext w2 w4 := by rw [← hw4]; exact (Ext.refl _).alloc _
 have HG := Lib.hid (show NBox w4 g 38 #[.int .u8 3, .slice pA p.length pc, .int .i64 at_, .slice tA tq.length tc, .int .u64 0, .bool false, .string ⟨#[]⟩, .string ⟨#[]⟩, .string ⟨#[]⟩, .bool false, .slice none 0 0] from by rw [← hw4, ← hg]; exact NBox.new _ _ _)
 have HGL := Lib.hid (show w.heap.size ≤ g from by rw [← hg]; exact HE2.out.size)
 have HE4 := Lib.hid (HE2.out.trans X4)
 have HP4 := Lib.hid (owns_ext X4 HP2.out)
 have HT4 := Lib.hid (owns_ext X4 HT2.out)
 have HW4 := Lib.hid hw4
 have HGG := Lib.hid hg
 clear hw4 hg X4
 go_wp2_with (rw [HW4.out, HGG.out]; clear HW4 HGG)
 go_ret
 exact ⟨HE4.out, _, rfl, g, pA, pc, tA, tc, rfl, HGL.out, HG.out, HP4.out, HT4.out⟩
end Go.Proofs.Ytofcbclokkjfjaa.Wi
