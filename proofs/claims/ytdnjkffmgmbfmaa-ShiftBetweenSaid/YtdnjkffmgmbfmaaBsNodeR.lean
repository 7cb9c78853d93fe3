/- Chapter 11: where a node is: of any path. -/
import Derived.Test.YtdnjkffmgmbfmaaBsNode
namespace Go.Proofs.Ytdnjkffmgmbfmaa.Bs
open Go.RowKit Go.Proofs.Ytdnjkffmgmbfmaa.Bw

theorem RdC.slices2 {w : World} {o : OpD} {v : Value} (h : RdC w o v) {tb pb : Bool} (ht : o.sh.takes = tb) (hp : o.sh.puts = pb) : ∃ (fA : Option Addr) (fc : Nat) (f : List Int) (gA : Option Addr) (gc : Nat) (a : Int), v = .agg #[.bool tb, .bool pb, .slice fA f.length fc, .slice gA o.sh.goal.length gc, .int .i64 a, .int .i64 o.at_] := by
 obtain ⟨fv, gv, f, a, rfl, ⟨fA, fc, rfl, _⟩, ⟨gA, gc, rfl, _⟩, _⟩ := h
 subst ht hp
 exact ⟨fA, fc, f, gA, gc, a, rfl⟩
theorem drop_take_at {p : List Int} {L j : Nat} {x : Int} (hx : p[L + j]? = some x) : (p.drop L).take (j + 1) = (p.drop L).take j ++ [x] := by
 rw [List.take_add_one, List.getElem?_drop, hx]; rfl
/-- What is told where a node is. -/
def RdN (B : Nat) (w : World) (q : Option (List Int)) (r : Value) : Prop := match q with
 | some q => ∃ r', r = .tuple #[r', .bool true] ∧ w.ownsRow B 3 1 r' q.length (q.map (Value.int .i64))
 | none => r = .tuple #[.slice none 0 0, .bool false]

set_option maxRecDepth 100000 in
set_option maxHeartbeats 4000000 in
theorem node_idle (o : OpD) (v pv : Value) (p : List Int) (w : World) (h : o.rd w v) (hp : RdI w p pv) (hm : o.sh.moves = false) (hpl' : p.length ≤ 100000) : Calls Try.prog 11 #[v, pv] w (Ret w fun r w' => ∃ r', r = .tuple #[r', .bool true] ∧ w'.ownsRow w.heap.size 3 1 r' p.length (p.map (Value.int .i64))) := by
 obtain ⟨pv, tv, cv, rfl, hP, hT, hC, s1, s2, s3⟩ := h
 have h : o.rd w (.agg #[.int .u8 o.kind, pv, .int .i64 o.at_, tv, .int .u64 o.id, .bool o.leaf, .string o.label, .string o.key, .string o.value, .bool o.gone, cv]) := ⟨pv, tv, cv, rfl, hP, hT, hC, s1, s2, s3⟩
 have hP0 := hP
 have hT0 := hT
 have hC0 := hC
 obtain ⟨pA, pc, rfl, _, _, hpc, _⟩ := hP0
 obtain ⟨tA, tc, rfl, _, _, htc, _⟩ := hT0
 obtain ⟨cA, cc, rfl, _⟩ := hC0
 have hpl : o.path.length ≤ pc := by obtain ⟨_, _, e, _, h1, _⟩ := hP; simp only [Value.slice.injEq] at e; omega
 have htl : o.to.length ≤ tc := by obtain ⟨_, _, e, _, h1, _⟩ := hT; simp only [Value.slice.injEq] at e; omega
 unfold maxLen at hpc htc
 have hp0 := hp
 obtain ⟨xA, xc, rfl, _, x1, x2, x3⟩ := hp0
 unfold maxLen at x2
 obtain ⟨w1, hw1⟩ : ∃ w1, w.alloc (.cells #[.int .u8 o.kind, .slice pA o.path.length pc, .int .i64 o.at_, .slice tA o.to.length tc, .int .u64 o.id, .bool o.leaf, .string o.label, .string o.key, .string o.value, .bool o.gone, .slice cA o.pcs.length cc] 26) = w1 := ⟨_, rfl⟩
 have hE1 : Ext w w1 := by rw [← hw1]; exact (Ext.refl w).alloc _
 have B0 : w1.cell? ⟨w.heap.size, 0, none⟩ = some (.int .u8 o.kind) := by rw [← hw1]; exact (NBox.new _ _ _).cell 0
 have B1 : w1.cell? ⟨w.heap.size, 1, none⟩ = some (.slice pA o.path.length pc) := by rw [← hw1]; exact (NBox.new _ _ _).cell 1
 have B2 : w1.cell? ⟨w.heap.size, 2, none⟩ = some (.int .i64 o.at_) := by rw [← hw1]; exact (NBox.new _ _ _).cell 2
 have B3 : w1.cell? ⟨w.heap.size, 3, none⟩ = some (.slice tA o.to.length tc) := by rw [← hw1]; exact (NBox.new _ _ _).cell 3
 have B4 : w1.cell? ⟨w.heap.size, 4, none⟩ = some (.int .u64 o.id) := by rw [← hw1]; exact (NBox.new _ _ _).cell 4
 have B5 : w1.cell? ⟨w.heap.size, 5, none⟩ = some (.bool o.leaf) := by rw [← hw1]; exact (NBox.new _ _ _).cell 5
 have B6 : w1.cell? ⟨w.heap.size, 6, none⟩ = some (.string o.label) := by rw [← hw1]; exact (NBox.new _ _ _).cell 6
 have B7 : w1.cell? ⟨w.heap.size, 7, none⟩ = some (.string o.key) := by rw [← hw1]; exact (NBox.new _ _ _).cell 7
 have B8 : w1.cell? ⟨w.heap.size, 8, none⟩ = some (.string o.value) := by rw [← hw1]; exact (NBox.new _ _ _).cell 8
 have B9 : w1.cell? ⟨w.heap.size, 9, none⟩ = some (.bool o.gone) := by rw [← hw1]; exact (NBox.new _ _ _).cell 9
 have B10 : w1.cell? ⟨w.heap.size, 10, none⟩ = some (.slice cA o.pcs.length cc) := by rw [← hw1]; exact (NBox.new _ _ _).cell 10
 have E := Ext.refl w1
 have H1 := Lib.hid hw1
 clear hw1
 have hc29 : ∀ W, Ext w1 W → Calls Try.prog 29 #[.agg #[.int .u8 o.kind, .slice pA o.path.length pc, .int .i64 o.at_, .slice tA o.to.length tc, .int .u64 o.id, .bool o.leaf, .string o.label, .string o.key, .string o.value, .bool o.gone, .slice cA o.pcs.length cc]] W (Ret W fun r _ => r = .bool false) := fun W hW => by
  have := moves_any o _ W (OpD.rd_ext (hE1.trans hW) h)
  rwa [hm] at this
 have hc30 : ∀ W, Ext w1 W → Calls Try.prog 30 #[.slice xA p.length xc] W (Ret W fun r w' => w'.ownsRow w.heap.size 3 1 r p.length (p.map (Value.int .i64))) := fun W hW => (clone_any p _ W (RdS.ext (hE1.trans hW) hp) (by omega)).mono (by
  rintro e w' ⟨r, rfl, ho, hE⟩
  exact ⟨r, rfl, owns_mono ho (hE1.trans hW).size, hE⟩)
 clear h hP hT hC s1 s2 s3 hpl htl hm
 go_enter Try.func11, Try.ntmps11
 go_wp2_with fail
 refine wp_scope_fwd 0 rfl ?_
 go_wp2_with (first | (rw [H1.out]; clear H1) | (go_at_call 29; refine (hc29 _ E).mono ?_; clear hc29; rintro e u ⟨r, rfl, rfl, hE⟩; replace E := Ext.trans E hE; clear hE) | (go_at_call 30; refine (hc30 _ E).mono ?_; clear hc30; rintro e u2 ⟨r, rfl, hown, hE⟩; replace E := Ext.trans E hE; clear hE))
 go_ret2
 exact ⟨_, rfl, ⟨_, rfl, hown⟩, hE1.trans E⟩

set_option maxRecDepth 100000 in
set_option maxHeartbeats 4000000 in
theorem node_gone (o : OpD) (v pv : Value) (p : List Int) (w : World) (h : o.rd w v) (hp : RdI w p pv) (hm : o.sh.moves = true) (htk : o.sh.takes = true) (hpu : o.sh.puts = false) (hw : within o.path p = true) (hl : o.path.length ≤ 100000) : Calls Try.prog 11 #[v, pv] w (Ret w fun r _ => r = .tuple #[.slice none 0 0, .bool false]) := by
 obtain ⟨pv, tv, cv, rfl, hP, hT, hC, s1, s2, s3⟩ := h
 have h : o.rd w (.agg #[.int .u8 o.kind, pv, .int .i64 o.at_, tv, .int .u64 o.id, .bool o.leaf, .string o.label, .string o.key, .string o.value, .bool o.gone, cv]) := ⟨pv, tv, cv, rfl, hP, hT, hC, s1, s2, s3⟩
 have hP0 := hP
 have hT0 := hT
 have hC0 := hC
 obtain ⟨pA, pc, rfl, _, _, hpc, _⟩ := hP0
 obtain ⟨tA, tc, rfl, _, _, htc, _⟩ := hT0
 obtain ⟨cA, cc, rfl, _⟩ := hC0
 have hpl : o.path.length ≤ pc := by obtain ⟨_, _, e, _, h1, _⟩ := hP; simp only [Value.slice.injEq] at e; omega
 have htl : o.to.length ≤ tc := by obtain ⟨_, _, e, _, h1, _⟩ := hT; simp only [Value.slice.injEq] at e; omega
 unfold maxLen at hpc htc
 have hp0 := hp
 obtain ⟨xA, xc, rfl, _, x1, x2, x3⟩ := hp0
 unfold maxLen at x2
 obtain ⟨w1, hw1⟩ : ∃ w1, w.alloc (.cells #[.int .u8 o.kind, .slice pA o.path.length pc, .int .i64 o.at_, .slice tA o.to.length tc, .int .u64 o.id, .bool o.leaf, .string o.label, .string o.key, .string o.value, .bool o.gone, .slice cA o.pcs.length cc] 26) = w1 := ⟨_, rfl⟩
 have hE1 : Ext w w1 := by rw [← hw1]; exact (Ext.refl w).alloc _
 have B0 : w1.cell? ⟨w.heap.size, 0, none⟩ = some (.int .u8 o.kind) := by rw [← hw1]; exact (NBox.new _ _ _).cell 0
 have B1 : w1.cell? ⟨w.heap.size, 1, none⟩ = some (.slice pA o.path.length pc) := by rw [← hw1]; exact (NBox.new _ _ _).cell 1
 have B2 : w1.cell? ⟨w.heap.size, 2, none⟩ = some (.int .i64 o.at_) := by rw [← hw1]; exact (NBox.new _ _ _).cell 2
 have B3 : w1.cell? ⟨w.heap.size, 3, none⟩ = some (.slice tA o.to.length tc) := by rw [← hw1]; exact (NBox.new _ _ _).cell 3
 have B4 : w1.cell? ⟨w.heap.size, 4, none⟩ = some (.int .u64 o.id) := by rw [← hw1]; exact (NBox.new _ _ _).cell 4
 have B5 : w1.cell? ⟨w.heap.size, 5, none⟩ = some (.bool o.leaf) := by rw [← hw1]; exact (NBox.new _ _ _).cell 5
 have B6 : w1.cell? ⟨w.heap.size, 6, none⟩ = some (.string o.label) := by rw [← hw1]; exact (NBox.new _ _ _).cell 6
 have B7 : w1.cell? ⟨w.heap.size, 7, none⟩ = some (.string o.key) := by rw [← hw1]; exact (NBox.new _ _ _).cell 7
 have B8 : w1.cell? ⟨w.heap.size, 8, none⟩ = some (.string o.value) := by rw [← hw1]; exact (NBox.new _ _ _).cell 8
 have B9 : w1.cell? ⟨w.heap.size, 9, none⟩ = some (.bool o.gone) := by rw [← hw1]; exact (NBox.new _ _ _).cell 9
 have B10 : w1.cell? ⟨w.heap.size, 10, none⟩ = some (.slice cA o.pcs.length cc) := by rw [← hw1]; exact (NBox.new _ _ _).cell 10
 have E := Ext.refl w1
 have H1 := Lib.hid hw1
 clear hw1
 have hc29 : ∀ W, Ext w1 W → Calls Try.prog 29 #[.agg #[.int .u8 o.kind, .slice pA o.path.length pc, .int .i64 o.at_, .slice tA o.to.length tc, .int .u64 o.id, .bool o.leaf, .string o.label, .string o.key, .string o.value, .bool o.gone, .slice cA o.pcs.length cc]] W (Ret W fun r _ => r = .bool true) := fun W hW => by
  have := moves_any o _ W (OpD.rd_ext (hE1.trans hW) h)
  rwa [hm] at this
 have hkd := (moves_kind hm).1
 have hc31 : ∀ W, Ext w1 W → Calls Try.prog 31 #[.agg #[.int .u8 o.kind, .slice pA o.path.length pc, .int .i64 o.at_, .slice tA o.to.length tc, .int .u64 o.id, .bool o.leaf, .string o.label, .string o.key, .string o.value, .bool o.gone, .slice cA o.pcs.length cc]] W (Ret W fun r w' => RdC w' o r) := fun W hW => of_any o _ W (OpD.rd_ext (hE1.trans hW) h) hkd (by omega)
 have hc32 : ∀ W, Ext w1 W → Calls Try.prog 32 #[.slice pA o.path.length pc, .slice xA p.length xc] W (Ret W fun r _ => r = .bool true) := fun W hW => by
  have := pathWithin_any o.path p _ _ W (RdS.ext (hE1.trans hW) hP) (RdS.ext (hE1.trans hW) hp)
  rwa [hw] at this
 clear h hP hT hC s1 s2 s3 hpl htl hkd hm hw
 go_enter Try.func11, Try.ntmps11
 go_wp2_with fail
 refine wp_scope_fwd 0 rfl ?_
 go_wp2_with (first | (rw [H1.out]; clear H1) | (rw [H4.out]; clear H4) | (go_at_call 29; refine (hc29 _ E).mono ?_; clear hc29; rintro e u ⟨r, rfl, rfl, hE⟩; replace E := Ext.trans E hE; clear hE; have B0' := E.cell B0; have B1' := E.cell B1; have B2' := E.cell B2; have B3' := E.cell B3; have B4' := E.cell B4; have B5' := E.cell B5; have B6' := E.cell B6; have B7' := E.cell B7; have B8' := E.cell B8; have B9' := E.cell B9; have B10' := E.cell B10) | (go_at_call 31; refine (hc31 _ E).mono ?_; clear hc31; rintro e u2 ⟨r, rfl, hRC, hE⟩; obtain ⟨fA, fc, f, gA, gc, a, rfl⟩ := RdC.slices2 hRC htk hpu; obtain ⟨w4, hw4⟩ : ∃ w4, u2.alloc (.cells #[.bool true, .bool false, .slice fA f.length fc, .slice gA o.sh.goal.length gc, .int .i64 a, .int .i64 o.at_] 63) = w4 := ⟨_, rfl⟩; have E4 : Ext w1 w4 := (by rw [← hw4]; exact (Ext.trans E hE).alloc _); have hRC4 : RdC w4 o (.agg #[.bool true, .bool false, .slice fA f.length fc, .slice gA o.sh.goal.length gc, .int .i64 a, .int .i64 o.at_]) := (by rw [← hw4]; exact RdC.ext ((Ext.refl _).alloc _) hRC); have NB : NBox w4 u2.heap.size 63 #[.bool true, .bool false, .slice fA f.length fc, .slice gA o.sh.goal.length gc, .int .i64 a, .int .i64 o.at_] := (by rw [← hw4]; exact NBox.new _ _ _); have C0 := NB.cell 0; have C1 := NB.cell 1; have C2 := NB.cell 2; have C3 := NB.cell 3; have C4 := NB.cell 4; have C5 := NB.cell 5; have D0 := E4.cell B0; have D1 := E4.cell B1; have D2 := E4.cell B2; have D3 := E4.cell B3; have D4 := E4.cell B4; have D5 := E4.cell B5; have D6 := E4.cell B6; have D7 := E4.cell B7; have D8 := E4.cell B8; have D9 := E4.cell B9; have D10 := E4.cell B10; have H4 := Lib.hid hw4; clear hw4 hE hRC E) | (go_at_call 32; refine (hc32 _ E4).mono ?_; clear hc32; rintro e u3 ⟨r, rfl, rfl, hE⟩; replace E4 := Ext.trans E4 hE; replace hRC4 := RdC.ext hE hRC4; replace NB := NB.ext hE; replace C0 := NB.cell 0; replace C1 := NB.cell 1; replace C2 := NB.cell 2; replace C3 := NB.cell 3; replace C4 := NB.cell 4; replace C5 := NB.cell 5; replace D0 := E4.cell B0; replace D1 := E4.cell B1; replace D2 := E4.cell B2; replace D3 := E4.cell B3; replace D4 := E4.cell B4; replace D5 := E4.cell B5; replace D6 := E4.cell B6; replace D7 := E4.cell B7; replace D8 := E4.cell B8; replace D9 := E4.cell B9; replace D10 := E4.cell B10; clear hE))
 go_step3
 (try simp only [Exit.then])
 refine fwd_goto ?_
 go_wp2_with fail
 rw [Exit.noGoto_ret]
 go_ret2
 exact ⟨_, rfl, rfl, hE1.trans E4⟩

set_option maxRecDepth 100000 in
set_option maxHeartbeats 4000000 in
theorem node_moved (o : OpD) (v pv : Value) (p : List Int) (w : World) (h : o.rd w v) (hp : RdI w p pv) (hm : o.sh.moves = true) (htk : o.sh.takes = true) (hpu : o.sh.puts = true) (hw : within o.path p = true) (hl : o.path.length ≤ 100000) (htl' : o.to.length ≤ 100000) (hpl' : p.length ≤ 100000) :
  Calls Try.prog 11 #[v, pv] w (Ret w fun r w' => ∃ r', r = .tuple #[r', .bool true] ∧ w'.ownsRow w.heap.size 3 1 r' (o.sh.go [] o.to ++ [o.sh.land] ++ p.drop o.path.length).length ((o.sh.go [] o.to ++ [o.sh.land] ++ p.drop o.path.length).map (Value.int .i64))) := by
 obtain ⟨hkd1, hne, hnt⟩ := moves_kind hm
 have hk3 : o.sh.kind = 3 := by
  have h1 : o.sh.kind ≠ 1 := by simpa [Sh.takes] using htk
  have h2 : o.sh.kind ≠ 2 := by simpa [Sh.puts] using hpu
  omega
 have hne' : o.path ≠ [] := hne (by omega)
 have hpos : 0 < o.path.length := List.length_pos_iff.2 hne'
 have hLp : o.path.length ≤ p.length := by
  obtain ⟨r, hr⟩ := (within_iff _ _).1 hw
  have := congrArg List.length hr
  rw [List.length_append] at this
  omega
 have hwt : within o.path o.to = false := hnt hk3
 obtain ⟨pv, tv, cv, rfl, hP, hT, hC, s1, s2, s3⟩ := h
 have h : o.rd w (.agg #[.int .u8 o.kind, pv, .int .i64 o.at_, tv, .int .u64 o.id, .bool o.leaf, .string o.label, .string o.key, .string o.value, .bool o.gone, cv]) := ⟨pv, tv, cv, rfl, hP, hT, hC, s1, s2, s3⟩
 have hP0 := hP
 have hT0 := hT
 have hC0 := hC
 obtain ⟨pA, pc, rfl, _, _, hpc, _⟩ := hP0
 obtain ⟨tA, tc, rfl, _, _, htc, _⟩ := hT0
 obtain ⟨cA, cc, rfl, _⟩ := hC0
 have hpl : o.path.length ≤ pc := by obtain ⟨_, _, e, _, h1, _⟩ := hP; simp only [Value.slice.injEq] at e; omega
 have htl : o.to.length ≤ tc := by obtain ⟨_, _, e, _, h1, _⟩ := hT; simp only [Value.slice.injEq] at e; omega
 unfold maxLen at hpc htc
 have hp0 := hp
 obtain ⟨xA, xc, rfl, _, x1, x2, x3⟩ := hp0
 unfold maxLen at x2
 obtain ⟨w1, hw1⟩ : ∃ w1, w.alloc (.cells #[.int .u8 o.kind, .slice pA o.path.length pc, .int .i64 o.at_, .slice tA o.to.length tc, .int .u64 o.id, .bool o.leaf, .string o.label, .string o.key, .string o.value, .bool o.gone, .slice cA o.pcs.length cc] 26) = w1 := ⟨_, rfl⟩
 have hE1 : Ext w w1 := by rw [← hw1]; exact (Ext.refl w).alloc _
 have B0 : w1.cell? ⟨w.heap.size, 0, none⟩ = some (.int .u8 o.kind) := by rw [← hw1]; exact (NBox.new _ _ _).cell 0
 have B1 : w1.cell? ⟨w.heap.size, 1, none⟩ = some (.slice pA o.path.length pc) := by rw [← hw1]; exact (NBox.new _ _ _).cell 1
 have B2 : w1.cell? ⟨w.heap.size, 2, none⟩ = some (.int .i64 o.at_) := by rw [← hw1]; exact (NBox.new _ _ _).cell 2
 have B3 : w1.cell? ⟨w.heap.size, 3, none⟩ = some (.slice tA o.to.length tc) := by rw [← hw1]; exact (NBox.new _ _ _).cell 3
 have B4 : w1.cell? ⟨w.heap.size, 4, none⟩ = some (.int .u64 o.id) := by rw [← hw1]; exact (NBox.new _ _ _).cell 4
 have B5 : w1.cell? ⟨w.heap.size, 5, none⟩ = some (.bool o.leaf) := by rw [← hw1]; exact (NBox.new _ _ _).cell 5
 have B6 : w1.cell? ⟨w.heap.size, 6, none⟩ = some (.string o.label) := by rw [← hw1]; exact (NBox.new _ _ _).cell 6
 have B7 : w1.cell? ⟨w.heap.size, 7, none⟩ = some (.string o.key) := by rw [← hw1]; exact (NBox.new _ _ _).cell 7
 have B8 : w1.cell? ⟨w.heap.size, 8, none⟩ = some (.string o.value) := by rw [← hw1]; exact (NBox.new _ _ _).cell 8
 have B9 : w1.cell? ⟨w.heap.size, 9, none⟩ = some (.bool o.gone) := by rw [← hw1]; exact (NBox.new _ _ _).cell 9
 have B10 : w1.cell? ⟨w.heap.size, 10, none⟩ = some (.slice cA o.pcs.length cc) := by rw [← hw1]; exact (NBox.new _ _ _).cell 10
 have E := Ext.refl w1
 have H1 := Lib.hid hw1
 clear hw1
 have hc29 : ∀ W, Ext w1 W → Calls Try.prog 29 #[.agg #[.int .u8 o.kind, .slice pA o.path.length pc, .int .i64 o.at_, .slice tA o.to.length tc, .int .u64 o.id, .bool o.leaf, .string o.label, .string o.key, .string o.value, .bool o.gone, .slice cA o.pcs.length cc]] W (Ret W fun r _ => r = .bool true) := fun W hW => by
  have := moves_any o _ W (OpD.rd_ext (hE1.trans hW) h)
  rwa [hm] at this
 have hkd := (moves_kind hm).1
 have hc31 : ∀ W, Ext w1 W → Calls Try.prog 31 #[.agg #[.int .u8 o.kind, .slice pA o.path.length pc, .int .i64 o.at_, .slice tA o.to.length tc, .int .u64 o.id, .bool o.leaf, .string o.label, .string o.key, .string o.value, .bool o.gone, .slice cA o.pcs.length cc]] W (Ret W fun r w' => RdC w' o r) := fun W hW => of_any o _ W (OpD.rd_ext (hE1.trans hW) h) hkd (by omega)
 have hc32 : ∀ W, Ext w1 W → Calls Try.prog 32 #[.slice pA o.path.length pc, .slice xA p.length xc] W (Ret W fun r _ => r = .bool true) := fun W hW => by
  have := pathWithin_any o.path p _ _ W (RdS.ext (hE1.trans hW) hP) (RdS.ext (hE1.trans hW) hp)
  rwa [hw] at this
 have hc11 : ∀ W, Ext w1 W → Calls Try.prog 11 #[.agg #[.int .u8 o.kind, .slice pA o.path.length pc, .int .i64 o.at_, .slice tA o.to.length tc, .int .u64 o.id, .bool o.leaf, .string o.label, .string o.key, .string o.value, .bool o.gone, .slice cA o.pcs.length cc], .slice tA o.to.length tc] W (Ret W fun r w' => ∃ r', r = .tuple #[r', .bool true] ∧ w'.ownsRow W.heap.size 3 1 r' o.to.length ((o.sh.go [] o.to).map (Value.int .i64))) := fun W hW =>
  node_stay o _ _ o.to W (OpD.rd_ext (hE1.trans hW) h) (RdS.ext (hE1.trans hW) hT) hm (by rw [hwt, Bool.and_false]) hl htl'
 clear h hP hT hC s1 s2 s3 hpl htl hkd hkd1 hm hw hne hnt hwt hk3 hne'
 have hf1 : decide (0 < (o.path.length : Int)) = true := decide_eq_true (by omega)
 have hf2 : decide (0 < o.path.length) = true := decide_eq_true hpos
 go_enter Try.func11, Try.ntmps11
 go_wp2_with fail
 refine wp_scope_fwd 0 rfl ?_
 go_wp2_with (first | (rw [H1.out]; clear H1) | (rw [H4.out]; clear H4) | (rw [H6.out]; clear H6) | (go_at_call 29; refine (hc29 _ E).mono ?_; clear hc29; rintro e u ⟨r, rfl, rfl, hE⟩; replace E := Ext.trans E hE; clear hE; have B0' := E.cell B0; have B1' := E.cell B1; have B2' := E.cell B2; have B3' := E.cell B3; have B4' := E.cell B4; have B5' := E.cell B5; have B6' := E.cell B6; have B7' := E.cell B7; have B8' := E.cell B8; have B9' := E.cell B9; have B10' := E.cell B10) | (go_at_call 31; refine (hc31 _ E).mono ?_; clear hc31; rintro e u2 ⟨r, rfl, hRC, hE⟩; obtain ⟨fA, fc, f, gA, gc, a, rfl⟩ := RdC.slices2 hRC htk hpu; obtain ⟨w4, hw4⟩ : ∃ w4, u2.alloc (.cells #[.bool true, .bool true, .slice fA f.length fc, .slice gA o.sh.goal.length gc, .int .i64 a, .int .i64 o.at_] 63) = w4 := ⟨_, rfl⟩; have E4 : Ext w1 w4 := (by rw [← hw4]; exact (Ext.trans E hE).alloc _); have hRC4 : RdC w4 o (.agg #[.bool true, .bool true, .slice fA f.length fc, .slice gA o.sh.goal.length gc, .int .i64 a, .int .i64 o.at_]) := (by rw [← hw4]; exact RdC.ext ((Ext.refl _).alloc _) hRC); have NB : NBox w4 u2.heap.size 63 #[.bool true, .bool true, .slice fA f.length fc, .slice gA o.sh.goal.length gc, .int .i64 a, .int .i64 o.at_] := (by rw [← hw4]; exact NBox.new _ _ _); have C0 := NB.cell 0; have C1 := NB.cell 1; have C2 := NB.cell 2; have C3 := NB.cell 3; have C4 := NB.cell 4; have C5 := NB.cell 5; have D0 := E4.cell B0; have D1 := E4.cell B1; have D2 := E4.cell B2; have D3 := E4.cell B3; have D4 := E4.cell B4; have D5 := E4.cell B5; have D6 := E4.cell B6; have D7 := E4.cell B7; have D8 := E4.cell B8; have D9 := E4.cell B9; have D10 := E4.cell B10; have H4 := Lib.hid hw4; clear hw4 hE hRC E) | (go_at_call 32; refine (hc32 _ E4).mono ?_; clear hc32; rintro e u3 ⟨r, rfl, rfl, hE⟩; replace E4 := Ext.trans E4 hE; have E13 := E4; replace hRC4 := RdC.ext hE hRC4; replace NB := NB.ext hE; replace C0 := NB.cell 0; replace C1 := NB.cell 1; replace C2 := NB.cell 2; replace C3 := NB.cell 3; replace C4 := NB.cell 4; replace C5 := NB.cell 5; replace D0 := E4.cell B0; replace D1 := E4.cell B1; replace D2 := E4.cell B2; replace D3 := E4.cell B3; replace D4 := E4.cell B4; replace D5 := E4.cell B5; replace D6 := E4.cell B6; replace D7 := E4.cell B7; replace D8 := E4.cell B8; replace D9 := E4.cell B9; replace D10 := E4.cell B10; clear hE) | (go_at_call 11; refine (hc11 _ E4).mono ?_; clear hc11; rintro e u4 ⟨r, rfl, ⟨rt, rfl, hown4⟩, hE⟩; have E34 : Ext u3 u4 := hE; replace E4 := Ext.trans E4 hE; replace hRC4 := RdC.ext hE hRC4; replace NB := NB.ext hE; replace C0 := NB.cell 0; replace C1 := NB.cell 1; replace C2 := NB.cell 2; replace C3 := NB.cell 3; replace C4 := NB.cell 4; replace C5 := NB.cell 5; replace D0 := E4.cell B0; replace D1 := E4.cell B1; replace D2 := E4.cell B2; replace D3 := E4.cell B3; replace D4 := E4.cell B4; replace D5 := E4.cell B5; replace D6 := E4.cell B6; replace D7 := E4.cell B7; replace D8 := E4.cell B8; replace D9 := E4.cell B9; replace D10 := E4.cell B10; clear hE) | (go_at_call 33; refine (land_any o _ _ hRC4 htk).mono ?_; rintro e u5 ⟨r, rfl, rfl, hE⟩; replace E34 := Ext.trans E34 hE; replace E4 := Ext.trans E4 hE; replace hown4 := owns_ext hE hown4; replace D0 := E4.cell B0; replace D1 := E4.cell B1; replace D2 := E4.cell B2; replace D3 := E4.cell B3; replace D4 := E4.cell B4; replace D5 := E4.cell B5; replace D6 := E4.cell B6; replace D7 := E4.cell B7; replace D8 := E4.cell B8; replace D9 := E4.cell B9; replace D10 := E4.cell B10; obtain ⟨w6, hw6⟩ : ∃ w6, u5.alloc (.cells #[.int .i64 o.sh.land] 3) = w6 := ⟨_, rfl⟩; have hR6 : RdS w6 1 1 [.int .i64 o.sh.land] (.slice (some ⟨u5.heap.size, 0, none⟩) 1 1) := (by rw [← hw6]; exact RdS.one rfl); have E56 : Ext u5 w6 := (by rw [← hw6]; exact (Ext.refl _).alloc _); have H6 := Lib.hid hw6; replace hown4 := owns_ext E56 hown4; clear hw6 hE C0 C1 C2 C3 C4 C5 NB hRC4) | (at_builtin; refine wpList_append_rd rfl rfl T22 (v := _) (by rfl) hown4 (by rfl) hR6 (fun u hu => by rw [List.mem_singleton.1 hu]; rfl) (by omega) (by simp only [maxLen]; omega) (E34.trans E56).size ?_; intro v7 w7 hown7 hg7 hat7; have E37 : Ext u3 w7 := Ext.grown (E34.trans E56) hg7 (owns_base hown4); have E17 : Ext w1 w7 := E13.trans E37; replace D1 := E17.cell B1; clear hg7 hat7 hown4 E34 E56 hR6))
 rw [← List.map_singleton (f := Value.int .i64), ← List.map_append] at hown7
 go_loopw [7, 9] (fun s7 s9 wr => ∃ j : Nat, s9 = .int .i64 ((o.path.length + j : Nat) : Int) ∧ o.path.length + j ≤ p.length ∧ wr.ownsRow u3.heap.size 3 1 s7 (o.to.length + 1 + j) ((o.sh.go [] o.to ++ [o.sh.land] ++ (p.drop o.path.length).take j).map (Value.int .i64)) ∧ Ext u3 wr) (fun _ i _ => p.length - (intOf i).toNat)
 case atStart => exact ⟨0, rfl, hLp, by simpa using hown7, E37⟩
 case round =>
  obtain ⟨j, rfl, hi, hown, hX⟩ := hrel
  have q1 : (0 : Int) ≤ ((o.path.length + j : Nat) : Int) := by omega
  rcases Nat.lt_or_ge (o.path.length + j) p.length with hlt | hlt
  ·obtain ⟨x, hx⟩ : ∃ x, p[o.path.length + j]? = some x := ⟨_, List.getElem?_eq_getElem hlt⟩
   obtain ⟨ba, oa, rfl, ra⟩ := x3 (by omega)
   have hgo := Lib.hid (drop_take_at hx)
   have q2 : ((o.path.length + j : Nat) : Int) < (p.length : Int) := by omega
   have e0 : w1.cell? ⟨ba, oa + (o.path.length + j), none⟩ = some (.int .i64 x) := hE1.cell (ra (o.path.length + j) (.int .i64 x) (by rw [List.getElem?_map, hx]; rfl))
   have e1 := (E13.trans hX).cell e0
   generalize hij : o.path.length + j = i at *
   obtain ⟨w8, hw8⟩ : ∃ W, wr.alloc (.cells #[.int .i64 x] 3) = W := ⟨_, rfl⟩
   have E8 : Ext wr w8 := by rw [← hw8]; exact (Ext.refl _).alloc _
   have h1 : RdS w8 1 1 [.int .i64 x] (.slice (some ⟨wr.heap.size, 0, none⟩) 1 1) := by rw [← hw8]; exact RdS.one rfl
   have H8 := Lib.hid hw8
   clear hw8 hx ra x3 hp
   have hij' := Lib.hid hij
   clear hij
   go_wp2_with (first | (rw [H8.out]; clear H8) | (at_builtin; refine wpList_append_rd rfl rfl T22 (v := _) (by rfl) (owns_ext E8 hown) (by rfl) h1 (fun u hu => by rw [List.mem_singleton.1 hu]; rfl) (by have := hij'.out; omega) (by have := hij'.out; simp only [maxLen]; omega) (hX.trans E8).size ?_; intro v9 w9 hown9 hg9 hat9))
   go_roundw
   case rel =>
    refine ⟨j + 1, by rw [← Nat.add_assoc, hij'.out]; go_num, by rw [← Nat.add_assoc, hij'.out]; omega, ?_, Ext.grown (hX.trans E8) hg9 (owns_base hown)⟩
    rw [hgo.out, ← List.append_assoc, List.map_append, List.map_cons, List.map_nil]
    exact hown9
   case measure => simp [intOf]; omega
  ·have hj : j = p.length - o.path.length := by omega
   have htk2 : (p.drop o.path.length).take j = p.drop o.path.length := List.take_of_length_le (by simp; omega)
   have q2 : decide (((o.path.length + j : Nat) : Int) < (p.length : Int)) = false := decide_eq_false (by omega)
   rw [htk2] at hown
   have hlen : o.to.length + 1 + j = (o.sh.go [] o.to ++ [o.sh.land] ++ p.drop o.path.length).length := by
    simp only [List.length_append, List.length_cons, List.length_nil, List.length_drop, go_len]; omega
   rw [hlen] at hown
   clear x3 htk2 hp hlen
   go_wp2_with fail
   go_ret2
   exact ⟨_, rfl, ⟨_, rfl, owns_mono hown (hE1.trans E13).size⟩, (hE1.trans E13).trans hX⟩

theorem node_any (o : OpD) (v pv : Value) (p : List Int) (w : World) (h : o.rd w v) (hp : RdI w p pv) (hl : o.path.length ≤ 100000) (htl : o.to.length ≤ 100000) (hpl : p.length ≤ 100000) : Calls Try.prog 11 #[v, pv] w (Ret w fun r w' => RdN w.heap.size w' (o.sh.node p) r) := by
 by_cases hm : o.sh.moves = false
 ·have e : o.sh.node p = some p := by rw [Sh.node, if_pos hm]
  rw [e]
  exact node_idle o v pv p w h hp hm hpl
 have hm' : o.sh.moves = true := by simpa using hm
 by_cases hw : (o.sh.takes && within o.path p) = true
 ·have hw' := hw
  rw [Bool.and_eq_true] at hw'
  cases hpu : o.sh.puts with
  | false =>
   have e : o.sh.node p = none := by rw [Sh.node, if_neg hm]; exact (if_pos hw).trans (by rw [hpu]; rfl)
   rw [e]
   exact node_gone o v pv p w h hp hm' hw'.1 hpu hw'.2 hl
  | true =>
   have e : o.sh.node p = some (o.sh.go [] o.to ++ [o.sh.land] ++ p.drop o.path.length) := by rw [Sh.node, if_neg hm]; exact (if_pos hw).trans (by rw [hpu]; rfl)
   rw [e]
   exact node_moved o v pv p w h hp hm' hw'.1 hpu hw'.2 hl htl hpl
 ·have e : o.sh.node p = some (o.sh.go [] p) := by rw [Sh.node, if_neg hm]; exact if_neg hw
  rw [e]
  have := node_stay o v pv p w h hp hm' (by simpa using hw) hl hpl
  simp only [RdN, go_len]
  exact this
end Go.Proofs.Ytdnjkffmgmbfmaa.Bs
namespace Go.Proofs.Ytdnjkffmgmbfmaa.Bs
open Go.RowKit Go.Proofs.Ytdnjkffmgmbfmaa.Bw

theorem snoc_of {p : List Int} (h : p ≠ []) : p = p.dropLast ++ [lastN p] := by
 unfold lastN
 rcases List.eq_nil_or_concat p with h0 | ⟨q, x, hq⟩
 ·exact absurd h0 h
 ·rw [hq]; simp [List.concat_eq_append]







end Go.Proofs.Ytdnjkffmgmbfmaa.Bs
