/- Chapter 11: an operation's change. -/
import Derived.Test.YtdnjkffmgmbfmaaBsMoves
namespace Go.Proofs.Ytdnjkffmgmbfmaa.Bs
open Go.RowKit Go.Proofs.Ytdnjkffmgmbfmaa.Bw

theorem NBox.set {W : World} {B : Nat} {t : TypeId} {cs : Array Value} (h : NBox W B t cs) (i : Nat) (u : Value) : NBox (W.setCell ⟨B, i, none⟩ u) B t (cs.setIfInBounds i u) := by
 unfold NBox at h ⊢
 simp [World.setCell, Array.getElem?_modify, h]
theorem NBox.frozen {W : World} {B : Nat} {t : TypeId} {cs : Array Value} (h : NBox W B t cs) (i : Nat) : W.frozen? ⟨B, i, none⟩ = false := by
 unfold NBox at h; simp [World.frozen?, h]
theorem NBox.f6 {W : World} {B : Nat} {t : TypeId} {cs : Array Value} (h : NBox W B t cs) : W.frozen? ⟨B, 0, none⟩ = false ∧ W.frozen? ⟨B, 1, none⟩ = false ∧ W.frozen? ⟨B, 2, none⟩ = false ∧ W.frozen? ⟨B, 3, none⟩ = false ∧ W.frozen? ⟨B, 4, none⟩ = false ∧ W.frozen? ⟨B, 5, none⟩ = false := ⟨h.frozen 0, h.frozen 1, h.frozen 2, h.frozen 3, h.frozen 4, h.frozen 5⟩
theorem NBox.other {W : World} {B : Nat} {t : TypeId} {cs : Array Value} (h : NBox W B t cs) {p : Addr} (hp : B ≠ p.block) (u : Value) : NBox (W.setCell p u) B t cs :=
 (Below.heap_setCell W p u B hp).trans h
theorem NBox.lt {W : World} {B : Nat} {t : TypeId} {cs : Array Value} (h : NBox W B t cs) : B < W.heap.size := (Array.getElem?_eq_some_iff.1 h).1
theorem NBox.set6 {W : World} {B : Nat} {t : TypeId} {x0 x1 x2 x3 x4 x5 : Value} (h : NBox W B t #[x0, x1, x2, x3, x4, x5]) (a b c d e f : Value) :
  NBox ((((((W.setCell ⟨B, 0, none⟩ a).setCell ⟨B, 1, none⟩ b).setCell ⟨B, 2, none⟩ c).setCell ⟨B, 3, none⟩ d).setCell ⟨B, 4, none⟩ e).setCell ⟨B, 5, none⟩ f) B t #[a, b, c, d, e, f] := by
 have := (((((h.set 0 a).set 1 b).set 2 c).set 3 d).set 4 e).set 5 f
 simpa using this
theorem Ext.set6 {w W : World} (h : Ext w W) {B : Nat} (hB : w.heap.size ≤ B) (a b c d e f : Value) :
  Ext w ((((((W.setCell ⟨B, 0, none⟩ a).setCell ⟨B, 1, none⟩ b).setCell ⟨B, 2, none⟩ c).setCell ⟨B, 3, none⟩ d).setCell ⟨B, 4, none⟩ e).setCell ⟨B, 5, none⟩ f) :=
 Below.setCell (Below.setCell (Below.setCell (Below.setCell (Below.setCell (Below.setCell h (p := ⟨B, 0, none⟩) hB _) (p := ⟨B, 1, none⟩) hB _) (p := ⟨B, 2, none⟩) hB _) (p := ⟨B, 3, none⟩) hB _) (p := ⟨B, 4, none⟩) hB _) (p := ⟨B, 5, none⟩) hB _
theorem info63 : (Try.prog.info? 63).map (·.size) = some 6 := by kernel_rfl

theorem heap_mid (w : World) (A B C : Obj) : (((w.alloc A).alloc B).alloc C).heap[w.heap.size + 1]? = some B := by
 have h1 : (w.alloc A).heap.size = w.heap.size + 1 := by show (w.heap.push A).size = _; simp
 have h2 := World.alloc_heap_new (w.alloc A) B
 rw [h1] at h2
 have h3 : ((w.alloc A).alloc B).heap.size = w.heap.size + 1 + 1 := by rw [← h1]; show ((w.alloc A).heap.push B).size = _; simp
 exact (((Ext.refl ((w.alloc A).alloc B)).alloc C).block (w.heap.size + 1) (by rw [h3]; omega)).trans h2
theorem heap_top (w : World) (A B C : Obj) : (((w.alloc A).alloc B).alloc C).heap[w.heap.size + 1 + 1]? = some C := by
 have h1 : (w.alloc A).heap.size = w.heap.size + 1 := by show (w.heap.push A).size = _; simp
 have h3 : ((w.alloc A).alloc B).heap.size = w.heap.size + 1 + 1 := by rw [← h1]; show ((w.alloc A).heap.push B).size = _; simp
 have h2 := World.alloc_heap_new ((w.alloc A).alloc B) C
 rwa [h3] at h2
/-- A value that reads as an operation's change. -/
def RdC (w : World) (o : OpD) (v : Value) : Prop := ∃ fv gv f a, v = .agg #[.bool o.sh.takes, .bool o.sh.puts, fv, gv, .int .i64 a, .int .i64 o.at_] ∧ RdI w f fv ∧ RdI w o.sh.goal gv ∧ (o.sh.takes = true → f = o.sh.from_ ∧ a = o.sh.num)
theorem RdC.ext {w w' : World} (h : Ext w w') {o : OpD} {v : Value} (hr : RdC w o v) : RdC w' o v := by
 obtain ⟨fv, gv, f, a, e, h1, h2, h3⟩ := hr
 exact ⟨fv, gv, f, a, e, RdS.ext h h1, RdS.ext h h2, h3⟩

set_option maxRecDepth 100000 in
set_option maxHeartbeats 4000000 in
theorem of_1 (o : OpD) (v : Value) (w : World) (h : o.rd w v) (hk : o.kind = 1) : Calls Try.prog 31 #[v] w (Ret w fun r w' => RdC w' o r) := by
 obtain ⟨pv, tv, cv, rfl, hP, hT, hC, s1, s2, s3⟩ := h
 have h : o.rd w (.agg #[.int .u8 o.kind, pv, .int .i64 o.at_, tv, .int .u64 o.id, .bool o.leaf, .string o.label, .string o.key, .string o.value, .bool o.gone, cv]) := ⟨pv, tv, cv, rfl, hP, hT, hC, s1, s2, s3⟩
 have hP0 := hP
 have hT0 := hT
 have hC0 := hC
 obtain ⟨pA, pc, rfl, _, _, hpc, _⟩ := hP0
 obtain ⟨tA, tc, rfl, _, _, htc, _⟩ := hT0
 obtain ⟨cA, cc, rfl, _⟩ := hC0
 have hpl : o.path.length ≤ pc := by obtain ⟨_, _, e, _, h1, _⟩ := hP; simp only [Value.slice.injEq] at e; omega
 have htl : o.to.length ≤ tc := by obtain ⟨_, _, e, _, h1, _⟩ := hT; simp only [Value.slice.injEq] at e; omega
 unfold maxLen at hpc htc
 have k1 : (o.kind == 1) = true := by rw [hk]; rfl
 have n1 : (o.kind != 1) = false := by rw [bne, k1]; rfl
 have k2 : (o.kind == 2) = false := by rw [hk]; rfl
 have n2 : (o.kind != 2) = true := by rw [bne, k2]; rfl
 have k3 : (o.kind == 3) = false := by rw [hk]; rfl
 have n3 : (o.kind != 3) = true := by rw [bne, k3]; rfl
 go_enter Try.func31, Try.ntmps31
 go_wp2_with fail
 refine bodyPost_ret (results_cell_row rfl _ _ (w.heap.size + 1) 63 _ _ _ rfl (heap_mid _ _ _ _) Try.underlying63 rfl info63) rfl ?_
 have e : o.sh.goal = o.path := by simp [OpD.sh, Sh.goal, hk]
 refine ⟨_, rfl, ⟨_, _, [], _, by simp only [OpD.sh, Sh.takes, Sh.puts, hk]; rfl, RdS.nil_ _ _, ?_, fun ht => by simp [OpD.sh, Sh.takes, hk] at ht⟩, (((Ext.refl w).alloc _).alloc _).alloc _⟩
 rw [e]
 exact RdS.ext ((((Ext.refl w).alloc _).alloc _).alloc _) hP

set_option maxRecDepth 100000 in
set_option maxHeartbeats 4000000 in
theorem of_2 (o : OpD) (v : Value) (w : World) (h : o.rd w v) (hk : o.kind = 2) (hl : o.path.length ≤ 1000000) : Calls Try.prog 31 #[v] w (Ret w fun r w' => RdC w' o r) := by
 obtain ⟨pv, tv, cv, rfl, hP, hT, hC, s1, s2, s3⟩ := h
 have h : o.rd w (.agg #[.int .u8 o.kind, pv, .int .i64 o.at_, tv, .int .u64 o.id, .bool o.leaf, .string o.label, .string o.key, .string o.value, .bool o.gone, cv]) := ⟨pv, tv, cv, rfl, hP, hT, hC, s1, s2, s3⟩
 have hP0 := hP
 have hT0 := hT
 have hC0 := hC
 obtain ⟨pA, pc, rfl, _, _, hpc, _⟩ := hP0
 obtain ⟨tA, tc, rfl, _, _, htc, _⟩ := hT0
 obtain ⟨cA, cc, rfl, _⟩ := hC0
 have hpl : o.path.length ≤ pc := by obtain ⟨_, _, e, _, h1, _⟩ := hP; simp only [Value.slice.injEq] at e; omega
 have htl : o.to.length ≤ tc := by obtain ⟨_, _, e, _, h1, _⟩ := hT; simp only [Value.slice.injEq] at e; omega
 unfold maxLen at hpc htc
 have k1 : (o.kind == 1) = false := by rw [hk]; rfl
 have n1 : (o.kind != 1) = true := by rw [bne, k1]; rfl
 have k2 : (o.kind == 2) = true := by rw [hk]; rfl
 have n2 : (o.kind != 2) = false := by rw [bne, k2]; rfl
 have k3 : (o.kind == 3) = false := by rw [hk]; rfl
 have n3 : (o.kind != 3) = true := by rw [bne, k3]; rfl
 obtain ⟨w3, hw3⟩ : ∃ w3, ((w.alloc (.cells #[.int .u8 2, .slice pA o.path.length pc, .int .i64 o.at_, .slice tA o.to.length tc, .int .u64 o.id, .bool o.leaf, .string o.label, .string o.key, .string o.value, .bool o.gone, .slice cA o.pcs.length cc] 26)).alloc (.cells #[.bool false, .bool false, .slice none 0 0, .slice none 0 0, .int .i64 0, .int .i64 0] 63)).alloc (.cells #[.bool true, .bool false, .slice none 0 0, .slice tA o.to.length tc, .int .i64 0, .int .i64 o.at_] 63) = w3 := ⟨_, rfl⟩
 have hE3 : Ext w w3 := by rw [← hw3]; exact (((Ext.refl w).alloc _).alloc _).alloc _
 have hz : NBox w3 (w.heap.size + 1) 63 #[.bool false, .bool false, .slice none 0 0, .slice none 0 0, .int .i64 0, .int .i64 0] := by rw [← hw3]; exact heap_mid _ _ _ _
 have hb : NBox w3 (w.heap.size + 1 + 1) 63 #[.bool true, .bool false, .slice none 0 0, .slice tA o.to.length tc, .int .i64 0, .int .i64 o.at_] := by rw [← hw3]; exact heap_top _ _ _ _
 have hc := parent_any o.path (.slice pA o.path.length pc) w3 (RdS.ext hE3 hP) hl
 have H3 := Lib.hid hw3
 clear hw3
 go_enter Try.func31, Try.ntmps31
 go_wp2_with fail
 rw [H3.out]
 refine hc.mono ?_
 clear hc H3
 rintro e u ⟨r, rfl, ⟨r', b, rfl, hr'⟩, hE⟩
 have hr0 := hr'
 obtain ⟨rA, rc, rfl, _⟩ := RdS.of_owns hr0
 have hzu := hz.ext hE
 have hbu := hb.ext hE
 have z0 := hzu.cell 0; have y0 := hzu.frozen 0; have c0 := hbu.cell 0; have f0 := hbu.frozen 0; have z1 := hzu.cell 1; have y1 := hzu.frozen 1; have c1 := hbu.cell 1; have f1 := hbu.frozen 1; have z2 := hzu.cell 2; have y2 := hzu.frozen 2; have c2 := hbu.cell 2; have f2 := hbu.frozen 2; have z3 := hzu.cell 3; have y3 := hzu.frozen 3; have c3 := hbu.cell 3; have f3 := hbu.frozen 3; have z4 := hzu.cell 4; have y4 := hzu.frozen 4; have c4 := hbu.cell 4; have f4 := hbu.frozen 4; have z5 := hzu.cell 5; have y5 := hzu.frozen 5; have c5 := hbu.cell 5; have f5 := hbu.frozen 5
 go_wp2_with fail
 have l1 := hz.lt
 have l2 := hb.lt
 have l3 := hE.size
 refine bodyPost_ret (results_cell_row rfl _ _ (w.heap.size + 1) 63 _ _ _ rfl (NBox.set6 ((hzu.other (p := ⟨w.heap.size + 1 + 1, 2, none⟩) (by show w.heap.size + 1 ≠ w.heap.size + 1 + 1; omega) _).other (p := ⟨w.heap.size + 1 + 1, 4, none⟩) (by show w.heap.size + 1 ≠ w.heap.size + 1 + 1; omega) _) _ _ _ _ _ _) Try.underlying63 rfl info63) rfl ?_
 have e1 : o.sh.goal = o.to := by simp [OpD.sh, Sh.goal, hk]
 have hEu := hE3.trans hE
 have hX := fun a b c d e f g h => Ext.set6 (Below.setCell (Below.setCell hEu (p := ⟨w.heap.size + 1 + 1, 2, none⟩) (show w.heap.size ≤ w.heap.size + 1 + 1 by omega) a) (p := ⟨w.heap.size + 1 + 1, 4, none⟩) (show w.heap.size ≤ w.heap.size + 1 + 1 by omega) b) (B := w.heap.size + 1) (by omega) c d e f g h
 have hO := fun a b c d e f g h => ownsRow_setCell_below (ownsRow_setCell_below (ownsRow_setCell_below (ownsRow_setCell_below (ownsRow_setCell_below (ownsRow_setCell_below (ownsRow_setCell_below (ownsRow_setCell_below hr' (a := ⟨w.heap.size + 1 + 1, 2, none⟩) l2 a) (a := ⟨w.heap.size + 1 + 1, 4, none⟩) l2 b) (a := ⟨w.heap.size + 1, 0, none⟩) l1 c) (a := ⟨w.heap.size + 1, 1, none⟩) l1 d) (a := ⟨w.heap.size + 1, 2, none⟩) l1 e) (a := ⟨w.heap.size + 1, 3, none⟩) l1 f) (a := ⟨w.heap.size + 1, 4, none⟩) l1 g) (a := ⟨w.heap.size + 1, 5, none⟩) l1 h
 have et : o.sh.takes = true := by simp [OpD.sh, Sh.takes, hk]
 have ep : o.sh.puts = false := by simp [OpD.sh, Sh.puts, hk]
 have hld : o.path.dropLast.length = o.path.length - 1 := by simp
 refine ⟨_, rfl, ⟨.slice rA (o.path.length - 1) rc, .slice tA o.to.length tc, o.path.dropLast, lastN o.path, by rw [et, ep], ?_, by rw [e1]; exact RdS.ext (hX _ _ _ _ _ _ _ _) hT, fun ht => ⟨rfl, rfl⟩⟩, hX _ _ _ _ _ _ _ _⟩
 have hF := RdS.of_owns (hO (.slice rA (o.path.length - 1) rc) (.int .i64 (lastN o.path)) (.bool true) (.bool false) (.slice rA (o.path.length - 1) rc) (.slice tA o.to.length tc) (.int .i64 (lastN o.path)) (.int .i64 o.at_))
 rw [hld] at hF
 show RdS _ _ o.path.dropLast.length _ _
 rw [hld]
 exact hF

set_option maxRecDepth 100000 in
set_option maxHeartbeats 4000000 in
theorem of_3 (o : OpD) (v : Value) (w : World) (h : o.rd w v) (hk : o.kind = 3) (hl : o.path.length ≤ 1000000) : Calls Try.prog 31 #[v] w (Ret w fun r w' => RdC w' o r) := by
 obtain ⟨pv, tv, cv, rfl, hP, hT, hC, s1, s2, s3⟩ := h
 have h : o.rd w (.agg #[.int .u8 o.kind, pv, .int .i64 o.at_, tv, .int .u64 o.id, .bool o.leaf, .string o.label, .string o.key, .string o.value, .bool o.gone, cv]) := ⟨pv, tv, cv, rfl, hP, hT, hC, s1, s2, s3⟩
 have hP0 := hP
 have hT0 := hT
 have hC0 := hC
 obtain ⟨pA, pc, rfl, _, _, hpc, _⟩ := hP0
 obtain ⟨tA, tc, rfl, _, _, htc, _⟩ := hT0
 obtain ⟨cA, cc, rfl, _⟩ := hC0
 have hpl : o.path.length ≤ pc := by obtain ⟨_, _, e, _, h1, _⟩ := hP; simp only [Value.slice.injEq] at e; omega
 have htl : o.to.length ≤ tc := by obtain ⟨_, _, e, _, h1, _⟩ := hT; simp only [Value.slice.injEq] at e; omega
 unfold maxLen at hpc htc
 have k1 : (o.kind == 1) = false := by rw [hk]; rfl
 have n1 : (o.kind != 1) = true := by rw [bne, k1]; rfl
 have k2 : (o.kind == 2) = false := by rw [hk]; rfl
 have n2 : (o.kind != 2) = true := by rw [bne, k2]; rfl
 have k3 : (o.kind == 3) = true := by rw [hk]; rfl
 have n3 : (o.kind != 3) = false := by rw [bne, k3]; rfl
 obtain ⟨w3, hw3⟩ : ∃ w3, ((w.alloc (.cells #[.int .u8 3, .slice pA o.path.length pc, .int .i64 o.at_, .slice tA o.to.length tc, .int .u64 o.id, .bool o.leaf, .string o.label, .string o.key, .string o.value, .bool o.gone, .slice cA o.pcs.length cc] 26)).alloc (.cells #[.bool false, .bool false, .slice none 0 0, .slice none 0 0, .int .i64 0, .int .i64 0] 63)).alloc (.cells #[.bool true, .bool true, .slice none 0 0, .slice tA o.to.length tc, .int .i64 0, .int .i64 o.at_] 63) = w3 := ⟨_, rfl⟩
 have hE3 : Ext w w3 := by rw [← hw3]; exact (((Ext.refl w).alloc _).alloc _).alloc _
 have hz : NBox w3 (w.heap.size + 1) 63 #[.bool false, .bool false, .slice none 0 0, .slice none 0 0, .int .i64 0, .int .i64 0] := by rw [← hw3]; exact heap_mid _ _ _ _
 have hb : NBox w3 (w.heap.size + 1 + 1) 63 #[.bool true, .bool true, .slice none 0 0, .slice tA o.to.length tc, .int .i64 0, .int .i64 o.at_] := by rw [← hw3]; exact heap_top _ _ _ _
 have hc := parent_any o.path (.slice pA o.path.length pc) w3 (RdS.ext hE3 hP) hl
 have H3 := Lib.hid hw3
 clear hw3
 go_enter Try.func31, Try.ntmps31
 go_wp2_with fail
 rw [H3.out]
 refine hc.mono ?_
 clear hc H3
 rintro e u ⟨r, rfl, ⟨r', b, rfl, hr'⟩, hE⟩
 have hr0 := hr'
 obtain ⟨rA, rc, rfl, _⟩ := RdS.of_owns hr0
 have hzu := hz.ext hE
 have hbu := hb.ext hE
 have z0 := hzu.cell 0; have y0 := hzu.frozen 0; have c0 := hbu.cell 0; have f0 := hbu.frozen 0; have z1 := hzu.cell 1; have y1 := hzu.frozen 1; have c1 := hbu.cell 1; have f1 := hbu.frozen 1; have z2 := hzu.cell 2; have y2 := hzu.frozen 2; have c2 := hbu.cell 2; have f2 := hbu.frozen 2; have z3 := hzu.cell 3; have y3 := hzu.frozen 3; have c3 := hbu.cell 3; have f3 := hbu.frozen 3; have z4 := hzu.cell 4; have y4 := hzu.frozen 4; have c4 := hbu.cell 4; have f4 := hbu.frozen 4; have z5 := hzu.cell 5; have y5 := hzu.frozen 5; have c5 := hbu.cell 5; have f5 := hbu.frozen 5
 go_wp2_with fail
 have l1 := hz.lt
 have l2 := hb.lt
 have l3 := hE.size
 refine bodyPost_ret (results_cell_row rfl _ _ (w.heap.size + 1) 63 _ _ _ rfl (NBox.set6 ((hzu.other (p := ⟨w.heap.size + 1 + 1, 2, none⟩) (by show w.heap.size + 1 ≠ w.heap.size + 1 + 1; omega) _).other (p := ⟨w.heap.size + 1 + 1, 4, none⟩) (by show w.heap.size + 1 ≠ w.heap.size + 1 + 1; omega) _) _ _ _ _ _ _) Try.underlying63 rfl info63) rfl ?_
 have e1 : o.sh.goal = o.to := by simp [OpD.sh, Sh.goal, hk]
 have hEu := hE3.trans hE
 have hX := fun a b c d e f g h => Ext.set6 (Below.setCell (Below.setCell hEu (p := ⟨w.heap.size + 1 + 1, 2, none⟩) (show w.heap.size ≤ w.heap.size + 1 + 1 by omega) a) (p := ⟨w.heap.size + 1 + 1, 4, none⟩) (show w.heap.size ≤ w.heap.size + 1 + 1 by omega) b) (B := w.heap.size + 1) (by omega) c d e f g h
 have hO := fun a b c d e f g h => ownsRow_setCell_below (ownsRow_setCell_below (ownsRow_setCell_below (ownsRow_setCell_below (ownsRow_setCell_below (ownsRow_setCell_below (ownsRow_setCell_below (ownsRow_setCell_below hr' (a := ⟨w.heap.size + 1 + 1, 2, none⟩) l2 a) (a := ⟨w.heap.size + 1 + 1, 4, none⟩) l2 b) (a := ⟨w.heap.size + 1, 0, none⟩) l1 c) (a := ⟨w.heap.size + 1, 1, none⟩) l1 d) (a := ⟨w.heap.size + 1, 2, none⟩) l1 e) (a := ⟨w.heap.size + 1, 3, none⟩) l1 f) (a := ⟨w.heap.size + 1, 4, none⟩) l1 g) (a := ⟨w.heap.size + 1, 5, none⟩) l1 h
 have et : o.sh.takes = true := by simp [OpD.sh, Sh.takes, hk]
 have ep : o.sh.puts = true := by simp [OpD.sh, Sh.puts, hk]
 have hld : o.path.dropLast.length = o.path.length - 1 := by simp
 refine ⟨_, rfl, ⟨.slice rA (o.path.length - 1) rc, .slice tA o.to.length tc, o.path.dropLast, lastN o.path, by rw [et, ep], ?_, by rw [e1]; exact RdS.ext (hX _ _ _ _ _ _ _ _) hT, fun ht => ⟨rfl, rfl⟩⟩, hX _ _ _ _ _ _ _ _⟩
 have hF := RdS.of_owns (hO (.slice rA (o.path.length - 1) rc) (.int .i64 (lastN o.path)) (.bool true) (.bool true) (.slice rA (o.path.length - 1) rc) (.slice tA o.to.length tc) (.int .i64 (lastN o.path)) (.int .i64 o.at_))
 rw [hld] at hF
 show RdS _ _ o.path.dropLast.length _ _
 rw [hld]
 exact hF

theorem of_any (o : OpD) (v : Value) (w : World) (h : o.rd w v) (hk : o.kind = 1 ∨ o.kind = 2 ∨ o.kind = 3) (hl : o.path.length ≤ 1000000) : Calls Try.prog 31 #[v] w (Ret w fun r w' => RdC w' o r) := by
 rcases hk with hk | hk | hk
 ·exact of_1 o v w h hk
 ·exact of_2 o v w h hk hl
 ·exact of_3 o v w h hk hl
end Go.Proofs.Ytdnjkffmgmbfmaa.Bs
