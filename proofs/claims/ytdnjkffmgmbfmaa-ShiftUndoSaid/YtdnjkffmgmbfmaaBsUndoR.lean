/- Chapter 11: what takes a move back, the document's. -/
import Derived.Test.YtdnjkffmgmbfmaaBsUndo
namespace Go.Proofs.Ytdnjkffmgmbfmaa.Bs
open Go.RowKit Go.Proofs.Ytdnjkffmgmbfmaa.Bw

set_option maxRecDepth 100000 in
set_option maxHeartbeats 4000000 in
theorem undoR_other (o : OpD) (v : Value) (w : World) (h : o.rd w v) (hk : o.kind ≠ 3) : Calls Try.prog 17 #[v] w (Ret w fun r w' => RdU w' o.sh r) := by
  have hU : ∀ w' r, RdU w' o.sh r = (r = .agg #[.int .u8 0, .slice none 0 0, .int .i64 0, .slice none 0 0, .int .u64 0, .bool false, .string ⟨#[]⟩, .string ⟨#[]⟩, .string ⟨#[]⟩, .bool false, .slice none 0 0]) := fun w' r => if_neg (fun h => hk h.1)
  simp only [hU]
  obtain ⟨pv, tv, cv, rfl, hP, hT, hC, s1, s2, s3⟩ := h
  have h : o.rd w (.agg #[.int .u8 o.kind, pv, .int .i64 o.at_, tv, .int .u64 o.id, .bool o.leaf, .string o.label, .string o.key, .string o.value, .bool o.gone, cv]) := ⟨pv, tv, cv, rfl, hP, hT, hC, s1, s2, s3⟩
  have hP0 := hP
  have hT0 := hT
  have hC0 := hC
  obtain ⟨pA, pc, rfl, _, _, hpc, _⟩ := hP0
  obtain ⟨tA, tc, rfl, _, _, htc, _⟩ := hT0
  obtain ⟨cA, cc, rfl, _⟩ := hC0
  have hpl : o.path.length ≤ pc := by obtain ⟨_, _, e, _, h1, _⟩ := hP; simp only [Value.slice.injEq] at e; omega
  have htl : o.to.length ≤ tc := by obtain ⟨_, _, e, _, h1, _⟩ := hT; simp only [Value.slice.injEq] at e; omega
  unfold maxLen at hpc htc
  have k3 : (o.kind == 3) = false := by rw [beq_eq_false_iff_ne]; exact hk
  have n3 : (o.kind != 3) = true := by rw [bne, k3]; rfl
  clear h hP hT hC s1 s2 s3 hpl htl hU hk
  go_enter Try.func17, Try.ntmps17
  go_wp2_with fail
  refine bodyPost_ret (results_cell_row rfl _ _ (w.heap.size + 1) 26 _ _ _ rfl (heap_two _ _ _) Try.underlying26 rfl info26) rfl ?_
  exact ⟨_, rfl, rfl, ((Ext.refl w).alloc _).alloc _⟩

set_option maxRecDepth 100000 in
set_option maxHeartbeats 4000000 in
theorem undoR_idle (o : OpD) (v : Value) (w : World) (h : o.rd w v) (hk : o.kind = 3) (hm : o.sh.moves = false) : Calls Try.prog 17 #[v] w (Ret w fun r w' => RdU w' o.sh r) := by
  have hU : ∀ w' r, RdU w' o.sh r = (r = .agg #[.int .u8 0, .slice none 0 0, .int .i64 0, .slice none 0 0, .int .u64 0, .bool false, .string ⟨#[]⟩, .string ⟨#[]⟩, .string ⟨#[]⟩, .bool false, .slice none 0 0]) := fun w' r => if_neg (fun h => by rw [hm] at h; cases h.2)
  simp only [hU]
  obtain ⟨pv, tv, cv, rfl, hP, hT, hC, s1, s2, s3⟩ := h
  have h : o.rd w (.agg #[.int .u8 o.kind, pv, .int .i64 o.at_, tv, .int .u64 o.id, .bool o.leaf, .string o.label, .string o.key, .string o.value, .bool o.gone, cv]) := ⟨pv, tv, cv, rfl, hP, hT, hC, s1, s2, s3⟩
  have hP0 := hP
  have hT0 := hT
  have hC0 := hC
  obtain ⟨pA, pc, rfl, _, _, hpc, _⟩ := hP0
  obtain ⟨tA, tc, rfl, _, _, htc, _⟩ := hT0
  obtain ⟨cA, cc, rfl, _⟩ := hC0
  have hpl : o.path.length ≤ pc := by obtain ⟨_, _, e, _, h1, _⟩ := hP; simp only [Value.slice.injEq] at e; omega
  have htl : o.to.length ≤ tc := by obtain ⟨_, _, e, _, h1, _⟩ := hT; simp only [Value.slice.injEq] at e; omega
  unfold maxLen at hpc htc
  have k3 : (o.kind == 3) = true := by rw [hk]; rfl
  have n3 : (o.kind != 3) = false := by rw [bne, k3]; rfl
  obtain ⟨w1, hw1⟩ : ∃ w1, (w.alloc (.cells #[.int .u8 o.kind, .slice pA o.path.length pc, .int .i64 o.at_, .slice tA o.to.length tc, .int .u64 o.id, .bool o.leaf, .string o.label, .string o.key, .string o.value, .bool o.gone, .slice cA o.pcs.length cc] 26)).alloc (.cells #[.int .u8 0, .slice none 0 0, .int .i64 0, .slice none 0 0, .int .u64 0, .bool false, .string ⟨#[]⟩, .string ⟨#[]⟩, .string ⟨#[]⟩, .bool false, .slice none 0 0] 26) = w1 := ⟨_, rfl⟩
  have hE1 : Ext w w1 := by rw [← hw1]; exact ((Ext.refl w).alloc _).alloc _
  have hb1 : NBox w1 w.heap.size 26 #[.int .u8 o.kind, .slice pA o.path.length pc, .int .i64 o.at_, .slice tA o.to.length tc, .int .u64 o.id, .bool o.leaf, .string o.label, .string o.key, .string o.value, .bool o.gone, .slice cA o.pcs.length cc] := by rw [← hw1]; exact heap_one _ _ _
  have hb2 : NBox w1 (w.heap.size + 1) 26 #[.int .u8 0, .slice none 0 0, .int .i64 0, .slice none 0 0, .int .u64 0, .bool false, .string ⟨#[]⟩, .string ⟨#[]⟩, .string ⟨#[]⟩, .bool false, .slice none 0 0] := by rw [← hw1]; exact heap_two _ _ _
  have B0 := hb1.cell 0
  have B1 := hb1.cell 1
  have B2 := hb1.cell 2
  have B3 := hb1.cell 3
  have B4 := hb1.cell 4
  have B5 := hb1.cell 5
  have B6 := hb1.cell 6
  have B7 := hb1.cell 7
  have B8 := hb1.cell 8
  have B9 := hb1.cell 9
  have B10 := hb1.cell 10
  have E := Ext.refl w1
  have H1 := Lib.hid hw1
  clear hw1
  have hc29 : ∀ W, Ext w1 W → Calls Try.prog 35 #[.agg #[.int .u8 o.kind, .slice pA o.path.length pc, .int .i64 o.at_, .slice tA o.to.length tc, .int .u64 o.id, .bool o.leaf, .string o.label, .string o.key, .string o.value, .bool o.gone, .slice cA o.pcs.length cc]] W (Ret W fun r _ => r = .bool false) := fun W hW => by
    have := movesR_any o _ W (OpD.rd_ext (hE1.trans hW) h)
    rwa [hm] at this
  clear h hP hT hC s1 s2 s3 hpl htl hU hk hm
  go_enter Try.func17, Try.ntmps17
  go_wp2_with (first | (rw [H1.out]; clear H1) | (go_at_call 35; refine (hc29 _ E).mono ?_; clear hc29; rintro e u5 ⟨r, rfl, rfl, hE⟩; replace E := Ext.trans E hE; have hbu := hb2.ext E; have Y0 := hbu.frozen 0; have X0 := hbu.cell 0; have Y1 := hbu.frozen 1; have X1 := hbu.cell 1; have Y2 := hbu.frozen 2; have X2 := hbu.cell 2; have Y3 := hbu.frozen 3; have X3 := hbu.cell 3; have Y4 := hbu.frozen 4; have X4 := hbu.cell 4; have Y5 := hbu.frozen 5; have X5 := hbu.cell 5; have Y6 := hbu.frozen 6; have X6 := hbu.cell 6; have Y7 := hbu.frozen 7; have X7 := hbu.cell 7; have Y8 := hbu.frozen 8; have X8 := hbu.cell 8; have Y9 := hbu.frozen 9; have X9 := hbu.cell 9; have Y10 := hbu.frozen 10; have X10 := hbu.cell 10; clear hE))
  refine bodyPost_ret (results_cell_row rfl _ _ (w.heap.size + 1) 26 _ _ _ rfl (NBox.set11 hbu _ _ _ _ _ _ _ _ _ _ _) Try.underlying26 rfl info26) rfl ?_
  exact ⟨_, rfl, rfl, Ext.set11 (hE1.trans E) (by omega) _ _ _ _ _ _ _ _ _ _ _⟩

set_option maxRecDepth 100000 in
set_option maxHeartbeats 4000000 in
theorem undoR_move (o : OpD) (v : Value) (w : World) (h : o.rd w v) (hk : o.kind = 3) (hm : o.sh.moves = true) (hl : o.path.length ≤ 1000) (htl' : o.to.length ≤ 1000) : Calls Try.prog 17 #[v] w (Ret w fun r w' => RdU w' o.sh r) := by
  obtain ⟨hn1, hn2⟩ := move_plain hm hk
  have hne : o.path ≠ [] := (moves_kind hm).2.1 (by show o.kind ≠ 1; omega)
  have hfl : o.sh.from_.length ≤ 1000 := by show o.path.dropLast.length ≤ 1000; simp; omega
  obtain ⟨pv, tv, cv, rfl, hP, hT, hC, s1, s2, s3⟩ := h
  have h : o.rd w (.agg #[.int .u8 o.kind, pv, .int .i64 o.at_, tv, .int .u64 o.id, .bool o.leaf, .string o.label, .string o.key, .string o.value, .bool o.gone, cv]) := ⟨pv, tv, cv, rfl, hP, hT, hC, s1, s2, s3⟩
  have hP0 := hP
  have hT0 := hT
  have hC0 := hC
  obtain ⟨pA, pc, rfl, _, _, hpc, _⟩ := hP0
  obtain ⟨tA, tc, rfl, _, _, htc, _⟩ := hT0
  obtain ⟨cA, cc, rfl, _⟩ := hC0
  have hpl : o.path.length ≤ pc := by obtain ⟨_, _, e, _, h1, _⟩ := hP; simp only [Value.slice.injEq] at e; omega
  have htl : o.to.length ≤ tc := by obtain ⟨_, _, e, _, h1, _⟩ := hT; simp only [Value.slice.injEq] at e; omega
  unfold maxLen at hpc htc
  have k3 : (o.kind == 3) = true := by rw [hk]; rfl
  have n3 : (o.kind != 3) = false := by rw [bne, k3]; rfl
  obtain ⟨w1, hw1⟩ : ∃ w1, (w.alloc (.cells #[.int .u8 o.kind, .slice pA o.path.length pc, .int .i64 o.at_, .slice tA o.to.length tc, .int .u64 o.id, .bool o.leaf, .string o.label, .string o.key, .string o.value, .bool o.gone, .slice cA o.pcs.length cc] 26)).alloc (.cells #[.int .u8 0, .slice none 0 0, .int .i64 0, .slice none 0 0, .int .u64 0, .bool false, .string ⟨#[]⟩, .string ⟨#[]⟩, .string ⟨#[]⟩, .bool false, .slice none 0 0] 26) = w1 := ⟨_, rfl⟩
  have hE1 : Ext w w1 := by rw [← hw1]; exact ((Ext.refl w).alloc _).alloc _
  have hb1 : NBox w1 w.heap.size 26 #[.int .u8 o.kind, .slice pA o.path.length pc, .int .i64 o.at_, .slice tA o.to.length tc, .int .u64 o.id, .bool o.leaf, .string o.label, .string o.key, .string o.value, .bool o.gone, .slice cA o.pcs.length cc] := by rw [← hw1]; exact heap_one _ _ _
  have hb2 : NBox w1 (w.heap.size + 1) 26 #[.int .u8 0, .slice none 0 0, .int .i64 0, .slice none 0 0, .int .u64 0, .bool false, .string ⟨#[]⟩, .string ⟨#[]⟩, .string ⟨#[]⟩, .bool false, .slice none 0 0] := by rw [← hw1]; exact heap_two _ _ _
  have B0 := hb1.cell 0
  have B1 := hb1.cell 1
  have B2 := hb1.cell 2
  have B3 := hb1.cell 3
  have B4 := hb1.cell 4
  have B5 := hb1.cell 5
  have B6 := hb1.cell 6
  have B7 := hb1.cell 7
  have B8 := hb1.cell 8
  have B9 := hb1.cell 9
  have B10 := hb1.cell 10
  have E := Ext.refl w1
  have H1 := Lib.hid hw1
  clear hw1
  have hc35 : ∀ W, Ext w1 W → Calls Try.prog 35 #[.agg #[.int .u8 o.kind, .slice pA o.path.length pc, .int .i64 o.at_, .slice tA o.to.length tc, .int .u64 o.id, .bool o.leaf, .string o.label, .string o.key, .string o.value, .bool o.gone, .slice cA o.pcs.length cc]] W (Ret W fun r _ => r = .bool true) := fun W hW => by
    have := movesR_any o _ W (OpD.rd_ext (hE1.trans hW) h)
    rwa [hm] at this
  have hc36 : ∀ W, Ext w1 W → Calls Try.prog 36 #[.slice pA o.path.length pc] W (Ret W fun r _ => r = .tuple #[.slice pA (o.path.length - 1) pc, .int .i64 o.sh.num]) := fun W hW => (parentR_any _ _ _ (RdS.ext (hE1.trans hW) hP) hne).mono (by
    rintro e w' ⟨r, rfl, ⟨A, c, he, rfl⟩, hE⟩
    simp only [Value.slice.injEq, true_and] at he
    obtain ⟨rfl, rfl⟩ := he
    exact ⟨_, rfl, rfl, hE⟩)
  have hq : RdI w o.sh.from_ (.slice pA (o.path.length - 1) pc) := by
    have := RdI.take hP (o.path.length - 1) (by omega)
    rw [dropLast_take] at this
    exact this
  have hcp : ∀ W, Ext w1 W → Calls Try.prog 12 #[.agg #[.int .u8 o.kind, .slice pA o.path.length pc, .int .i64 o.at_, .slice tA o.to.length tc, .int .u64 o.id, .bool o.leaf, .string o.label, .string o.key, .string o.value, .bool o.gone, .slice cA o.pcs.length cc], .slice pA o.path.length pc] W (Ret W fun r w' => ∃ r', r = .tuple #[r', .bool true] ∧ w'.ownsRow w1.heap.size 3 1 r' (o.sh.go [] o.to ++ [o.sh.land]).length ((o.sh.go [] o.to ++ [o.sh.land]).map (Value.int .i64))) := fun W hW => by
    have := nodeR_any o _ _ o.path W (OpD.rd_ext (hE1.trans hW) h) (RdS.ext (hE1.trans hW) hP) (by omega) (by omega)
    rw [show o.sh.node o.path = _ from hn1] at this
    exact this.mono (by rintro e w' ⟨r, rfl, ⟨r', rfl, ho⟩, hE⟩; exact ⟨_, rfl, ⟨_, rfl, owns_mono ho hW.size⟩, hE⟩)
  have hcf : ∀ W, Ext w1 W → Calls Try.prog 12 #[.agg #[.int .u8 o.kind, .slice pA o.path.length pc, .int .i64 o.at_, .slice tA o.to.length tc, .int .u64 o.id, .bool o.leaf, .string o.label, .string o.key, .string o.value, .bool o.gone, .slice cA o.pcs.length cc], .slice pA (o.path.length - 1) pc] W (Ret W fun r w' => ∃ r', r = .tuple #[r', .bool true] ∧ w'.ownsRow w1.heap.size 3 1 r' (o.sh.go [] o.sh.from_).length ((o.sh.go [] o.sh.from_).map (Value.int .i64))) := fun W hW => by
    have := nodeR_any o _ _ o.sh.from_ W (OpD.rd_ext (hE1.trans hW) h) (RdS.ext (hE1.trans hW) hq) (by omega) (by omega)
    rw [hn2] at this
    exact this.mono (by rintro e w' ⟨r, rfl, ⟨r', rfl, ho⟩, hE⟩; exact ⟨_, rfl, ⟨_, rfl, owns_mono ho hW.size⟩, hE⟩)
  have hc37 : ∀ W, Ext w1 W → Calls Try.prog 37 #[.slice pA (o.path.length - 1) pc, .slice tA o.to.length tc] W (Ret W fun r _ => r = .bool (decide (o.sh.from_ = o.to))) := fun W hW => sameR_any _ _ _ _ _ (RdS.ext (hE1.trans hW) hq) (RdS.ext (hE1.trans hW) hT)
  have hU : ∀ w' r, RdU w' o.sh r = ∃ nA nc tA tc, r = .agg #[.int .u8 3, .slice nA (o.sh.go [] o.to ++ [o.sh.land]).length nc, .int .i64 o.sh.undoAt, .slice tA (o.sh.go [] o.sh.from_).length tc, .int .u64 0, .bool false, .string ⟨#[]⟩, .string ⟨#[]⟩, .string ⟨#[]⟩, .bool false, .slice none 0 0] ∧
      w'.ownsRow 0 3 1 (.slice nA (o.sh.go [] o.to ++ [o.sh.land]).length nc) (o.sh.go [] o.to ++ [o.sh.land]).length ((o.sh.go [] o.to ++ [o.sh.land]).map (Value.int .i64)) ∧ w'.ownsRow 0 3 1 (.slice tA (o.sh.go [] o.sh.from_).length tc) (o.sh.go [] o.sh.from_).length ((o.sh.go [] o.sh.from_).map (Value.int .i64)) := fun w' r => if_pos ⟨hk, hm⟩
  simp only [hU]
  have HF : Hid (o.sh.undoAt = if decide (o.sh.from_ = o.to) && decide (o.sh.land < o.sh.num) then wrap64 (o.sh.num + 1) else o.sh.num) := by
    simp only [Hid, Sh.undoAt, sh_wr]; rfl
  have HN1 : Hid (o.sh.go [] o.to ++ [o.sh.land] ≠ []) := by simp [Hid]
  have HN2 : Hid (lastN (o.sh.go [] o.to ++ [o.sh.land]) = o.sh.land) := last_snoc _ _
  clear h hP hT hC s1 s2 s3 hpl htl hk hm hn1 hn2 hU hfl hq hne
  generalize o.sh.go [] o.to ++ [o.sh.land] = N at *
  generalize o.sh.go [] o.sh.from_ = T at *
  generalize decide (o.sh.from_ = o.to) = s at *
  rcases s with _ | _
  · go_enter Try.func17, Try.ntmps17
    go_wp2_with (first | (rw [H1.out]; clear H1) | (go_at_call 35; refine (hc35 _ E).mono ?_; clear hc35; rintro e u5 ⟨r, rfl, rfl, hE⟩; replace E := Ext.trans E hE; skip; have D0 := E.cell B0; have D1 := E.cell B1; have D2 := E.cell B2; have D3 := E.cell B3; have D4 := E.cell B4; have D5 := E.cell B5; have D6 := E.cell B6; have D7 := E.cell B7; have D8 := E.cell B8; have D9 := E.cell B9; have D10 := E.cell B10; clear hE) | (go_at_call 36; refine (hc36 _ E).mono ?_; clear hc36; rintro e u6 ⟨r, rfl, rfl, hE⟩; replace E := Ext.trans E hE; skip; have D0 := E.cell B0; have D1 := E.cell B1; have D2 := E.cell B2; have D3 := E.cell B3; have D4 := E.cell B4; have D5 := E.cell B5; have D6 := E.cell B6; have D7 := E.cell B7; have D8 := E.cell B8; have D9 := E.cell B9; have D10 := E.cell B10; clear hE) | (go_at_call 12; refine (hcp _ E).mono ?_; clear hcp; rintro e u7 ⟨r, rfl, ⟨rn, rfl, hown1⟩, hE⟩; replace E := Ext.trans E hE; obtain ⟨nA, nc, rfl, _⟩ := RdS.of_owns hown1; have D0 := E.cell B0; have D1 := E.cell B1; have D2 := E.cell B2; have D3 := E.cell B3; have D4 := E.cell B4; have D5 := E.cell B5; have D6 := E.cell B6; have D7 := E.cell B7; have D8 := E.cell B8; have D9 := E.cell B9; have D10 := E.cell B10; clear hE) | (go_at_call 12; refine (hcf _ E).mono ?_; clear hcf; rintro e u8 ⟨r, rfl, ⟨rt, rfl, hown2⟩, hE⟩; replace E := Ext.trans E hE; replace hown1 := owns_ext hE hown1; obtain ⟨zA, zc, rfl, _⟩ := RdS.of_owns hown2; have D0 := E.cell B0; have D1 := E.cell B1; have D2 := E.cell B2; have D3 := E.cell B3; have D4 := E.cell B4; have D5 := E.cell B5; have D6 := E.cell B6; have D7 := E.cell B7; have D8 := E.cell B8; have D9 := E.cell B9; have D10 := E.cell B10; clear hE) | (go_at_call 36; refine (parentR_any N _ _ (RdS.of_owns hown1) HN1.out).mono ?_; rintro e u9 ⟨r, rfl, ⟨A9, c9, he9, rfl⟩, hE⟩; replace E := Ext.trans E hE; simp only [Value.slice.injEq, true_and] at he9; obtain ⟨e91, e92⟩ := he9; subst e91 e92; rw [HN2.out]; replace hown1 := owns_ext hE hown1; replace hown2 := owns_ext hE hown2; have D0 := E.cell B0; have D1 := E.cell B1; have D2 := E.cell B2; have D3 := E.cell B3; have D4 := E.cell B4; have D5 := E.cell B5; have D6 := E.cell B6; have D7 := E.cell B7; have D8 := E.cell B8; have D9 := E.cell B9; have D10 := E.cell B10; clear hE HN1 HN2) | (go_at_call 37; refine (hc37 _ E).mono ?_; clear hc37; rintro e u10 ⟨r, rfl, rfl, hE⟩; replace E := Ext.trans E hE; replace hown1 := owns_ext hE hown1; replace hown2 := owns_ext hE hown2; have hbu := hb2.ext E; have Y0 := hbu.frozen 0; have X0 := hbu.cell 0; have Y1 := hbu.frozen 1; have X1 := hbu.cell 1; have Y2 := hbu.frozen 2; have X2 := hbu.cell 2; have Y3 := hbu.frozen 3; have X3 := hbu.cell 3; have Y4 := hbu.frozen 4; have X4 := hbu.cell 4; have Y5 := hbu.frozen 5; have X5 := hbu.cell 5; have Y6 := hbu.frozen 6; have X6 := hbu.cell 6; have Y7 := hbu.frozen 7; have X7 := hbu.cell 7; have Y8 := hbu.frozen 8; have X8 := hbu.cell 8; have Y9 := hbu.frozen 9; have X9 := hbu.cell 9; have Y10 := hbu.frozen 10; have X10 := hbu.cell 10; have D0 := E.cell B0; have D1 := E.cell B1; have D2 := E.cell B2; have D3 := E.cell B3; have D4 := E.cell B4; have D5 := E.cell B5; have D6 := E.cell B6; have D7 := E.cell B7; have D8 := E.cell B8; have D9 := E.cell B9; have D10 := E.cell B10; clear hE))
    have l2 := hb2.lt
    refine bodyPost_ret (results_cell_row rfl _ _ (w.heap.size + 1) 26 _ _ _ rfl (NBox.set11 hbu _ _ _ _ _ _ _ _ _ _ _) Try.underlying26 rfl info26) rfl ?_
    exact ⟨_, rfl, ⟨nA, nc, zA, zc, by rw [HF.out]; rfl, owns_mono (owns_set11 hown1 l2 _ _ _ _ _ _ _ _ _ _ _) (Nat.zero_le _), owns_mono (owns_set11 hown2 l2 _ _ _ _ _ _ _ _ _ _ _) (Nat.zero_le _)⟩, Ext.set11 (hE1.trans E) (by omega) _ _ _ _ _ _ _ _ _ _ _⟩
  rcases Int.lt_or_le o.sh.land o.sh.num with hg | hg
  · have g1 : decide (o.sh.land < o.sh.num) = true := decide_eq_true hg
    clear hg
    go_enter Try.func17, Try.ntmps17
    go_wp2_with (first | (rw [H1.out]; clear H1) | (go_at_call 35; refine (hc35 _ E).mono ?_; clear hc35; rintro e u5 ⟨r, rfl, rfl, hE⟩; replace E := Ext.trans E hE; skip; have D0 := E.cell B0; have D1 := E.cell B1; have D2 := E.cell B2; have D3 := E.cell B3; have D4 := E.cell B4; have D5 := E.cell B5; have D6 := E.cell B6; have D7 := E.cell B7; have D8 := E.cell B8; have D9 := E.cell B9; have D10 := E.cell B10; clear hE) | (go_at_call 36; refine (hc36 _ E).mono ?_; clear hc36; rintro e u6 ⟨r, rfl, rfl, hE⟩; replace E := Ext.trans E hE; skip; have D0 := E.cell B0; have D1 := E.cell B1; have D2 := E.cell B2; have D3 := E.cell B3; have D4 := E.cell B4; have D5 := E.cell B5; have D6 := E.cell B6; have D7 := E.cell B7; have D8 := E.cell B8; have D9 := E.cell B9; have D10 := E.cell B10; clear hE) | (go_at_call 12; refine (hcp _ E).mono ?_; clear hcp; rintro e u7 ⟨r, rfl, ⟨rn, rfl, hown1⟩, hE⟩; replace E := Ext.trans E hE; obtain ⟨nA, nc, rfl, _⟩ := RdS.of_owns hown1; have D0 := E.cell B0; have D1 := E.cell B1; have D2 := E.cell B2; have D3 := E.cell B3; have D4 := E.cell B4; have D5 := E.cell B5; have D6 := E.cell B6; have D7 := E.cell B7; have D8 := E.cell B8; have D9 := E.cell B9; have D10 := E.cell B10; clear hE) | (go_at_call 12; refine (hcf _ E).mono ?_; clear hcf; rintro e u8 ⟨r, rfl, ⟨rt, rfl, hown2⟩, hE⟩; replace E := Ext.trans E hE; replace hown1 := owns_ext hE hown1; obtain ⟨zA, zc, rfl, _⟩ := RdS.of_owns hown2; have D0 := E.cell B0; have D1 := E.cell B1; have D2 := E.cell B2; have D3 := E.cell B3; have D4 := E.cell B4; have D5 := E.cell B5; have D6 := E.cell B6; have D7 := E.cell B7; have D8 := E.cell B8; have D9 := E.cell B9; have D10 := E.cell B10; clear hE) | (go_at_call 36; refine (parentR_any N _ _ (RdS.of_owns hown1) HN1.out).mono ?_; rintro e u9 ⟨r, rfl, ⟨A9, c9, he9, rfl⟩, hE⟩; replace E := Ext.trans E hE; simp only [Value.slice.injEq, true_and] at he9; obtain ⟨e91, e92⟩ := he9; subst e91 e92; rw [HN2.out]; replace hown1 := owns_ext hE hown1; replace hown2 := owns_ext hE hown2; have D0 := E.cell B0; have D1 := E.cell B1; have D2 := E.cell B2; have D3 := E.cell B3; have D4 := E.cell B4; have D5 := E.cell B5; have D6 := E.cell B6; have D7 := E.cell B7; have D8 := E.cell B8; have D9 := E.cell B9; have D10 := E.cell B10; clear hE HN1 HN2) | (go_at_call 37; refine (hc37 _ E).mono ?_; clear hc37; rintro e u10 ⟨r, rfl, rfl, hE⟩; replace E := Ext.trans E hE; replace hown1 := owns_ext hE hown1; replace hown2 := owns_ext hE hown2; have hbu := hb2.ext E; have Y0 := hbu.frozen 0; have X0 := hbu.cell 0; have Y1 := hbu.frozen 1; have X1 := hbu.cell 1; have Y2 := hbu.frozen 2; have X2 := hbu.cell 2; have Y3 := hbu.frozen 3; have X3 := hbu.cell 3; have Y4 := hbu.frozen 4; have X4 := hbu.cell 4; have Y5 := hbu.frozen 5; have X5 := hbu.cell 5; have Y6 := hbu.frozen 6; have X6 := hbu.cell 6; have Y7 := hbu.frozen 7; have X7 := hbu.cell 7; have Y8 := hbu.frozen 8; have X8 := hbu.cell 8; have Y9 := hbu.frozen 9; have X9 := hbu.cell 9; have Y10 := hbu.frozen 10; have X10 := hbu.cell 10; have D0 := E.cell B0; have D1 := E.cell B1; have D2 := E.cell B2; have D3 := E.cell B3; have D4 := E.cell B4; have D5 := E.cell B5; have D6 := E.cell B6; have D7 := E.cell B7; have D8 := E.cell B8; have D9 := E.cell B9; have D10 := E.cell B10; clear hE))
    have l2 := hb2.lt
    refine bodyPost_ret (results_cell_row rfl _ _ (w.heap.size + 1) 26 _ _ _ rfl (NBox.set11 hbu _ _ _ _ _ _ _ _ _ _ _) Try.underlying26 rfl info26) rfl ?_
    exact ⟨_, rfl, ⟨nA, nc, zA, zc, by rw [HF.out, g1]; rfl, owns_mono (owns_set11 hown1 l2 _ _ _ _ _ _ _ _ _ _ _) (Nat.zero_le _), owns_mono (owns_set11 hown2 l2 _ _ _ _ _ _ _ _ _ _ _) (Nat.zero_le _)⟩, Ext.set11 (hE1.trans E) (by omega) _ _ _ _ _ _ _ _ _ _ _⟩
  · have g1 : decide (o.sh.land < o.sh.num) = false := decide_eq_false (by omega)
    clear hg
    go_enter Try.func17, Try.ntmps17
    go_wp2_with (first | (rw [H1.out]; clear H1) | (go_at_call 35; refine (hc35 _ E).mono ?_; clear hc35; rintro e u5 ⟨r, rfl, rfl, hE⟩; replace E := Ext.trans E hE; skip; have D0 := E.cell B0; have D1 := E.cell B1; have D2 := E.cell B2; have D3 := E.cell B3; have D4 := E.cell B4; have D5 := E.cell B5; have D6 := E.cell B6; have D7 := E.cell B7; have D8 := E.cell B8; have D9 := E.cell B9; have D10 := E.cell B10; clear hE) | (go_at_call 36; refine (hc36 _ E).mono ?_; clear hc36; rintro e u6 ⟨r, rfl, rfl, hE⟩; replace E := Ext.trans E hE; skip; have D0 := E.cell B0; have D1 := E.cell B1; have D2 := E.cell B2; have D3 := E.cell B3; have D4 := E.cell B4; have D5 := E.cell B5; have D6 := E.cell B6; have D7 := E.cell B7; have D8 := E.cell B8; have D9 := E.cell B9; have D10 := E.cell B10; clear hE) | (go_at_call 12; refine (hcp _ E).mono ?_; clear hcp; rintro e u7 ⟨r, rfl, ⟨rn, rfl, hown1⟩, hE⟩; replace E := Ext.trans E hE; obtain ⟨nA, nc, rfl, _⟩ := RdS.of_owns hown1; have D0 := E.cell B0; have D1 := E.cell B1; have D2 := E.cell B2; have D3 := E.cell B3; have D4 := E.cell B4; have D5 := E.cell B5; have D6 := E.cell B6; have D7 := E.cell B7; have D8 := E.cell B8; have D9 := E.cell B9; have D10 := E.cell B10; clear hE) | (go_at_call 12; refine (hcf _ E).mono ?_; clear hcf; rintro e u8 ⟨r, rfl, ⟨rt, rfl, hown2⟩, hE⟩; replace E := Ext.trans E hE; replace hown1 := owns_ext hE hown1; obtain ⟨zA, zc, rfl, _⟩ := RdS.of_owns hown2; have D0 := E.cell B0; have D1 := E.cell B1; have D2 := E.cell B2; have D3 := E.cell B3; have D4 := E.cell B4; have D5 := E.cell B5; have D6 := E.cell B6; have D7 := E.cell B7; have D8 := E.cell B8; have D9 := E.cell B9; have D10 := E.cell B10; clear hE) | (go_at_call 36; refine (parentR_any N _ _ (RdS.of_owns hown1) HN1.out).mono ?_; rintro e u9 ⟨r, rfl, ⟨A9, c9, he9, rfl⟩, hE⟩; replace E := Ext.trans E hE; simp only [Value.slice.injEq, true_and] at he9; obtain ⟨e91, e92⟩ := he9; subst e91 e92; rw [HN2.out]; replace hown1 := owns_ext hE hown1; replace hown2 := owns_ext hE hown2; have D0 := E.cell B0; have D1 := E.cell B1; have D2 := E.cell B2; have D3 := E.cell B3; have D4 := E.cell B4; have D5 := E.cell B5; have D6 := E.cell B6; have D7 := E.cell B7; have D8 := E.cell B8; have D9 := E.cell B9; have D10 := E.cell B10; clear hE HN1 HN2) | (go_at_call 37; refine (hc37 _ E).mono ?_; clear hc37; rintro e u10 ⟨r, rfl, rfl, hE⟩; replace E := Ext.trans E hE; replace hown1 := owns_ext hE hown1; replace hown2 := owns_ext hE hown2; have hbu := hb2.ext E; have Y0 := hbu.frozen 0; have X0 := hbu.cell 0; have Y1 := hbu.frozen 1; have X1 := hbu.cell 1; have Y2 := hbu.frozen 2; have X2 := hbu.cell 2; have Y3 := hbu.frozen 3; have X3 := hbu.cell 3; have Y4 := hbu.frozen 4; have X4 := hbu.cell 4; have Y5 := hbu.frozen 5; have X5 := hbu.cell 5; have Y6 := hbu.frozen 6; have X6 := hbu.cell 6; have Y7 := hbu.frozen 7; have X7 := hbu.cell 7; have Y8 := hbu.frozen 8; have X8 := hbu.cell 8; have Y9 := hbu.frozen 9; have X9 := hbu.cell 9; have Y10 := hbu.frozen 10; have X10 := hbu.cell 10; have D0 := E.cell B0; have D1 := E.cell B1; have D2 := E.cell B2; have D3 := E.cell B3; have D4 := E.cell B4; have D5 := E.cell B5; have D6 := E.cell B6; have D7 := E.cell B7; have D8 := E.cell B8; have D9 := E.cell B9; have D10 := E.cell B10; clear hE))
    have l2 := hb2.lt
    refine bodyPost_ret (results_cell_row rfl _ _ (w.heap.size + 1) 26 _ _ _ rfl (NBox.set11 hbu _ _ _ _ _ _ _ _ _ _ _) Try.underlying26 rfl info26) rfl ?_
    exact ⟨_, rfl, ⟨nA, nc, zA, zc, by rw [HF.out, g1]; rfl, owns_mono (owns_set11 hown1 l2 _ _ _ _ _ _ _ _ _ _ _) (Nat.zero_le _), owns_mono (owns_set11 hown2 l2 _ _ _ _ _ _ _ _ _ _ _) (Nat.zero_le _)⟩, Ext.set11 (hE1.trans E) (by omega) _ _ _ _ _ _ _ _ _ _ _⟩

theorem undoR_any (o : OpD) (v : Value) (w : World) (h : o.rd w v) (hl : o.path.length ≤ 1000) (htl' : o.to.length ≤ 1000) : Calls Try.prog 17 #[v] w (Ret w fun r w' => RdU w' o.sh r) := by
  by_cases hk : o.kind = 3
  · cases hm : o.sh.moves with
    | false => exact undoR_idle o v w h hk hm
    | true => exact undoR_move o v w h hk hm hl htl'
  · exact undoR_other o v w h hk
end Go.Proofs.Ytdnjkffmgmbfmaa.Bs
