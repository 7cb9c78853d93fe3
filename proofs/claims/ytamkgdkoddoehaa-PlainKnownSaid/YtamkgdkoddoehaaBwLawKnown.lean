/- Lemmas and walks for the claims of chapter 06: LawKnown. No conditions beside those that stand in each lemma. -/
import Derived.Test.YtamkgdkoddoehaaBwPaths
import Derived.Test.YtamkgdkoddoehaaBwKnown
import Derived.Test.YtamkgdkoddoehaaBwLawAt
import Derived.Test.YtamkgdkoddoehaaBwLawPut
import Derived.Test.YtamkgdkoddoehaaBwLawSame
import Derived.Test.YtamkgdkoddoehaaBwLawRight
import Derived.Test.YtamkgdkoddoehaaBwLawSizes
import Derived.Test.YtamkgdkoddoehaaBwLawAttr
import Derived.Deep.OwnRows
import Derived.Laws.IdiomStrings
import Derived.Deep.LoopGhost
import Derived.Deep.CutRange
import Derived.Deep.CutBlock
namespace Go.Proofs.Ytamkgdkoddoehaa.Bw
open Go.RowKit

theorem okP.lit (B : Nat) (w : World) (ty : TypeId) (l : List Int) (hl : l.length ≤ 1000) (cs : Array Value) (hcs : cs = (l.map (Value.int .i64)).toArray) (row : Option Nat) (hB : B ≤ w.heap.size) (hr : ∀ k, row = some k → k < w.heap.size) :
    okP B 1000 (w.alloc (.cells cs ty)) row (.slice (some ⟨w.heap.size, 0, none⟩) l.length l.length) :=
  ⟨l, hl, ⟨RdS.lits w ty l hl cs hcs, fun _ => ⟨w.heap.size, rfl, fun h => by have := hr _ h; omega⟩⟩, fun _ b hb => by cases hb; exact hB⟩

theorem at_wt : ∀ (p : List Int) (t z : Nd), t.at? p = some z → z.wt ≤ t.wt
  | [], t, z, h => by rw [at_nil] at h; cases h; exact Nat.le_refl _
  | i :: p, t, z, h => by
    obtain ⟨m, k, _, hk, hz⟩ := at_split h
    exact Nat.le_trans (at_wt p k z hz) (Nat.le_of_lt (Nd.wt_kid hk))
theorem at_wt600 (p : List Int) : ((gR.at? p).getD Nd.zero).wt ≤ 600 := by
  cases h : gR.at? p with
  | none => simp [Nd.zero, Nd.wt, wtA, wtK, ByteArray.size]
  | some z => exact Nat.le_trans (at_wt p gR z h) gR_wt
theorem make_bytes (n : Nat) (hn : n ≤ 1000) (W : World) : (Instr.makeSlice 46 (.int .i64 (n : Int)) (.int .i64 (n : Int))).run Try.prog W = .ok (.slice (some ⟨W.heap.size, 0, none⟩) n n) (W.alloc (.cells (madeCells #[.int .u8 0] n) 5)) :=
  run_make_row' (P := Try.prog) 46 5 (.int .u8 0) 1 Try.underlying46 (by kernel_rfl) rfl .i64 .i64 n (by omega) (by omega) W
theorem made_string (W : World) (n : Nat) : ∃ s : ByteArray, s.size = n ∧ (convert 46 9 (.slice (some ⟨W.heap.size, 0, none⟩) n n)).run Try.prog (W.alloc (.cells (madeCells #[.int .u8 0] n) 5)) = .ok (.string s) (W.alloc (.cells (madeCells #[.int .u8 0] n) 5)) := by
  refine ⟨⟨(List.replicate n 0).toArray⟩, by simp [ByteArray.size], ?_⟩
  have h := run_convert_bytes_back (P := Try.prog) (W.alloc (.cells (madeCells #[.int .u8 0] n) 5)) 46 9 5 ⟨W.heap.size, 0, none⟩ n (List.replicate n 0) Try.underlying46 Try.underlying5 Try.underlying9 (fun j hj => by
    have hb := World.alloc_heap_new W (.cells (madeCells #[.int .u8 0] n) 5)
    simp only [List.length_replicate] at hj
    rw [Addr.add_lit, Nat.zero_add]
    simp only [World.cell?, hb]
    simp [madeCells, hj, Nat.mod_one])
  rw [List.length_replicate] at h
  exact h

set_option maxRecDepth 100000 in
set_option maxHeartbeats 8000000 in
theorem lawKnown (w : World) : Calls Try.prog 9 #[] w (Ret w fun r _ => r = .bool true) := by
  go_enter Try.func9, Try.ntmps9
  go_wp2_with fail
  refine (grove_any w).mono ?_
  rintro e wz ⟨r, rfl, hg, hE0⟩
  have hg0 := hg
  obtain ⟨av, kv, rfl, _, _, _, _, ⟨gA, gc, rfl, _⟩, ⟨gK, gd, rfl, _⟩⟩ := Nd.rd_open hg0
  clear hg0
  obtain ⟨w0, hw0⟩ : ∃ W, wz.alloc (.cells #[.int .u64 gR.id, .bool gR.leaf, .string gR.label, .slice gA gR.attrs.length gc, .string gR.text, .slice gK gR.kids.length gd] 26) = W := ⟨_, rfl⟩
  have hEg : Ext wz w0 := by rw [← hw0]; exact (Ext.refl _).alloc _
  have hbg : NBox w0 wz.heap.size 26 #[.int .u64 gR.id, .bool gR.leaf, .string gR.label, .slice gA gR.attrs.length gc, .string gR.text, .slice gK gR.kids.length gd] := by rw [← hw0]; exact NBox.new _ _ _
  replace hg := Nd.rd_ext hEg hg
  have HE := hE0.trans hEg
  have H0 := Lib.hid hw0
  clear hw0 hE0 hEg
  obtain ⟨g0, g1, g2, g3, g4, g5⟩ := NBox.six hbg
  go_wp2_with (rw [H0.out]; clear H0)
  refine (paths_any gR.cnt gR _ w0 (Nat.le_refl _) hg (by rw [gR_cnt]; omega)).mono ?_
  rintro e w1 ⟨r, rfl, ⟨xs, hown, hok⟩, hE1⟩
  rw [gR_cnt] at hown hok
  obtain ⟨pg, pc, rfl, hp1, hp2⟩ := World.ownsRow.form hown (by omega)
  obtain ⟨a0, ha0⟩ : ∃ W, w1.alloc (.cells #[.int .i64 3] 3) = W := ⟨_, rfl⟩
  have hs0 : a0.heap.size = w1.heap.size + 1 := by rw [← ha0, World.size_alloc]
  have e0 : Ext w1 a0 := by rw [← ha0]; exact (Ext.refl _).alloc _
  have l0 : okP 0 1000 a0 (some pg) (.slice (some ⟨w1.heap.size, 0, none⟩) 1 1) := by rw [← ha0]; exact okP.lit 0 w1 3 [3] (by simp) _ rfl (some pg) (Nat.zero_le _) (fun k hk => by cases hk; omega)
  obtain ⟨a1, ha1⟩ : ∃ W, a0.alloc (.cells #[.int .i64 (-1)] 3) = W := ⟨_, rfl⟩
  have hs1 : a1.heap.size = w1.heap.size + 1 + 1 := by rw [← ha1, World.size_alloc, hs0]
  have e1 : Ext a0 a1 := by rw [← ha1]; exact (Ext.refl _).alloc _
  have l1 : okP 0 1000 a1 (some pg) (.slice (some ⟨w1.heap.size + 1, 0, none⟩) 1 1) := by rw [← ha1, ← hs0]; exact okP.lit 0 a0 3 [(-1)] (by simp) _ rfl (some pg) (Nat.zero_le _) (fun k hk => by cases hk; omega)
  replace l0 := l0.ext e1
  obtain ⟨a2, ha2⟩ : ∃ W, a1.alloc (.cells #[.int .i64 0, .int .i64 0, .int .i64 0] 3) = W := ⟨_, rfl⟩
  have hs2 : a2.heap.size = w1.heap.size + 1 + 1 + 1 := by rw [← ha2, World.size_alloc, hs1]
  have e2 : Ext a1 a2 := by rw [← ha2]; exact (Ext.refl _).alloc _
  have l2 : okP 0 1000 a2 (some pg) (.slice (some ⟨w1.heap.size + 1 + 1, 0, none⟩) 3 3) := by rw [← ha2, ← hs1]; exact okP.lit 0 a1 3 [0, 0, 0] (by simp) _ rfl (some pg) (Nat.zero_le _) (fun k hk => by cases hk; omega)
  replace l0 := l0.ext e2
  replace l1 := l1.ext e2
  obtain ⟨a3, ha3⟩ : ∃ W, a2.alloc (.cells #[.int .i64 2, .int .i64 0, .int .i64 0, .int .i64 0] 3) = W := ⟨_, rfl⟩
  have hs3 : a3.heap.size = w1.heap.size + 1 + 1 + 1 + 1 := by rw [← ha3, World.size_alloc, hs2]
  have e3 : Ext a2 a3 := by rw [← ha3]; exact (Ext.refl _).alloc _
  have l3 : okP 0 1000 a3 (some pg) (.slice (some ⟨w1.heap.size + 1 + 1 + 1, 0, none⟩) 4 4) := by rw [← ha3, ← hs2]; exact okP.lit 0 a2 3 [2, 0, 0, 0] (by simp) _ rfl (some pg) (Nat.zero_le _) (fun k hk => by cases hk; omega)
  replace l0 := l0.ext e3
  replace l1 := l1.ext e3
  replace l2 := l2.ext e3
  obtain ⟨a4, ha4⟩ : ∃ W, a3.alloc (.cells #[.int .i64 4611686018427387904] 3) = W := ⟨_, rfl⟩
  have hs4 : a4.heap.size = w1.heap.size + 1 + 1 + 1 + 1 + 1 := by rw [← ha4, World.size_alloc, hs3]
  have e4 : Ext a3 a4 := by rw [← ha4]; exact (Ext.refl _).alloc _
  have l4 : okP 0 1000 a4 (some pg) (.slice (some ⟨w1.heap.size + 1 + 1 + 1 + 1, 0, none⟩) 1 1) := by rw [← ha4, ← hs3]; exact okP.lit 0 a3 3 [4611686018427387904] (by simp) _ rfl (some pg) (Nat.zero_le _) (fun k hk => by cases hk; omega)
  replace l0 := l0.ext e4
  replace l1 := l1.ext e4
  replace l2 := l2.ext e4
  replace l3 := l3.ext e4
  obtain ⟨a5, ha5⟩ : ∃ W, a4.alloc (.cells #[.slice (some ⟨w1.heap.size, 0, none⟩) 1 1, .slice (some ⟨w1.heap.size + 1, 0, none⟩) 1 1, .slice (some ⟨w1.heap.size + 1 + 1, 0, none⟩) 3 3, .slice (some ⟨w1.heap.size + 1 + 1 + 1, 0, none⟩) 4 4, .slice (some ⟨w1.heap.size + 1 + 1 + 1 + 1, 0, none⟩) 1 1] 37) = W := ⟨_, rfl⟩
  have e5 : Ext a4 a5 := by rw [← ha5]; exact (Ext.refl _).alloc _
  have hE5 : Ext w1 a5 := ((((e0.trans e1).trans e2).trans e3).trans e4).trans e5
  replace l0 := l0.ext e5; replace l1 := l1.ext e5; replace l2 := l2.ext e5; replace l3 := l3.ext e5; replace l4 := l4.ext e5
  have hR5 : RdS a5 1 5 [.slice (some ⟨w1.heap.size, 0, none⟩) 1 1, .slice (some ⟨w1.heap.size + 1, 0, none⟩) 1 1, .slice (some ⟨w1.heap.size + 1 + 1, 0, none⟩) 3 3, .slice (some ⟨w1.heap.size + 1 + 1 + 1, 0, none⟩) 4 4, .slice (some ⟨w1.heap.size + 1 + 1 + 1 + 1, 0, none⟩) 1 1] (.slice (some ⟨w1.heap.size + 1 + 1 + 1 + 1 + 1, 0, none⟩) 5 5) := by
    rw [← ha5, ← hs4]
    refine ⟨_, _, rfl, rfl, Nat.le_refl _, by simp [maxLen], fun _ => ⟨_, 0, rfl, fun j u hu => ?_⟩⟩
    have hb := World.alloc_heap_new a4 (.cells #[.slice (some ⟨w1.heap.size, 0, none⟩) 1 1, .slice (some ⟨w1.heap.size + 1, 0, none⟩) 1 1, .slice (some ⟨w1.heap.size + 1 + 1, 0, none⟩) 3 3, .slice (some ⟨w1.heap.size + 1 + 1 + 1, 0, none⟩) 4 4, .slice (some ⟨w1.heap.size + 1 + 1 + 1 + 1, 0, none⟩) 1 1] 37)
    rw [Nat.zero_add]
    simp only [World.cell?, hb]
    simpa using hu
  have hone5 : ∀ u ∈ ([.slice (some ⟨w1.heap.size, 0, none⟩) 1 1, .slice (some ⟨w1.heap.size + 1, 0, none⟩) 1 1, .slice (some ⟨w1.heap.size + 1 + 1, 0, none⟩) 3 3, .slice (some ⟨w1.heap.size + 1 + 1 + 1, 0, none⟩) 4 4, .slice (some ⟨w1.heap.size + 1 + 1 + 1 + 1, 0, none⟩) 1 1] : List Value), u.oneCell' = true := by
    intro u hu
    simp only [List.mem_cons, List.not_mem_nil, or_false] at hu
    rcases hu with rfl | rfl | rfl | rfl | rfl <;> rfl
  have H5 : Hid ((((((w1.alloc (.cells #[.int .i64 3] 3)).alloc (.cells #[.int .i64 (-1)] 3)).alloc (.cells #[.int .i64 0, .int .i64 0, .int .i64 0] 3)).alloc (.cells #[.int .i64 2, .int .i64 0, .int .i64 0, .int .i64 0] 3)).alloc (.cells #[.int .i64 4611686018427387904] 3)).alloc (.cells #[.slice (some ⟨w1.heap.size, 0, none⟩) 1 1, .slice (some ⟨w1.heap.size + 1, 0, none⟩) 1 1, .slice (some ⟨w1.heap.size + 1 + 1, 0, none⟩) 3 3, .slice (some ⟨w1.heap.size + 1 + 1 + 1, 0, none⟩) 4 4, .slice (some ⟨w1.heap.size + 1 + 1 + 1 + 1, 0, none⟩) 1 1] 37) = a5) := by rw [ha0, ha1, ha2, ha3, ha4, ha5]; trivial
  clear ha0 ha1 ha2 ha3 ha4 ha5 hs0 hs1 hs2 hs3 hs4 e0 e1 e2 e3 e4 e5
  go_wp2_with (rw [H5.out]; clear H5; at_builtin; refine wpList_append_rd rfl rfl T44 (v := _) (by rfl) (owns_ext hE5 hown) (by rfl) hR5 hone5 (by omega) (by simp only [maxLen]; omega) (hE1.trans hE5).size ?_; intro v2 w2 hown2 hg2 hat2; obtain ⟨qg, qc, rfl, hq1, hq2⟩ := World.ownsRow.form hown2 (by omega))
  have HQ : Hid (∀ u ∈ xs ++ [.slice (some ⟨w1.heap.size, 0, none⟩) 1 1, .slice (some ⟨w1.heap.size + 1, 0, none⟩) 1 1, .slice (some ⟨w1.heap.size + 1 + 1, 0, none⟩) 3 3, .slice (some ⟨w1.heap.size + 1 + 1 + 1, 0, none⟩) 4 4, .slice (some ⟨w1.heap.size + 1 + 1 + 1 + 1, 0, none⟩) 1 1], ∃ p : List Int, RdS w2 1 p.length (p.map (Value.int .i64)) u) := by
    intro u hu
    have hk : okP 0 1000 a5 (some pg) u := by
      rcases List.mem_append.1 hu with hu | hu
      · exact ((hok u hu).ext hE5).weaken (Nat.zero_le _) (by omega)
      · simp only [List.mem_cons, List.not_mem_nil, or_false] at hu
        rcases hu with rfl | rfl | rfl | rfl | rfl
        · exact l0
        · exact l1
        · exact l2
        · exact l3
        · exact l4
    obtain ⟨p, _, h2, _⟩ := hk.grown hg2 hat2
    exact ⟨p, h2.1⟩
  have hE2 : Ext w0 w2 := Ext.grown (hE1.trans hE5) hg2 (fun k hk => by cases hk; exact hp1)
  obtain ⟨qs, hqs⟩ : ∃ l, xs ++ [.slice (some ⟨w1.heap.size, 0, none⟩) 1 1, .slice (some ⟨w1.heap.size + 1, 0, none⟩) 1 1, .slice (some ⟨w1.heap.size + 1 + 1, 0, none⟩) 3 3, .slice (some ⟨w1.heap.size + 1 + 1 + 1, 0, none⟩) 4 4, .slice (some ⟨w1.heap.size + 1 + 1 + 1 + 1, 0, none⟩) 1 1] = l := ⟨_, rfl⟩
  rw [hqs] at HQ hown2
  have hR2 := RdS.of_owns hown2
  replace hg := Nd.rd_ext hE2 hg
  replace hbg := hbg.ext hE2
  replace HE := HE.trans hE2
  clear hqs hok hown l0 l1 l2 l3 l4 hE5 hE1 hE2 hg2 hat2 hp1 hp2 hq1 hq2 hown2 g0 g1 g2 g3 g4 g5
  have hmk65 : ∀ W, (Instr.makeSlice 46 (.int .i64 65) (.int .i64 65)).run Try.prog W = .ok (.slice (some ⟨W.heap.size, 0, none⟩) 65 65) (W.alloc (.cells (madeCells #[.int .u8 0] 65) 5)) := fun W => make_bytes 65 (by omega) W
  have hmk257 : ∀ W, (Instr.makeSlice 46 (.int .i64 257) (.int .i64 257)).run Try.prog W = .ok (.slice (some ⟨W.heap.size, 0, none⟩) 257 257) (W.alloc (.cells (madeCells #[.int .u8 0] 257) 5)) := fun W => make_bytes 257 (by omega) W
  obtain ⟨s65, hs65, hcv65⟩ := made_string w2 65
  obtain ⟨s257, hs257, hcv257⟩ := made_string (w2.alloc (.cells (madeCells #[.int .u8 0] 65) 5)) 257
  rw [World.size_alloc] at hcv257
  have Hs65 := Lib.hid hs65
  have Hs257 := Lib.hid hs257
  clear hs65 hs257
  rw [hmk65]
  go_wp2_with (first | (rw [hcv65]) | (rw [hmk257]) | (rw [hcv257]))
  obtain ⟨w3, hw3⟩ : ∃ W, (w2.alloc (.cells (madeCells #[.int .u8 0] 65) 5)).alloc (.cells (madeCells #[.int .u8 0] 257) 5) = W := ⟨_, rfl⟩
  have hE3 : Ext w2 w3 := by rw [← hw3]; exact ((Ext.refl _).alloc _).alloc _
  rw [hw3]
  clear hw3 hmk65 hmk257 hcv65 hcv257
  replace hg := Nd.rd_ext hE3 hg
  replace hbg := hbg.ext hE3
  replace HE := HE.trans hE3
  replace hR2 := hR2.ext hE3
  have HQ3 : Hid (∀ u ∈ qs, ∃ p : List Int, RdS w3 1 p.length (p.map (Value.int .i64)) u) := fun u hu => by
    obtain ⟨p, hp⟩ := HQ.out u hu
    exact ⟨p, hp.ext hE3⟩
  have HR := Lib.hid hR2
  clear HQ hE3 hR2
  go_loopg [5] 13 (fun gk s5 wr => ∃ i : Nat, s5 = .int .i64 i ∧ i + gk = 13 ∧ Ext w3 wr)
  case atStart => exact ⟨0, rfl, rfl, Ext.refl _⟩
  case round =>
    obtain ⟨i, rfl, hi, hE⟩ := hrel
    rcases Nat.lt_or_ge i 13 with hlt | hlt
    · obtain ⟨u, hu⟩ : ∃ u, qs[i]? = some u := ⟨_, List.getElem?_eq_getElem (by have := HR.out; obtain ⟨_, _, _, h, _⟩ := this; omega)⟩
      obtain ⟨p, hp⟩ := HQ3.out u (List.mem_of_getElem? hu)
      obtain ⟨pA, pcap, rfl, _⟩ := id hp
      have cu : wr.cell? ⟨qg, i, none⟩ = some (.slice pA p.length pcap) := by
        obtain ⟨_, _, he, _, _, _, h5⟩ := HR.out
        obtain ⟨b', o', h6, h7⟩ := h5 (by omega)
        simp only [Value.slice.injEq, true_and] at he
        obtain ⟨rfl, rfl⟩ := he
        simp only [Option.some.injEq, Addr.mk.injEq, and_true] at h6
        obtain ⟨rfl, rfl⟩ := h6
        have := h7 i _ hu
        rw [Nat.zero_add] at this
        exact hE.cell this
      replace hp := hp.ext hE
      have hgr := Nd.rd_ext hE hg
      have hbr := hbg.ext hE
      have HEr := HE.trans hE
      obtain ⟨g0, g1, g2, g3, g4, g5⟩ := NBox.six hbr
      have kAt : ∀ W, Ext wr W → Calls Try.prog 6 #[.agg #[.int .u64 gR.id, .bool gR.leaf, .string gR.label, .slice gA gR.attrs.length gc, .string gR.text, .slice gK gR.kids.length gd], .slice pA p.length pcap, .agg #[.int .u64 gR.id, .bool gR.leaf, .string gR.label, .slice gA gR.attrs.length gc, .string gR.text, .slice gK gR.kids.length gd]] W (Ret W fun r _ => r = .bool true) := fun W h => lawAt gR gR _ _ p _ W (Nd.rd_ext h hgr) (Nd.rd_ext h hgr) (hp.ext h)
      have kPut : ∀ W, Ext wr W → Calls Try.prog 8 #[.agg #[.int .u64 gR.id, .bool gR.leaf, .string gR.label, .slice gA gR.attrs.length gc, .string gR.text, .slice gK gR.kids.length gd], .slice pA p.length pcap, .agg #[.int .u64 9, .bool true, .string ⟨#[]⟩, .slice none 0 0, .string ⟨#[]⟩, .slice none 0 0]] W (Ret W fun r _ => r = .bool true) := fun W h => lawPut gR (.mk 9 true ⟨#[]⟩ [] ⟨#[]⟩ []) _ _ p _ W (Nd.rd_ext h hgr) (leaf_rd W 9 true ⟨#[]⟩ ⟨#[]⟩ (by omega) (by omega) (Nat.zero_le _) (Nat.zero_le _)) (hp.ext h)
      have q2 : (i : Int) < 13 := by omega
      clear hu
      go_wp2_with fail
      refine wp_region_held_drew (S := (fun W => Ext wr W ∧ W.cell? ⟨qg, i, none⟩ = some (.slice pA p.length pcap) ∧ W.cell? ⟨wz.heap.size, 0, none⟩ = some (.int .u64 gR.id) ∧ W.cell? ⟨wz.heap.size, 1, none⟩ = some (.bool gR.leaf) ∧ W.cell? ⟨wz.heap.size, 2, none⟩ = some (.string gR.label) ∧ W.cell? ⟨wz.heap.size, 3, none⟩ = some (.slice gA gR.attrs.length gc) ∧ W.cell? ⟨wz.heap.size, 4, none⟩ = some (.string gR.text) ∧ W.cell? ⟨wz.heap.size, 5, none⟩ = some (.slice gK gR.kids.length gd))) (by kernel_rfl) ⟨(Ext.refl wr).drew, cu, hbr.cell 0, hbr.cell 1, hbr.cell 2, hbr.cell 3, hbr.cell 4, hbr.cell 5⟩ (fun hHeld => ?_)
      refine wpAnyH_take (i := 0) (oi := ⟨_, _, _, _, _, _⟩) (v := ?_) rfl (by as_aux_lemma => kernel_rfl) (by as_aux_lemma => kernel_rfl) (by as_aux_lemma => kernel_rfl) (fun _ _ _ h => h) (Or.inl ⟨by rfl, ?_⟩) hHeld ?_
      rotate_left
      · intro w hSw
        try dsimp only at hSw
        go_simp
        all_goals (first | with_reducible rfl | rw [if_pos (by omega)])
      try simp only [Act.put, List.setIfInBounds_toArray, List.set_cons_zero, List.set_cons_succ]
      refine wpAnyH_take (i := 1) (oi := ⟨_, _, _, _, _, _⟩) (v := ?_) rfl (by as_aux_lemma => kernel_rfl) (by as_aux_lemma => kernel_rfl) (by as_aux_lemma => kernel_rfl) (fun _ _ _ h => h) (Or.inl ⟨by rfl, ?_⟩) hHeld ?_
      rotate_left
      · intro w hSw
        try dsimp only at hSw
        go_simp
        all_goals (first | with_reducible rfl | rw [if_pos (by omega)])
      try simp only [Act.put, List.setIfInBounds_toArray, List.set_cons_zero, List.set_cons_succ]
      refine wpAnyH_take (i := 2) (oi := ⟨_, _, _, _, _, _⟩) (v := ?_) rfl (by as_aux_lemma => kernel_rfl) (by as_aux_lemma => kernel_rfl) (by as_aux_lemma => kernel_rfl) (fun _ _ _ h => h) (Or.inl ⟨by rfl, ?_⟩) hHeld ?_
      rotate_left
      · intro w hSw
        try dsimp only at hSw
        go_simp
        all_goals (first | with_reducible rfl | rw [if_pos (by omega)])
      try simp only [Act.put, List.setIfInBounds_toArray, List.set_cons_zero, List.set_cons_succ]
      refine wpAnyH_take (i := 3) (oi := ⟨_, _, _, _, _, _⟩) (v := ?_) rfl (by as_aux_lemma => kernel_rfl) (by as_aux_lemma => kernel_rfl) (by as_aux_lemma => kernel_rfl) (fun _ _ _ h => h) (Or.inl ⟨by rfl, ?_⟩) hHeld ?_
      rotate_left
      · intro w hSw
        try dsimp only at hSw
        go_simp
        all_goals (first | with_reducible rfl | rw [if_pos (by omega)])
      try simp only [Act.put, List.setIfInBounds_toArray, List.set_cons_zero, List.set_cons_succ]
      refine wpAnyH_take (i := 4) (oi := ⟨_, _, _, _, _, _⟩) (v := ?_) rfl (by as_aux_lemma => kernel_rfl) (by as_aux_lemma => kernel_rfl) (by as_aux_lemma => kernel_rfl) (fun _ _ _ h => h) (Or.inl ⟨by rfl, ?_⟩) hHeld ?_
      rotate_left
      · intro w hSw
        try dsimp only at hSw
        go_simp
        all_goals (first | with_reducible rfl | rw [if_pos (by omega)])
      try simp only [Act.put, List.setIfInBounds_toArray, List.set_cons_zero, List.set_cons_succ]
      refine wpAnyH_take (i := 5) (oi := ⟨_, _, _, _, _, _⟩) (v := ?_) rfl (by as_aux_lemma => kernel_rfl) (by as_aux_lemma => kernel_rfl) (by as_aux_lemma => kernel_rfl) (fun _ _ _ h => h) (Or.inl ⟨by rfl, ?_⟩) hHeld ?_
      rotate_left
      · intro w hSw
        try dsimp only at hSw
        go_simp
        all_goals (first | with_reducible rfl | rw [if_pos (by omega)])
      try simp only [Act.put, List.setIfInBounds_toArray, List.set_cons_zero, List.set_cons_succ]
      refine wpAnyH_ready (rs := [6]) (by as_aux_lemma => kernel_rfl) (by simp) ?_
      refine AllReadyH.cons (o := ⟨_, _, _, _, _, _⟩) rfl (fun K' hK => ?_) (AllReadyH.nil)
      go_simp
      go_at_call 6
      refine (kAt _ hHeld.1).mono ?_
      rintro e u ⟨r, rfl, rfl, hE⟩
      have E2 := Ext.trans hHeld.1 hE
      clear hE hHeld
      refine hK.out _ _ ?_ (fun hHeld => ?_)
      · exact ⟨E2, E2.cell cu, E2.cell (hbr.cell 0), E2.cell (hbr.cell 1), E2.cell (hbr.cell 2), E2.cell (hbr.cell 3), E2.cell (hbr.cell 4), E2.cell (hbr.cell 5)⟩
      clear hK K'
      try simp only [Act.put, List.setIfInBounds_toArray, List.set_cons_zero, List.set_cons_succ]
      refine wpAnyH_take (i := 7) (oi := ⟨_, _, _, _, _, _⟩) (v := ?_) rfl (by as_aux_lemma => kernel_rfl) (by as_aux_lemma => kernel_rfl) (by as_aux_lemma => kernel_rfl) (fun _ _ _ h => h) (Or.inl ⟨by rfl, ?_⟩) hHeld ?_
      rotate_left
      · intro w hSw
        try dsimp only at hSw
        go_simp
        all_goals (first | with_reducible rfl | rw [if_pos (by omega)])
      try simp only [Act.put, List.setIfInBounds_toArray, List.set_cons_zero, List.set_cons_succ]
      refine wpAnyH_take (i := 8) (oi := ⟨_, _, _, _, _, _⟩) (v := ?_) rfl (by as_aux_lemma => kernel_rfl) (by as_aux_lemma => kernel_rfl) (by as_aux_lemma => kernel_rfl) (fun _ _ _ h => h) (Or.inl ⟨by rfl, ?_⟩) hHeld ?_
      rotate_left
      · intro w hSw
        try dsimp only at hSw
        go_simp
        all_goals (first | with_reducible rfl | rw [if_pos (by omega)])
      try simp only [Act.put, List.setIfInBounds_toArray, List.set_cons_zero, List.set_cons_succ]
      refine wpAnyH_take (i := 9) (oi := ⟨_, _, _, _, _, _⟩) (v := ?_) rfl (by as_aux_lemma => kernel_rfl) (by as_aux_lemma => kernel_rfl) (by as_aux_lemma => kernel_rfl) (fun _ _ _ h => h) (Or.inl ⟨by rfl, ?_⟩) hHeld ?_
      rotate_left
      · intro w hSw
        try dsimp only at hSw
        go_simp
        all_goals (first | with_reducible rfl | rw [if_pos (by omega)])
      try simp only [Act.put, List.setIfInBounds_toArray, List.set_cons_zero, List.set_cons_succ]
      refine wpAnyH_take (i := 10) (oi := ⟨_, _, _, _, _, _⟩) (v := ?_) rfl (by as_aux_lemma => kernel_rfl) (by as_aux_lemma => kernel_rfl) (by as_aux_lemma => kernel_rfl) (fun _ _ _ h => h) (Or.inl ⟨by rfl, ?_⟩) hHeld ?_
      rotate_left
      · intro w hSw
        try dsimp only at hSw
        go_simp
        all_goals (first | with_reducible rfl | rw [if_pos (by omega)])
      try simp only [Act.put, List.setIfInBounds_toArray, List.set_cons_zero, List.set_cons_succ]
      refine wpAnyH_take (i := 11) (oi := ⟨_, _, _, _, _, _⟩) (v := ?_) rfl (by as_aux_lemma => kernel_rfl) (by as_aux_lemma => kernel_rfl) (by as_aux_lemma => kernel_rfl) (fun _ _ _ h => h) (Or.inl ⟨by rfl, ?_⟩) hHeld ?_
      rotate_left
      · intro w hSw
        try dsimp only at hSw
        go_simp
        all_goals (first | with_reducible rfl | rw [if_pos (by omega)])
      try simp only [Act.put, List.setIfInBounds_toArray, List.set_cons_zero, List.set_cons_succ]
      refine wpAnyH_take (i := 12) (oi := ⟨_, _, _, _, _, _⟩) (v := ?_) rfl (by as_aux_lemma => kernel_rfl) (by as_aux_lemma => kernel_rfl) (by as_aux_lemma => kernel_rfl) (fun _ _ _ h => h) (Or.inl ⟨by rfl, ?_⟩) hHeld ?_
      rotate_left
      · intro w hSw
        try dsimp only at hSw
        go_simp
        all_goals (first | with_reducible rfl | rw [if_pos (by omega)])
      try simp only [Act.put, List.setIfInBounds_toArray, List.set_cons_zero, List.set_cons_succ]
      refine wpAnyH_take (i := 13) (oi := ⟨_, _, _, _, _, _⟩) (v := ?_) rfl (by as_aux_lemma => kernel_rfl) (by as_aux_lemma => kernel_rfl) (by as_aux_lemma => kernel_rfl) (fun _ _ _ h => h) (Or.inl ⟨by rfl, ?_⟩) hHeld ?_
      rotate_left
      · intro w hSw
        try dsimp only at hSw
        go_simp
        all_goals (first | with_reducible rfl | rw [if_pos (by omega)])
      try simp only [Act.put, List.setIfInBounds_toArray, List.set_cons_zero, List.set_cons_succ]
      refine wpAnyH_take (i := 14) (oi := ⟨_, _, _, _, _, _⟩) (v := ?_) rfl (by as_aux_lemma => kernel_rfl) (by as_aux_lemma => kernel_rfl) (by as_aux_lemma => kernel_rfl) (fun _ _ _ h => h) (Or.inl ⟨by rfl, ?_⟩) hHeld ?_
      rotate_left
      · intro w hSw
        try dsimp only at hSw
        go_simp
        all_goals (first | with_reducible rfl | rw [if_pos (by omega)])
      try simp only [Act.put, List.setIfInBounds_toArray, List.set_cons_zero, List.set_cons_succ]
      refine wpAnyH_ready (rs := [15]) (by as_aux_lemma => kernel_rfl) (by simp) ?_
      refine AllReadyH.cons (o := ⟨_, _, _, _, _, _⟩) rfl (fun K' hK => ?_) (AllReadyH.nil)
      go_simp
      go_at_call 8
      refine (kPut _ hHeld.1).mono ?_
      rintro e u ⟨r, rfl, rfl, hE⟩
      have E2 := Ext.trans hHeld.1 hE
      clear hE hHeld
      refine hK.out _ _ ?_ (fun hHeld => ?_)
      · exact ⟨E2, E2.cell cu, E2.cell (hbr.cell 0), E2.cell (hbr.cell 1), E2.cell (hbr.cell 2), E2.cell (hbr.cell 3), E2.cell (hbr.cell 4), E2.cell (hbr.cell 5)⟩
      clear hK K'
      try simp only [Act.put, List.setIfInBounds_toArray, List.set_cons_zero, List.set_cons_succ]
      refine wpAnyH_take (i := 16) (oi := ⟨_, _, _, _, _, _⟩) (v := ?_) rfl (by as_aux_lemma => kernel_rfl) (by as_aux_lemma => kernel_rfl) (by as_aux_lemma => kernel_rfl) (fun _ _ _ h => h) (Or.inl ⟨by rfl, ?_⟩) hHeld ?_
      rotate_left
      · intro w hSw
        try dsimp only at hSw
        go_simp
        all_goals (first | with_reducible rfl | rw [if_pos (by omega)])
      try simp only [Act.put, List.setIfInBounds_toArray, List.set_cons_zero, List.set_cons_succ]
      refine wpAnyH_take (i := 17) (oi := ⟨_, _, _, _, _, _⟩) (v := ?_) rfl (by as_aux_lemma => kernel_rfl) (by as_aux_lemma => kernel_rfl) (by as_aux_lemma => kernel_rfl) (fun _ _ _ h => h) (Or.inl ⟨by rfl, ?_⟩) hHeld ?_
      rotate_left
      · intro w hSw
        try dsimp only at hSw
        go_simp
        all_goals (first | with_reducible rfl | rw [if_pos (by omega)])
      try simp only [Act.put, List.setIfInBounds_toArray, List.set_cons_zero, List.set_cons_succ]
      refine wpAnyH_done (by kernel_rfl) ?_ _
      have hEq := hHeld.1
      clear hHeld kAt kPut g0 g1 g2 g3 g4 g5
      go_wp2_with fail
      obtain ⟨bb, hbb⟩ : ∃ bb, (gR.at? p).isSome = bb := ⟨_, rfl⟩
      obtain ⟨z, hz⟩ : ∃ z, (gR.at? p).getD Nd.zero = z := ⟨_, rfl⟩
      have hzw : z.wt ≤ 600 := by rw [← hz]; exact at_wt600 p
      have HZ := Lib.hid hz
      have HB := Lib.hid hbb
      clear hz hbb
      go_cut [6, 7] from 27 to 169 (fun s6 s7 wx => ∃ (B : Nat) (zA : Option Addr) (zc : Nat) (zK : Option Addr) (zd : Nat), s6 = .pointer (some ⟨B, 0, none⟩) ∧ s7 = .bool bb ∧ NBox wx B 26 #[.int .u64 z.id, .bool z.leaf, .string z.label, .slice zA z.attrs.length zc, .string z.text, .slice zK z.kids.length zd] ∧ z.rd w3 (.agg #[.int .u64 z.id, .bool z.leaf, .string z.label, .slice zA z.attrs.length zc, .string z.text, .slice zK z.kids.length zd]) ∧ Ext wr wx)
      case first =>
        refine wp_region_held_drew (S := (fun W => Ext wr W ∧ W.cell? ⟨qg, i, none⟩ = some (.slice pA p.length pcap) ∧ W.cell? ⟨wz.heap.size, 0, none⟩ = some (.int .u64 gR.id) ∧ W.cell? ⟨wz.heap.size, 1, none⟩ = some (.bool gR.leaf) ∧ W.cell? ⟨wz.heap.size, 2, none⟩ = some (.string gR.label) ∧ W.cell? ⟨wz.heap.size, 3, none⟩ = some (.slice gA gR.attrs.length gc) ∧ W.cell? ⟨wz.heap.size, 4, none⟩ = some (.string gR.text) ∧ W.cell? ⟨wz.heap.size, 5, none⟩ = some (.slice gK gR.kids.length gd))) (by kernel_rfl) ⟨hEq.drew, Ext.cell hEq.drew cu, Ext.cell hEq.drew (hbr.cell 0), Ext.cell hEq.drew (hbr.cell 1), Ext.cell hEq.drew (hbr.cell 2), Ext.cell hEq.drew (hbr.cell 3), Ext.cell hEq.drew (hbr.cell 4), Ext.cell hEq.drew (hbr.cell 5)⟩ (fun hHeld => ?_)
        refine wpAnyH_take (i := 0) (oi := ⟨_, _, _, _, _, _⟩) (v := ?_) rfl (by as_aux_lemma => kernel_rfl) (by as_aux_lemma => kernel_rfl) (by as_aux_lemma => kernel_rfl) (fun _ _ _ h => h) (Or.inl ⟨by rfl, ?_⟩) hHeld ?_
        rotate_left
        · intro w hSw
          try dsimp only at hSw
          go_simp
          all_goals (first | with_reducible rfl | rw [if_pos (by omega)])
        try simp only [Act.put, List.setIfInBounds_toArray, List.set_cons_zero, List.set_cons_succ]
        refine wpAnyH_take (i := 1) (oi := ⟨_, _, _, _, _, _⟩) (v := ?_) rfl (by as_aux_lemma => kernel_rfl) (by as_aux_lemma => kernel_rfl) (by as_aux_lemma => kernel_rfl) (fun _ _ _ h => h) (Or.inl ⟨by rfl, ?_⟩) hHeld ?_
        rotate_left
        · intro w hSw
          try dsimp only at hSw
          go_simp
          all_goals (first | with_reducible rfl | rw [if_pos (by omega)])
        try simp only [Act.put, List.setIfInBounds_toArray, List.set_cons_zero, List.set_cons_succ]
        refine wpAnyH_take (i := 2) (oi := ⟨_, _, _, _, _, _⟩) (v := ?_) rfl (by as_aux_lemma => kernel_rfl) (by as_aux_lemma => kernel_rfl) (by as_aux_lemma => kernel_rfl) (fun _ _ _ h => h) (Or.inl ⟨by rfl, ?_⟩) hHeld ?_
        rotate_left
        · intro w hSw
          try dsimp only at hSw
          go_simp
          all_goals (first | with_reducible rfl | rw [if_pos (by omega)])
        try simp only [Act.put, List.setIfInBounds_toArray, List.set_cons_zero, List.set_cons_succ]
        refine wpAnyH_take (i := 3) (oi := ⟨_, _, _, _, _, _⟩) (v := ?_) rfl (by as_aux_lemma => kernel_rfl) (by as_aux_lemma => kernel_rfl) (by as_aux_lemma => kernel_rfl) (fun _ _ _ h => h) (Or.inl ⟨by rfl, ?_⟩) hHeld ?_
        rotate_left
        · intro w hSw
          try dsimp only at hSw
          go_simp
          all_goals (first | with_reducible rfl | rw [if_pos (by omega)])
        try simp only [Act.put, List.setIfInBounds_toArray, List.set_cons_zero, List.set_cons_succ]
        refine wpAnyH_take (i := 4) (oi := ⟨_, _, _, _, _, _⟩) (v := ?_) rfl (by as_aux_lemma => kernel_rfl) (by as_aux_lemma => kernel_rfl) (by as_aux_lemma => kernel_rfl) (fun _ _ _ h => h) (Or.inl ⟨by rfl, ?_⟩) hHeld ?_
        rotate_left
        · intro w hSw
          try dsimp only at hSw
          go_simp
          all_goals (first | with_reducible rfl | rw [if_pos (by omega)])
        try simp only [Act.put, List.setIfInBounds_toArray, List.set_cons_zero, List.set_cons_succ]
        refine wpAnyH_ready (rs := [5, 9]) (by as_aux_lemma => kernel_rfl) (by simp) ?_
        refine AllReadyH.cons (o := ⟨_, _, _, _, _, _⟩) rfl (fun K' hK => ?_) (AllReadyH.cons (o := ⟨_, _, _, _, _, _⟩) rfl (fun K' hK => ?_) (AllReadyH.nil))
        · go_simp
          go_at_call 28
          refine (rat_old gR _ p _ w3 _ (hE.trans hHeld.1) hg (hp.ext hHeld.1)).mono ?_
          rintro e w5 ⟨r, rfl, hr5, hE5⟩
          obtain ⟨zA, zc, zK, zd, rfl, hz5⟩ := hr5.open HZ.out HB.out
          have E2 := Ext.trans hHeld.1 hE5
          have H5 := Lib.hid hE5
          refine hK.out _ _ ⟨E2, Ext.cell E2 cu, Ext.cell E2 (hbr.cell 0), Ext.cell E2 (hbr.cell 1), Ext.cell E2 (hbr.cell 2), Ext.cell E2 (hbr.cell 3), Ext.cell E2 (hbr.cell 4), Ext.cell E2 (hbr.cell 5)⟩ (fun hHeld => ?_)
          clear hK K' hE5
          try simp only [Act.put, List.setIfInBounds_toArray, List.set_cons_zero, List.set_cons_succ]
          refine wpAnyH_take (i := 6) (oi := ⟨_, _, _, _, _, _⟩) (v := ?_) rfl (by as_aux_lemma => kernel_rfl) (by as_aux_lemma => kernel_rfl) (by as_aux_lemma => kernel_rfl) (fun _ _ _ h => h) (Or.inl ⟨by rfl, ?_⟩) hHeld ?_
          rotate_left
          · intro w hSw
            try dsimp only at hSw
            go_simp
            all_goals (first | with_reducible rfl | rw [if_pos (by omega)])
          try simp only [Act.put, List.setIfInBounds_toArray, List.set_cons_zero, List.set_cons_succ]
          refine wpAnyH_take (i := 7) (oi := ⟨_, _, _, _, _, _⟩) (v := ?_) rfl (by as_aux_lemma => kernel_rfl) (by as_aux_lemma => kernel_rfl) (by as_aux_lemma => kernel_rfl) (fun _ _ _ h => h) (Or.inl ⟨by rfl, ?_⟩) hHeld ?_
          rotate_left
          · intro w hSw
            try dsimp only at hSw
            go_simp
            all_goals (first | with_reducible rfl | rw [if_pos (by omega)])
          try simp only [Act.put, List.setIfInBounds_toArray, List.set_cons_zero, List.set_cons_succ]
          refine wpAnyH_take (i := 8) (oi := ⟨_, _, _, _, _, _⟩) (v := ?_) rfl (by as_aux_lemma => kernel_rfl) (by as_aux_lemma => kernel_rfl) (by as_aux_lemma => kernel_rfl) (fun _ _ _ h => h) (Or.inl ⟨by rfl, ?_⟩) hHeld ?_
          rotate_left
          · intro w hSw
            try dsimp only at hSw
            go_simp
            all_goals (first | with_reducible rfl | rw [if_pos (by omega)])
          try simp only [Act.put, List.setIfInBounds_toArray, List.set_cons_zero, List.set_cons_succ]
          refine wpAnyH_ready (rs := [9]) (by as_aux_lemma => kernel_rfl) (by simp) ?_
          refine AllReadyH.cons (o := ⟨_, _, _, _, _, _⟩) rfl (fun K' hK => ?_) (AllReadyH.nil)
          go_simp
          have K5 := NBox.new w5 26 #[.int .u64 0, .bool false, .string ⟨#[]⟩, .slice none 0 0, .string ⟨#[]⟩, .slice none 0 0]
          have hE5a := (Ext.refl w5).alloc (.cells #[.int .u64 0, .bool false, .string ⟨#[]⟩, .slice none 0 0, .string ⟨#[]⟩, .slice none 0 0] 26)
          have E3 := Ext.trans hHeld.1 hE5a
          refine hK.out _ _ ⟨E3, Ext.cell E3 cu, Ext.cell E3 (hbr.cell 0), Ext.cell E3 (hbr.cell 1), Ext.cell E3 (hbr.cell 2), Ext.cell E3 (hbr.cell 3), Ext.cell E3 (hbr.cell 4), Ext.cell E3 (hbr.cell 5)⟩ (fun hHeld => ?_)
          clear hK K'
          try simp only [Act.put, List.setIfInBounds_toArray, List.set_cons_zero, List.set_cons_succ]
          obtain ⟨wa, hwa⟩ : ∃ wa, w5.alloc (.cells #[.int .u64 0, .bool false, .string ⟨#[]⟩, .slice none 0 0, .string ⟨#[]⟩, .slice none 0 0] 26) = wa := ⟨_, rfl⟩
          have hB : wr.heap.size ≤ w5.heap.size := E2.size
          rw [hwa] at K5 hHeld hE5a
          rw [hwa]
          clear hwa
          obtain ⟨c0, c1, c2, c3, c4, c5⟩ := NBox.six K5
          have cf0 := K5.frozen 0; have cf1 := K5.frozen 1; have cf2 := K5.frozen 2; have cf3 := K5.frozen 3; have cf4 := K5.frozen 4; have cf5 := K5.frozen 5
          refine wpAnyH_ready (rs := [10]) (by as_aux_lemma => kernel_rfl) (by simp) ?_
          refine AllReadyH.cons (o := ⟨_, _, _, _, _, _⟩) rfl (fun K' hK => ?_) (AllReadyH.nil)
          go_simp
          have K6 := K5.set6 (.int .u64 z.id) (.bool z.leaf) (.string z.label) (.slice zA z.attrs.length zc) (.string z.text) (.slice zK z.kids.length zd)
          have E6 := Ext.set6 hHeld.1 (B := w5.heap.size) hB (.int .u64 z.id) (.bool z.leaf) (.string z.label) (.slice zA z.attrs.length zc) (.string z.text) (.slice zK z.kids.length zd)
          refine hK.out _ _ ⟨E6, Ext.cell E6 cu, Ext.cell E6 (hbr.cell 0), Ext.cell E6 (hbr.cell 1), Ext.cell E6 (hbr.cell 2), Ext.cell E6 (hbr.cell 3), Ext.cell E6 (hbr.cell 4), Ext.cell E6 (hbr.cell 5)⟩ (fun hHeld => ?_)
          clear hK K'
          try simp only [Act.put, List.setIfInBounds_toArray, List.set_cons_zero, List.set_cons_succ]
          refine wpAnyH_take (i := 11) (oi := ⟨_, _, _, _, _, _⟩) (v := ?_) rfl (by as_aux_lemma => kernel_rfl) (by as_aux_lemma => kernel_rfl) (by as_aux_lemma => kernel_rfl) (fun _ _ _ h => h) (Or.inl ⟨by rfl, ?_⟩) hHeld ?_
          rotate_left
          · intro w hSw
            try dsimp only at hSw
            go_simp
            all_goals (first | with_reducible rfl | rw [if_pos (by omega)])
          try simp only [Act.put, List.setIfInBounds_toArray, List.set_cons_zero, List.set_cons_succ]
          obtain ⟨w6, hw6⟩ : ∃ w6, (((((wa.setCell ⟨w5.heap.size, 0, none⟩ (.int .u64 z.id)).setCell ⟨w5.heap.size, 1, none⟩ (.bool z.leaf)).setCell ⟨w5.heap.size, 2, none⟩ (.string z.label)).setCell ⟨w5.heap.size, 3, none⟩ (.slice zA z.attrs.length zc)).setCell ⟨w5.heap.size, 4, none⟩ (.string z.text)).setCell ⟨w5.heap.size, 5, none⟩ (.slice zK z.kids.length zd) = w6 := ⟨_, rfl⟩
          rw [hw6] at K6 E6
          rw [hw6]
          refine wpAnyH_done (by kernel_rfl) ?_ _
          clear hw6 c0 c1 c2 c3 c4 c5 cf0 cf1 cf2 cf3 cf4 cf5 hHeld
          go_wp2_with fail
          go_meet
          case rel => exact ⟨_, zA, zc, zK, zd, rfl, rfl, K6, hz5, E6⟩
        · go_simp
          have K5 : NBox (u.drew.alloc (.cells #[.int .u64 0, .bool false, .string ⟨#[]⟩, .slice none 0 0, .string ⟨#[]⟩, .slice none 0 0] 26)) u.heap.size 26 #[.int .u64 0, .bool false, .string ⟨#[]⟩, .slice none 0 0, .string ⟨#[]⟩, .slice none 0 0] := NBox.new u.drew 26 #[.int .u64 0, .bool false, .string ⟨#[]⟩, .slice none 0 0, .string ⟨#[]⟩, .slice none 0 0]
          have E3 : Ext wr (u.drew.alloc (.cells #[.int .u64 0, .bool false, .string ⟨#[]⟩, .slice none 0 0, .string ⟨#[]⟩, .slice none 0 0] 26)) := hEq.drew.alloc _
          refine hK.out _ _ ⟨E3, Ext.cell E3 cu, Ext.cell E3 (hbr.cell 0), Ext.cell E3 (hbr.cell 1), Ext.cell E3 (hbr.cell 2), Ext.cell E3 (hbr.cell 3), Ext.cell E3 (hbr.cell 4), Ext.cell E3 (hbr.cell 5)⟩ (fun hHeld => ?_)
          clear hK K'
          try simp only [Act.put, List.setIfInBounds_toArray, List.set_cons_zero, List.set_cons_succ]
          replace hHeld : (fun W => Ext wr W ∧ W.cell? ⟨qg, i, none⟩ = some (.slice pA p.length pcap) ∧ W.cell? ⟨wz.heap.size, 0, none⟩ = some (.int .u64 gR.id) ∧ W.cell? ⟨wz.heap.size, 1, none⟩ = some (.bool gR.leaf) ∧ W.cell? ⟨wz.heap.size, 2, none⟩ = some (.string gR.label) ∧ W.cell? ⟨wz.heap.size, 3, none⟩ = some (.slice gA gR.attrs.length gc) ∧ W.cell? ⟨wz.heap.size, 4, none⟩ = some (.string gR.text) ∧ W.cell? ⟨wz.heap.size, 5, none⟩ = some (.slice gK gR.kids.length gd)) (u.drew.alloc (.cells #[.int .u64 0, .bool false, .string ⟨#[]⟩, .slice none 0 0, .string ⟨#[]⟩, .slice none 0 0] 26)) := hHeld
          change wpAnyH _ _ _ _ _ _ _ _ (u.drew.alloc (.cells #[.int .u64 0, .bool false, .string ⟨#[]⟩, .slice none 0 0, .string ⟨#[]⟩, .slice none 0 0] 26))
          obtain ⟨wb, hwb⟩ : ∃ wb, u.drew.alloc (.cells #[.int .u64 0, .bool false, .string ⟨#[]⟩, .slice none 0 0, .string ⟨#[]⟩, .slice none 0 0] 26) = wb := ⟨_, rfl⟩
          have hB : wr.heap.size ≤ u.heap.size := hEq.size
          rw [hwb] at K5 hHeld
          rw [hwb]
          clear hwb
          refine wpAnyH_ready (rs := [5]) (by as_aux_lemma => kernel_rfl) (by simp) ?_
          refine AllReadyH.cons (o := ⟨_, _, _, _, _, _⟩) rfl (fun K' hK => ?_) (AllReadyH.nil)
          go_simp
          go_at_call 28
          refine (rat_old gR _ p _ w3 _ (hE.trans hHeld.1) hg (hp.ext hHeld.1)).mono ?_
          rintro e w5 ⟨r, rfl, hr5, hE5⟩
          obtain ⟨zA, zc, zK, zd, rfl, hz5⟩ := hr5.open HZ.out HB.out
          have E2 := Ext.trans hHeld.1 hE5
          have H5 := Lib.hid hE5
          refine hK.out _ _ ⟨E2, Ext.cell E2 cu, Ext.cell E2 (hbr.cell 0), Ext.cell E2 (hbr.cell 1), Ext.cell E2 (hbr.cell 2), Ext.cell E2 (hbr.cell 3), Ext.cell E2 (hbr.cell 4), Ext.cell E2 (hbr.cell 5)⟩ (fun hHeld => ?_)
          clear hK K' hE5
          try simp only [Act.put, List.setIfInBounds_toArray, List.set_cons_zero, List.set_cons_succ]
          refine wpAnyH_take (i := 6) (oi := ⟨_, _, _, _, _, _⟩) (v := ?_) rfl (by as_aux_lemma => kernel_rfl) (by as_aux_lemma => kernel_rfl) (by as_aux_lemma => kernel_rfl) (fun _ _ _ h => h) (Or.inl ⟨by rfl, ?_⟩) hHeld ?_
          rotate_left
          · intro w hSw
            try dsimp only at hSw
            go_simp
            all_goals (first | with_reducible rfl | rw [if_pos (by omega)])
          try simp only [Act.put, List.setIfInBounds_toArray, List.set_cons_zero, List.set_cons_succ]
          refine wpAnyH_take (i := 7) (oi := ⟨_, _, _, _, _, _⟩) (v := ?_) rfl (by as_aux_lemma => kernel_rfl) (by as_aux_lemma => kernel_rfl) (by as_aux_lemma => kernel_rfl) (fun _ _ _ h => h) (Or.inl ⟨by rfl, ?_⟩) hHeld ?_
          rotate_left
          · intro w hSw
            try dsimp only at hSw
            go_simp
            all_goals (first | with_reducible rfl | rw [if_pos (by omega)])
          try simp only [Act.put, List.setIfInBounds_toArray, List.set_cons_zero, List.set_cons_succ]
          refine wpAnyH_take (i := 8) (oi := ⟨_, _, _, _, _, _⟩) (v := ?_) rfl (by as_aux_lemma => kernel_rfl) (by as_aux_lemma => kernel_rfl) (by as_aux_lemma => kernel_rfl) (fun _ _ _ h => h) (Or.inl ⟨by rfl, ?_⟩) hHeld ?_
          rotate_left
          · intro w hSw
            try dsimp only at hSw
            go_simp
            all_goals (first | with_reducible rfl | rw [if_pos (by omega)])
          try simp only [Act.put, List.setIfInBounds_toArray, List.set_cons_zero, List.set_cons_succ]
          replace K5 := K5.ext H5.out
          obtain ⟨c0, c1, c2, c3, c4, c5⟩ := NBox.six K5
          have cf0 := K5.frozen 0; have cf1 := K5.frozen 1; have cf2 := K5.frozen 2; have cf3 := K5.frozen 3; have cf4 := K5.frozen 4; have cf5 := K5.frozen 5
          refine wpAnyH_ready (rs := [10]) (by as_aux_lemma => kernel_rfl) (by simp) ?_
          refine AllReadyH.cons (o := ⟨_, _, _, _, _, _⟩) rfl (fun K' hK => ?_) (AllReadyH.nil)
          go_simp
          have K6 := K5.set6 (.int .u64 z.id) (.bool z.leaf) (.string z.label) (.slice zA z.attrs.length zc) (.string z.text) (.slice zK z.kids.length zd)
          have E6 := Ext.set6 hHeld.1 (B := u.heap.size) hB (.int .u64 z.id) (.bool z.leaf) (.string z.label) (.slice zA z.attrs.length zc) (.string z.text) (.slice zK z.kids.length zd)
          refine hK.out _ _ ⟨E6, Ext.cell E6 cu, Ext.cell E6 (hbr.cell 0), Ext.cell E6 (hbr.cell 1), Ext.cell E6 (hbr.cell 2), Ext.cell E6 (hbr.cell 3), Ext.cell E6 (hbr.cell 4), Ext.cell E6 (hbr.cell 5)⟩ (fun hHeld => ?_)
          clear hK K'
          try simp only [Act.put, List.setIfInBounds_toArray, List.set_cons_zero, List.set_cons_succ]
          refine wpAnyH_take (i := 11) (oi := ⟨_, _, _, _, _, _⟩) (v := ?_) rfl (by as_aux_lemma => kernel_rfl) (by as_aux_lemma => kernel_rfl) (by as_aux_lemma => kernel_rfl) (fun _ _ _ h => h) (Or.inl ⟨by rfl, ?_⟩) hHeld ?_
          rotate_left
          · intro w hSw
            try dsimp only at hSw
            go_simp
            all_goals (first | with_reducible rfl | rw [if_pos (by omega)])
          try simp only [Act.put, List.setIfInBounds_toArray, List.set_cons_zero, List.set_cons_succ]
          obtain ⟨w6, hw6⟩ : ∃ w6, (((((w5.setCell ⟨u.heap.size, 0, none⟩ (.int .u64 z.id)).setCell ⟨u.heap.size, 1, none⟩ (.bool z.leaf)).setCell ⟨u.heap.size, 2, none⟩ (.string z.label)).setCell ⟨u.heap.size, 3, none⟩ (.slice zA z.attrs.length zc)).setCell ⟨u.heap.size, 4, none⟩ (.string z.text)).setCell ⟨u.heap.size, 5, none⟩ (.slice zK z.kids.length zd) = w6 := ⟨_, rfl⟩
          rw [hw6] at K6 E6
          rw [hw6]
          refine wpAnyH_done (by kernel_rfl) ?_ _
          clear hw6 c0 c1 c2 c3 c4 c5 cf0 cf1 cf2 cf3 cf4 cf5 hHeld
          go_wp2_with fail
          go_meet
          case rel => exact ⟨_, zA, zc, zK, zd, rfl, rfl, K6, hz5, E6⟩
      case rest =>
        obtain ⟨B, zA, zc, zK, zd, rfl, rfl, hB1, hz, hEc⟩ := hcut
        replace cu := hEc.cell cu
        replace hbr := hbr.ext hEc
        replace hgr := Nd.rd_ext hEc hgr
        replace hp := hp.ext hEc
        have hEw := hE.trans hEc
        replace hz := Nd.rd_ext hEw hz
        clear hEq HEr HZ HB
        go_wp2_with fail
        go_loopg [8] 14 (fun gk s8 wr => ∃ k : Nat, s8 = .int .i64 k ∧ k + gk = 14 ∧ Ext wc wr)
        case atStart => exact ⟨0, rfl, rfl, Ext.refl _⟩
        case round =>
          obtain ⟨k, rfl, hk, hEk⟩ := hrel
          replace cu := hEk.cell cu
          replace hbr := hbr.ext hEk
          replace hgr := Nd.rd_ext hEk hgr
          replace hp := hp.ext hEk
          replace hB1 := hB1.ext hEk
          replace hz := Nd.rd_ext hEk hz
          obtain ⟨z0, z1, z2, z3, z4, z5⟩ := NBox.six hB1
          have q3 : (k : Int) ≤ 14 := by omega
          rcases Nat.lt_or_ge k 14 with hkl | hkl
          · have q4 : (k : Int) < 14 := by omega
            obtain ⟨w4, hw4⟩ : ∃ W, wr.alloc (.cells #[.int .u64 z.id, .bool z.leaf, .string z.label, .slice zA z.attrs.length zc, .string z.text, .slice zK z.kids.length zd] 26) = W := ⟨_, rfl⟩
            have hE4 : Ext wr w4 := by rw [← hw4]; exact (Ext.refl _).alloc _
            have hX4 : NBox w4 wr.heap.size 26 #[.int .u64 z.id, .bool z.leaf, .string z.label, .slice zA z.attrs.length zc, .string z.text, .slice zK z.kids.length zd] := by rw [← hw4]; exact NBox.new _ _ _
            have hz4 := Nd.rd_ext hE4 hz
            have H4 := Lib.hid hw4
            clear hw4
            go_upto_block 4 with fail
            go_cut [9] from 60 to 169 (fun s9 wx => s9 = .pointer (some ⟨wr.heap.size, 0, none⟩) ∧ GoodX wr wx wr.heap.size)
            case first =>
              rw [H4.out]
              clear H4
              obtain ⟨x0, x1, x2, x3, x4, x5⟩ := NBox.six hX4
              have xf0 := hX4.frozen 0; have xf1 := hX4.frozen 1; have xf2 := hX4.frozen 2; have xf3 := hX4.frozen 3; have xf4 := hX4.frozen 4; have xf5 := hX4.frozen 5
              have hsz4 : wr.heap.size < w4.heap.size := hX4.lt
              have hs65 := Hs65.out
              have hs257 := Hs257.out
              have htx : z.text.size ≤ 600 := by have := Nd.wt_eq z; omega
              clear z0 z1 z2 z3 z4 z5 cu hbr hgr hp hB1 hi hlt hkl hk q2 q3
              rcases (show k = 0 ∨ 0 < k by omega) with rfl | g0
              · go_wp2_with fail
                go_meet
                case rel => exact ⟨rfl, kn_id hE4 hX4 hz 77 (by omega) (by omega)⟩
              have n0 : ((k : Int) == 0) = false := by rw [beq_eq_false_iff_ne]; omega
              go_upto_if 69 with fail
              clear n0
              rcases (show k = 1 ∨ 1 < k by omega) with rfl | g1
              · go_wp2_with fail
                go_meet
                case rel => exact ⟨rfl, kn_leaf hE4 hX4 hz _⟩
              have n1 : ((k : Int) == 1) = false := by rw [beq_eq_false_iff_ne]; omega
              go_upto_if 75 with fail
              clear n1 g0
              rcases (show k = 2 ∨ 2 < k by omega) with rfl | g2
              · go_wp2_with fail
                go_meet
                case rel => exact ⟨rfl, kn_label hE4 hX4 hz s65 (one_le _ (by omega))⟩
              have n2 : ((k : Int) == 2) = false := by rw [beq_eq_false_iff_ne]; omega
              go_upto_if 79 with fail
              clear n2 g1
              rcases (show k = 3 ∨ 3 < k by omega) with rfl | g3
              · go_wp2_with fail
                go_meet
                case rel => exact ⟨rfl, kn_label hE4 hX4 hz _ (cut_le _ _ _ (by omega))⟩
              have n3 : ((k : Int) == 3) = false := by rw [beq_eq_false_iff_ne]; omega
              go_upto_if 84 with fail
              clear n3 g2
              rcases (show k = 4 ∨ 4 < k by omega) with rfl | g4
              · go_wp2_with fail
                go_meet
                case rel => exact ⟨rfl, kn_text hE4 hX4 hz _ (one_le _ (by rw [ByteArray.size_append]; show _ + 1 ≤ _; omega))⟩
              have n4 : ((k : Int) == 4) = false := by rw [beq_eq_false_iff_ne]; omega
              go_upto_if 90 with fail
              clear n4 g3
              rcases (show k = 5 ∨ 5 < k by omega) with rfl | g5
              · go_wp2_with fail
                go_meet
                case rel => exact ⟨rfl, kn_kid hE4 hX4 hz⟩
              have n5 : ((k : Int) == 5) = false := by rw [beq_eq_false_iff_ne]; omega
              go_upto_if 95 with fail
              clear n5 g4
              rcases (show k = 6 ∨ 6 < k by omega) with rfl | g6
              · go_wp2_with fail
                go_meet
                case rel => exact ⟨rfl, kn_at hE4 hX4 hz [(⟨#[97]⟩, ⟨#[]⟩), (⟨#[98]⟩, s257)] 2 rfl _ (fun W g h => attrs2 (one_le _ (by show 1 ≤ 1000; omega)) (Nat.zero_le _) (one_le _ (by show 1 ≤ 1000; omega)) (one_le _ (by omega)) h)⟩
              have n6 : ((k : Int) == 6) = false := by rw [beq_eq_false_iff_ne]; omega
              go_upto_if 102 with fail
              clear n6 g5
              rcases (show k = 7 ∨ 7 < k by omega) with rfl | g7
              · go_wp2_with fail
                go_meet
                case rel => exact ⟨rfl, kn_at hE4 hX4 hz [(⟨#[97]⟩, ⟨#[]⟩), (⟨#[98]⟩, s257.extract 0 256)] 2 rfl _ (fun W g h => attrs2 (one_le _ (by show 1 ≤ 1000; omega)) (Nat.zero_le _) (one_le _ (by show 1 ≤ 1000; omega)) (cut_le _ _ _ (by omega)) h)⟩
              have n7 : ((k : Int) == 7) = false := by rw [beq_eq_false_iff_ne]; omega
              go_upto_if 110 with fail
              clear n7 g6
              rcases (show k = 8 ∨ 8 < k by omega) with rfl | g8
              · go_wp2_with fail
                go_meet
                case rel => exact ⟨rfl, kn_at hE4 hX4 hz [(⟨#[98]⟩, ⟨#[]⟩), (⟨#[97]⟩, ⟨#[]⟩)] 2 rfl _ (fun W g h => attrs2 (one_le _ (by show 1 ≤ 1000; omega)) (Nat.zero_le _) (one_le _ (by show 1 ≤ 1000; omega)) (Nat.zero_le _) h)⟩
              have n8 : ((k : Int) == 8) = false := by rw [beq_eq_false_iff_ne]; omega
              go_upto_if 116 with fail
              clear n8 g7
              rcases (show k = 9 ∨ 9 < k by omega) with rfl | g9
              · go_wp2_with fail
                go_meet
                case rel => exact ⟨rfl, kn_at hE4 hX4 hz [(⟨#[97]⟩, ⟨#[]⟩), (⟨#[97]⟩, ⟨#[50]⟩)] 2 rfl _ (fun W g h => attrs2 (one_le _ (by show 1 ≤ 1000; omega)) (Nat.zero_le _) (one_le _ (by show 1 ≤ 1000; omega)) (one_le _ (by show 1 ≤ 1000; omega)) h)⟩
              have n9 : ((k : Int) == 9) = false := by rw [beq_eq_false_iff_ne]; omega
              go_upto_if 122 with fail
              clear n9 g8
              rcases (show k = 10 ∨ 10 < k by omega) with rfl | g10
              · go_wp2_with fail
                go_meet
                case rel => exact ⟨rfl, kn_at hE4 hX4 hz [(⟨#[]⟩, ⟨#[]⟩)] 1 rfl _ (fun W g h => attrs1 (Nat.zero_le _) (Nat.zero_le _) h)⟩
              have n10 : ((k : Int) == 10) = false := by rw [beq_eq_false_iff_ne]; omega
              go_upto_if 127 with fail
              clear n10 g9
              rcases (show k = 11 ∨ 11 < k by omega) with rfl | g11
              · go_wp2_with fail
                go_meet
                case rel => exact ⟨rfl, kn_at hE4 hX4 hz [(s65, ⟨#[]⟩)] 1 rfl _ (fun W g h => attrs1 (one_le _ (by omega)) (Nat.zero_le _) h)⟩
              have n11 : ((k : Int) == 11) = false := by rw [beq_eq_false_iff_ne]; omega
              go_upto_if 133 with fail
              clear n11 g10
              rcases (show k = 12 ∨ 12 < k by omega) with rfl | g12
              · go_wp2_with fail
                go_meet
                case rel => exact ⟨rfl, kn_kids0 hE4 hX4 hz⟩
              have n12 : ((k : Int) == 12) = false := by rw [beq_eq_false_iff_ne]; omega
              obtain rfl : k = 13 := by omega
              go_wp2_with fail
              go_meet
              case rel => exact ⟨rfl, kn_same hE4 hX4 hz⟩
            case rest =>
              obtain ⟨rfl, hEx, X, xA, xc, xK, xd, hbX, hX⟩ := hcut
              replace cu := hEx.cell cu
              replace hbr := hbr.ext hEx
              replace hgr := Nd.rd_ext hEx hgr
              replace hp := hp.ext hEx
              replace hEk := hEk.trans hEx
              obtain ⟨B9, hB9⟩ : ∃ b, wr.heap.size = b := ⟨_, rfl⟩
              rw [hB9] at hbX
              rw [hB9]
              clear hB9 hz4 hX4 hE4 H4 z0 z1 z2 z3 z4 z5 hB1 hEx
              obtain ⟨bq, hbq⟩ : ∃ bq, (gR.put p X).isSome = bq := ⟨_, rfl⟩
              obtain ⟨y, hy⟩ : ∃ y, (gR.put p X).getD Nd.zero = y := ⟨_, rfl⟩
              have HY := Lib.hid hy
              have HB := Lib.hid hbq
              clear hy hbq
              go_upto_region 43 with fail
              go_cut [10, 11] from 60 to 169 (fun s10 s11 wx => ∃ D : Nat, s10 = .pointer (some ⟨D, 0, none⟩) ∧ s11 = .bool bq ∧ GoodX wc wx D)
              case first =>
                refine wp_region_held_drew (S := (fun W => Ext wc W ∧ W.cell? ⟨qg, i, none⟩ = some (.slice pA p.length pcap) ∧ W.cell? ⟨wz.heap.size, 0, none⟩ = some (.int .u64 gR.id) ∧ W.cell? ⟨wz.heap.size, 1, none⟩ = some (.bool gR.leaf) ∧ W.cell? ⟨wz.heap.size, 2, none⟩ = some (.string gR.label) ∧ W.cell? ⟨wz.heap.size, 3, none⟩ = some (.slice gA gR.attrs.length gc) ∧ W.cell? ⟨wz.heap.size, 4, none⟩ = some (.string gR.text) ∧ W.cell? ⟨wz.heap.size, 5, none⟩ = some (.slice gK gR.kids.length gd) ∧ W.cell? ⟨B9, 0, none⟩ = some (.int .u64 X.id) ∧ W.cell? ⟨B9, 1, none⟩ = some (.bool X.leaf) ∧ W.cell? ⟨B9, 2, none⟩ = some (.string X.label) ∧ W.cell? ⟨B9, 3, none⟩ = some (.slice xA X.attrs.length xc) ∧ W.cell? ⟨B9, 4, none⟩ = some (.string X.text) ∧ W.cell? ⟨B9, 5, none⟩ = some (.slice xK X.kids.length xd))) (by kernel_rfl) ⟨(Ext.refl wc).drew, Ext.cell (Ext.refl wc).drew cu, Ext.cell (Ext.refl wc).drew (hbr.cell 0), Ext.cell (Ext.refl wc).drew (hbr.cell 1), Ext.cell (Ext.refl wc).drew (hbr.cell 2), Ext.cell (Ext.refl wc).drew (hbr.cell 3), Ext.cell (Ext.refl wc).drew (hbr.cell 4), Ext.cell (Ext.refl wc).drew (hbr.cell 5), Ext.cell (Ext.refl wc).drew (hbX.cell 0), Ext.cell (Ext.refl wc).drew (hbX.cell 1), Ext.cell (Ext.refl wc).drew (hbX.cell 2), Ext.cell (Ext.refl wc).drew (hbX.cell 3), Ext.cell (Ext.refl wc).drew (hbX.cell 4), Ext.cell (Ext.refl wc).drew (hbX.cell 5)⟩ (fun hHeld => ?_)
                refine wpAnyH_take (i := 0) (oi := ⟨_, _, _, _, _, _⟩) (v := ?_) rfl (by as_aux_lemma => kernel_rfl) (by as_aux_lemma => kernel_rfl) (by as_aux_lemma => kernel_rfl) (fun _ _ _ h => h) (Or.inl ⟨by rfl, ?_⟩) hHeld ?_
                rotate_left
                · intro w hSw
                  try dsimp only at hSw
                  go_simp
                  all_goals (first | with_reducible rfl | rw [if_pos (by omega)])
                try simp only [Act.put, List.setIfInBounds_toArray, List.set_cons_zero, List.set_cons_succ]
                refine wpAnyH_take (i := 1) (oi := ⟨_, _, _, _, _, _⟩) (v := ?_) rfl (by as_aux_lemma => kernel_rfl) (by as_aux_lemma => kernel_rfl) (by as_aux_lemma => kernel_rfl) (fun _ _ _ h => h) (Or.inl ⟨by rfl, ?_⟩) hHeld ?_
                rotate_left
                · intro w hSw
                  try dsimp only at hSw
                  go_simp
                  all_goals (first | with_reducible rfl | rw [if_pos (by omega)])
                try simp only [Act.put, List.setIfInBounds_toArray, List.set_cons_zero, List.set_cons_succ]
                refine wpAnyH_take (i := 2) (oi := ⟨_, _, _, _, _, _⟩) (v := ?_) rfl (by as_aux_lemma => kernel_rfl) (by as_aux_lemma => kernel_rfl) (by as_aux_lemma => kernel_rfl) (fun _ _ _ h => h) (Or.inl ⟨by rfl, ?_⟩) hHeld ?_
                rotate_left
                · intro w hSw
                  try dsimp only at hSw
                  go_simp
                  all_goals (first | with_reducible rfl | rw [if_pos (by omega)])
                try simp only [Act.put, List.setIfInBounds_toArray, List.set_cons_zero, List.set_cons_succ]
                refine wpAnyH_take (i := 3) (oi := ⟨_, _, _, _, _, _⟩) (v := ?_) rfl (by as_aux_lemma => kernel_rfl) (by as_aux_lemma => kernel_rfl) (by as_aux_lemma => kernel_rfl) (fun _ _ _ h => h) (Or.inl ⟨by rfl, ?_⟩) hHeld ?_
                rotate_left
                · intro w hSw
                  try dsimp only at hSw
                  go_simp
                  all_goals (first | with_reducible rfl | rw [if_pos (by omega)])
                try simp only [Act.put, List.setIfInBounds_toArray, List.set_cons_zero, List.set_cons_succ]
                refine wpAnyH_take (i := 4) (oi := ⟨_, _, _, _, _, _⟩) (v := ?_) rfl (by as_aux_lemma => kernel_rfl) (by as_aux_lemma => kernel_rfl) (by as_aux_lemma => kernel_rfl) (fun _ _ _ h => h) (Or.inl ⟨by rfl, ?_⟩) hHeld ?_
                rotate_left
                · intro w hSw
                  try dsimp only at hSw
                  go_simp
                  all_goals (first | with_reducible rfl | rw [if_pos (by omega)])
                try simp only [Act.put, List.setIfInBounds_toArray, List.set_cons_zero, List.set_cons_succ]
                refine wpAnyH_take (i := 5) (oi := ⟨_, _, _, _, _, _⟩) (v := ?_) rfl (by as_aux_lemma => kernel_rfl) (by as_aux_lemma => kernel_rfl) (by as_aux_lemma => kernel_rfl) (fun _ _ _ h => h) (Or.inl ⟨by rfl, ?_⟩) hHeld ?_
                rotate_left
                · intro w hSw
                  try dsimp only at hSw
                  go_simp
                  all_goals (first | with_reducible rfl | rw [if_pos (by omega)])
                try simp only [Act.put, List.setIfInBounds_toArray, List.set_cons_zero, List.set_cons_succ]
                refine wpAnyH_ready (rs := [6, 10]) (by as_aux_lemma => kernel_rfl) (by simp) ?_
                refine AllReadyH.cons (o := ⟨_, _, _, _, _, _⟩) rfl (fun K' hK => ?_) (AllReadyH.cons (o := ⟨_, _, _, _, _, _⟩) rfl (fun K' hK => ?_) (AllReadyH.nil))
                · go_simp
                  go_at_call 26
                  refine (rput_late p gR X _ _ _ wc _ hHeld.1 hgr hX (hp.ext hHeld.1) (Nat.le_trans gR_wt (by omega))).mono ?_
                  rintro e w5 ⟨r, rfl, hr5, hE5⟩
                  have hr5' := hr5 w5 (hHeld.1.trans hE5) (fun _ _ _ => rfl)
                  obtain ⟨yA, yc, yK, yd, rfl, _⟩ := hr5'.open HY.out HB.out
                  have HR5 := Lib.hid hr5
                  clear hr5
                  have E2 := Ext.trans hHeld.1 hE5
                  have H5 := Lib.hid hE5
                  refine hK.out _ _ ⟨E2, Ext.cell E2 cu, Ext.cell E2 (hbr.cell 0), Ext.cell E2 (hbr.cell 1), Ext.cell E2 (hbr.cell 2), Ext.cell E2 (hbr.cell 3), Ext.cell E2 (hbr.cell 4), Ext.cell E2 (hbr.cell 5), Ext.cell E2 (hbX.cell 0), Ext.cell E2 (hbX.cell 1), Ext.cell E2 (hbX.cell 2), Ext.cell E2 (hbX.cell 3), Ext.cell E2 (hbX.cell 4), Ext.cell E2 (hbX.cell 5)⟩ (fun hHeld => ?_)
                  clear hK K' hE5
                  try simp only [Act.put, List.setIfInBounds_toArray, List.set_cons_zero, List.set_cons_succ]
                  refine wpAnyH_take (i := 7) (oi := ⟨_, _, _, _, _, _⟩) (v := ?_) rfl (by as_aux_lemma => kernel_rfl) (by as_aux_lemma => kernel_rfl) (by as_aux_lemma => kernel_rfl) (fun _ _ _ h => h) (Or.inl ⟨by rfl, ?_⟩) hHeld ?_
                  rotate_left
                  · intro w hSw
                    try dsimp only at hSw
                    go_simp
                    all_goals (first | with_reducible rfl | rw [if_pos (by omega)])
                  try simp only [Act.put, List.setIfInBounds_toArray, List.set_cons_zero, List.set_cons_succ]
                  refine wpAnyH_take (i := 8) (oi := ⟨_, _, _, _, _, _⟩) (v := ?_) rfl (by as_aux_lemma => kernel_rfl) (by as_aux_lemma => kernel_rfl) (by as_aux_lemma => kernel_rfl) (fun _ _ _ h => h) (Or.inl ⟨by rfl, ?_⟩) hHeld ?_
                  rotate_left
                  · intro w hSw
                    try dsimp only at hSw
                    go_simp
                    all_goals (first | with_reducible rfl | rw [if_pos (by omega)])
                  try simp only [Act.put, List.setIfInBounds_toArray, List.set_cons_zero, List.set_cons_succ]
                  refine wpAnyH_take (i := 9) (oi := ⟨_, _, _, _, _, _⟩) (v := ?_) rfl (by as_aux_lemma => kernel_rfl) (by as_aux_lemma => kernel_rfl) (by as_aux_lemma => kernel_rfl) (fun _ _ _ h => h) (Or.inl ⟨by rfl, ?_⟩) hHeld ?_
                  rotate_left
                  · intro w hSw
                    try dsimp only at hSw
                    go_simp
                    all_goals (first | with_reducible rfl | rw [if_pos (by omega)])
                  try simp only [Act.put, List.setIfInBounds_toArray, List.set_cons_zero, List.set_cons_succ]
                  refine wpAnyH_ready (rs := [10]) (by as_aux_lemma => kernel_rfl) (by simp) ?_
                  refine AllReadyH.cons (o := ⟨_, _, _, _, _, _⟩) rfl (fun K' hK => ?_) (AllReadyH.nil)
                  go_simp
                  have K5 := NBox.new w5 26 #[.int .u64 0, .bool false, .string ⟨#[]⟩, .slice none 0 0, .string ⟨#[]⟩, .slice none 0 0]
                  have E3 := Ext.trans hHeld.1 ((Ext.refl w5).alloc (.cells #[.int .u64 0, .bool false, .string ⟨#[]⟩, .slice none 0 0, .string ⟨#[]⟩, .slice none 0 0] 26))
                  refine hK.out _ _ ⟨E3, Ext.cell E3 cu, Ext.cell E3 (hbr.cell 0), Ext.cell E3 (hbr.cell 1), Ext.cell E3 (hbr.cell 2), Ext.cell E3 (hbr.cell 3), Ext.cell E3 (hbr.cell 4), Ext.cell E3 (hbr.cell 5), Ext.cell E3 (hbX.cell 0), Ext.cell E3 (hbX.cell 1), Ext.cell E3 (hbX.cell 2), Ext.cell E3 (hbX.cell 3), Ext.cell E3 (hbX.cell 4), Ext.cell E3 (hbX.cell 5)⟩ (fun hHeld => ?_)
                  clear hK K'
                  try simp only [Act.put, List.setIfInBounds_toArray, List.set_cons_zero, List.set_cons_succ]
                  obtain ⟨wa, hwa⟩ : ∃ wa, w5.alloc (.cells #[.int .u64 0, .bool false, .string ⟨#[]⟩, .slice none 0 0, .string ⟨#[]⟩, .slice none 0 0] 26) = wa := ⟨_, rfl⟩
                  have hB : wc.heap.size ≤ w5.heap.size := E2.size
                  have hba : ∀ k, k < w5.heap.size → wa.heap[k]? = w5.heap[k]? := fun k hk => by rw [← hwa]; exact Below.heap_alloc _ _ _ hk
                  rw [hwa] at K5 hHeld
                  rw [hwa]
                  clear hwa
                  obtain ⟨c0, c1, c2, c3, c4, c5⟩ := NBox.six K5
                  have cf0 := K5.frozen 0; have cf1 := K5.frozen 1; have cf2 := K5.frozen 2; have cf3 := K5.frozen 3; have cf4 := K5.frozen 4; have cf5 := K5.frozen 5
                  refine wpAnyH_ready (rs := [11]) (by as_aux_lemma => kernel_rfl) (by simp) ?_
                  refine AllReadyH.cons (o := ⟨_, _, _, _, _, _⟩) rfl (fun K' hK => ?_) (AllReadyH.nil)
                  go_simp
                  have K6 := K5.set6 (.int .u64 y.id) (.bool y.leaf) (.string y.label) (.slice yA y.attrs.length yc) (.string y.text) (.slice yK y.kids.length yd)
                  have E6 := Ext.set6 hHeld.1 (B := w5.heap.size) hB (.int .u64 y.id) (.bool y.leaf) (.string y.label) (.slice yA y.attrs.length yc) (.string y.text) (.slice yK y.kids.length yd)
                  refine hK.out _ _ ⟨E6, Ext.cell E6 cu, Ext.cell E6 (hbr.cell 0), Ext.cell E6 (hbr.cell 1), Ext.cell E6 (hbr.cell 2), Ext.cell E6 (hbr.cell 3), Ext.cell E6 (hbr.cell 4), Ext.cell E6 (hbr.cell 5), Ext.cell E6 (hbX.cell 0), Ext.cell E6 (hbX.cell 1), Ext.cell E6 (hbX.cell 2), Ext.cell E6 (hbX.cell 3), Ext.cell E6 (hbX.cell 4), Ext.cell E6 (hbX.cell 5)⟩ (fun hHeld => ?_)
                  clear hK K'
                  try simp only [Act.put, List.setIfInBounds_toArray, List.set_cons_zero, List.set_cons_succ]
                  refine wpAnyH_take (i := 12) (oi := ⟨_, _, _, _, _, _⟩) (v := ?_) rfl (by as_aux_lemma => kernel_rfl) (by as_aux_lemma => kernel_rfl) (by as_aux_lemma => kernel_rfl) (fun _ _ _ h => h) (Or.inl ⟨by rfl, ?_⟩) hHeld ?_
                  rotate_left
                  · intro w hSw
                    try dsimp only at hSw
                    go_simp
                    all_goals (first | with_reducible rfl | rw [if_pos (by omega)])
                  try simp only [Act.put, List.setIfInBounds_toArray, List.set_cons_zero, List.set_cons_succ]
                  have hb6 : ∀ k, k ≠ w5.heap.size → ((((((wa.setCell ⟨w5.heap.size, 0, none⟩ (.int .u64 y.id)).setCell ⟨w5.heap.size, 1, none⟩ (.bool y.leaf)).setCell ⟨w5.heap.size, 2, none⟩ (.string y.label)).setCell ⟨w5.heap.size, 3, none⟩ (.slice yA y.attrs.length yc)).setCell ⟨w5.heap.size, 4, none⟩ (.string y.text)).setCell ⟨w5.heap.size, 5, none⟩ (.slice yK y.kids.length yd)).heap[k]? = wa.heap[k]? := fun k hk => heap_at6 wa _ 0 _ _ _ _ _ _ k hk
                  obtain ⟨w6, hw6⟩ : ∃ w6, (((((wa.setCell ⟨w5.heap.size, 0, none⟩ (.int .u64 y.id)).setCell ⟨w5.heap.size, 1, none⟩ (.bool y.leaf)).setCell ⟨w5.heap.size, 2, none⟩ (.string y.label)).setCell ⟨w5.heap.size, 3, none⟩ (.slice yA y.attrs.length yc)).setCell ⟨w5.heap.size, 4, none⟩ (.string y.text)).setCell ⟨w5.heap.size, 5, none⟩ (.slice yK y.kids.length yd) = w6 := ⟨_, rfl⟩
                  rw [hw6] at K6 E6
                  simp only [hw6] at hb6
                  rw [hw6]
                  have hy6 : y.rd w6 (.agg #[.int .u64 y.id, .bool y.leaf, .string y.label, .slice yA y.attrs.length yc, .string y.text, .slice yK y.kids.length yd]) := by
                    obtain ⟨ov, h1, h2⟩ := HR5.out w6 E6 (fun k h1 h2 => by rw [hb6 k (by omega)]; exact hba k h2)
                    simp only [Value.tuple.injEq, Array.mk.injEq, List.cons.injEq, and_true] at h1
                    rw [h1.1]
                    rw [HY.out] at h2
                    exact h2
                  refine wpAnyH_done (by kernel_rfl) ?_ _
                  clear hw6 c0 c1 c2 c3 c4 c5 cf0 cf1 cf2 cf3 cf4 cf5 hHeld hb6
                  go_wp2_with fail
                  go_meet
                  case rel => exact ⟨_, rfl, rfl, E6, y, yA, yc, yK, yd, K6, hy6⟩
                · go_simp
                  have K5 : NBox (wc.drew.alloc (.cells #[.int .u64 0, .bool false, .string ⟨#[]⟩, .slice none 0 0, .string ⟨#[]⟩, .slice none 0 0] 26)) wc.heap.size 26 #[.int .u64 0, .bool false, .string ⟨#[]⟩, .slice none 0 0, .string ⟨#[]⟩, .slice none 0 0] := NBox.new wc.drew 26 #[.int .u64 0, .bool false, .string ⟨#[]⟩, .slice none 0 0, .string ⟨#[]⟩, .slice none 0 0]
                  have E3 : Ext wc (wc.drew.alloc (.cells #[.int .u64 0, .bool false, .string ⟨#[]⟩, .slice none 0 0, .string ⟨#[]⟩, .slice none 0 0] 26)) := (Ext.refl wc).drew.alloc _
                  refine hK.out _ _ ⟨E3, Ext.cell E3 cu, Ext.cell E3 (hbr.cell 0), Ext.cell E3 (hbr.cell 1), Ext.cell E3 (hbr.cell 2), Ext.cell E3 (hbr.cell 3), Ext.cell E3 (hbr.cell 4), Ext.cell E3 (hbr.cell 5), Ext.cell E3 (hbX.cell 0), Ext.cell E3 (hbX.cell 1), Ext.cell E3 (hbX.cell 2), Ext.cell E3 (hbX.cell 3), Ext.cell E3 (hbX.cell 4), Ext.cell E3 (hbX.cell 5)⟩ (fun hHeld => ?_)
                  clear hK K'
                  try simp only [Act.put, List.setIfInBounds_toArray, List.set_cons_zero, List.set_cons_succ]
                  replace hHeld : (fun W => Ext wc W ∧ W.cell? ⟨qg, i, none⟩ = some (.slice pA p.length pcap) ∧ W.cell? ⟨wz.heap.size, 0, none⟩ = some (.int .u64 gR.id) ∧ W.cell? ⟨wz.heap.size, 1, none⟩ = some (.bool gR.leaf) ∧ W.cell? ⟨wz.heap.size, 2, none⟩ = some (.string gR.label) ∧ W.cell? ⟨wz.heap.size, 3, none⟩ = some (.slice gA gR.attrs.length gc) ∧ W.cell? ⟨wz.heap.size, 4, none⟩ = some (.string gR.text) ∧ W.cell? ⟨wz.heap.size, 5, none⟩ = some (.slice gK gR.kids.length gd) ∧ W.cell? ⟨B9, 0, none⟩ = some (.int .u64 X.id) ∧ W.cell? ⟨B9, 1, none⟩ = some (.bool X.leaf) ∧ W.cell? ⟨B9, 2, none⟩ = some (.string X.label) ∧ W.cell? ⟨B9, 3, none⟩ = some (.slice xA X.attrs.length xc) ∧ W.cell? ⟨B9, 4, none⟩ = some (.string X.text) ∧ W.cell? ⟨B9, 5, none⟩ = some (.slice xK X.kids.length xd)) (wc.drew.alloc (.cells #[.int .u64 0, .bool false, .string ⟨#[]⟩, .slice none 0 0, .string ⟨#[]⟩, .slice none 0 0] 26)) := hHeld
                  change wpAnyH _ _ _ _ _ _ _ _ (wc.drew.alloc (.cells #[.int .u64 0, .bool false, .string ⟨#[]⟩, .slice none 0 0, .string ⟨#[]⟩, .slice none 0 0] 26))
                  have hsb0 : (wc.drew.alloc (.cells #[.int .u64 0, .bool false, .string ⟨#[]⟩, .slice none 0 0, .string ⟨#[]⟩, .slice none 0 0] 26)).heap.size = wc.heap.size + 1 := by rw [World.size_alloc]; rfl
                  obtain ⟨wb, hwb⟩ : ∃ wb, wc.drew.alloc (.cells #[.int .u64 0, .bool false, .string ⟨#[]⟩, .slice none 0 0, .string ⟨#[]⟩, .slice none 0 0] 26) = wb := ⟨_, rfl⟩
                  have hsb : wc.heap.size + 1 ≤ wb.heap.size := by rw [← hwb]; exact Nat.le_of_eq hsb0.symm
                  have hB : wc.heap.size ≤ wc.heap.size := Nat.le_refl _
                  rw [hwb] at K5 hHeld
                  rw [hwb]
                  clear hwb hsb0
                  refine wpAnyH_ready (rs := [6]) (by as_aux_lemma => kernel_rfl) (by simp) ?_
                  refine AllReadyH.cons (o := ⟨_, _, _, _, _, _⟩) rfl (fun K' hK => ?_) (AllReadyH.nil)
                  go_simp
                  go_at_call 26
                  refine (rput_late p gR X _ _ _ wc _ hHeld.1 hgr hX (hp.ext hHeld.1) (Nat.le_trans gR_wt (by omega))).mono ?_
                  rintro e w5 ⟨r, rfl, hr5, hE5⟩
                  have hr5' := hr5 w5 (hHeld.1.trans hE5) (fun _ _ _ => rfl)
                  obtain ⟨yA, yc, yK, yd, rfl, _⟩ := hr5'.open HY.out HB.out
                  have HR5 := Lib.hid hr5
                  clear hr5
                  have E2 := Ext.trans hHeld.1 hE5
                  have H5 := Lib.hid hE5
                  refine hK.out _ _ ⟨E2, Ext.cell E2 cu, Ext.cell E2 (hbr.cell 0), Ext.cell E2 (hbr.cell 1), Ext.cell E2 (hbr.cell 2), Ext.cell E2 (hbr.cell 3), Ext.cell E2 (hbr.cell 4), Ext.cell E2 (hbr.cell 5), Ext.cell E2 (hbX.cell 0), Ext.cell E2 (hbX.cell 1), Ext.cell E2 (hbX.cell 2), Ext.cell E2 (hbX.cell 3), Ext.cell E2 (hbX.cell 4), Ext.cell E2 (hbX.cell 5)⟩ (fun hHeld => ?_)
                  clear hK K' hE5
                  try simp only [Act.put, List.setIfInBounds_toArray, List.set_cons_zero, List.set_cons_succ]
                  refine wpAnyH_take (i := 7) (oi := ⟨_, _, _, _, _, _⟩) (v := ?_) rfl (by as_aux_lemma => kernel_rfl) (by as_aux_lemma => kernel_rfl) (by as_aux_lemma => kernel_rfl) (fun _ _ _ h => h) (Or.inl ⟨by rfl, ?_⟩) hHeld ?_
                  rotate_left
                  · intro w hSw
                    try dsimp only at hSw
                    go_simp
                    all_goals (first | with_reducible rfl | rw [if_pos (by omega)])
                  try simp only [Act.put, List.setIfInBounds_toArray, List.set_cons_zero, List.set_cons_succ]
                  refine wpAnyH_take (i := 8) (oi := ⟨_, _, _, _, _, _⟩) (v := ?_) rfl (by as_aux_lemma => kernel_rfl) (by as_aux_lemma => kernel_rfl) (by as_aux_lemma => kernel_rfl) (fun _ _ _ h => h) (Or.inl ⟨by rfl, ?_⟩) hHeld ?_
                  rotate_left
                  · intro w hSw
                    try dsimp only at hSw
                    go_simp
                    all_goals (first | with_reducible rfl | rw [if_pos (by omega)])
                  try simp only [Act.put, List.setIfInBounds_toArray, List.set_cons_zero, List.set_cons_succ]
                  refine wpAnyH_take (i := 9) (oi := ⟨_, _, _, _, _, _⟩) (v := ?_) rfl (by as_aux_lemma => kernel_rfl) (by as_aux_lemma => kernel_rfl) (by as_aux_lemma => kernel_rfl) (fun _ _ _ h => h) (Or.inl ⟨by rfl, ?_⟩) hHeld ?_
                  rotate_left
                  · intro w hSw
                    try dsimp only at hSw
                    go_simp
                    all_goals (first | with_reducible rfl | rw [if_pos (by omega)])
                  try simp only [Act.put, List.setIfInBounds_toArray, List.set_cons_zero, List.set_cons_succ]
                  replace K5 := K5.ext H5.out
                  obtain ⟨c0, c1, c2, c3, c4, c5⟩ := NBox.six K5
                  have cf0 := K5.frozen 0; have cf1 := K5.frozen 1; have cf2 := K5.frozen 2; have cf3 := K5.frozen 3; have cf4 := K5.frozen 4; have cf5 := K5.frozen 5
                  refine wpAnyH_ready (rs := [11]) (by as_aux_lemma => kernel_rfl) (by simp) ?_
                  refine AllReadyH.cons (o := ⟨_, _, _, _, _, _⟩) rfl (fun K' hK => ?_) (AllReadyH.nil)
                  go_simp
                  have K6 := K5.set6 (.int .u64 y.id) (.bool y.leaf) (.string y.label) (.slice yA y.attrs.length yc) (.string y.text) (.slice yK y.kids.length yd)
                  have E6 := Ext.set6 hHeld.1 (B := wc.heap.size) hB (.int .u64 y.id) (.bool y.leaf) (.string y.label) (.slice yA y.attrs.length yc) (.string y.text) (.slice yK y.kids.length yd)
                  refine hK.out _ _ ⟨E6, Ext.cell E6 cu, Ext.cell E6 (hbr.cell 0), Ext.cell E6 (hbr.cell 1), Ext.cell E6 (hbr.cell 2), Ext.cell E6 (hbr.cell 3), Ext.cell E6 (hbr.cell 4), Ext.cell E6 (hbr.cell 5), Ext.cell E6 (hbX.cell 0), Ext.cell E6 (hbX.cell 1), Ext.cell E6 (hbX.cell 2), Ext.cell E6 (hbX.cell 3), Ext.cell E6 (hbX.cell 4), Ext.cell E6 (hbX.cell 5)⟩ (fun hHeld => ?_)
                  clear hK K'
                  try simp only [Act.put, List.setIfInBounds_toArray, List.set_cons_zero, List.set_cons_succ]
                  refine wpAnyH_take (i := 12) (oi := ⟨_, _, _, _, _, _⟩) (v := ?_) rfl (by as_aux_lemma => kernel_rfl) (by as_aux_lemma => kernel_rfl) (by as_aux_lemma => kernel_rfl) (fun _ _ _ h => h) (Or.inl ⟨by rfl, ?_⟩) hHeld ?_
                  rotate_left
                  · intro w hSw
                    try dsimp only at hSw
                    go_simp
                    all_goals (first | with_reducible rfl | rw [if_pos (by omega)])
                  try simp only [Act.put, List.setIfInBounds_toArray, List.set_cons_zero, List.set_cons_succ]
                  have hb6 : ∀ k, k ≠ wc.heap.size → ((((((w5.setCell ⟨wc.heap.size, 0, none⟩ (.int .u64 y.id)).setCell ⟨wc.heap.size, 1, none⟩ (.bool y.leaf)).setCell ⟨wc.heap.size, 2, none⟩ (.string y.label)).setCell ⟨wc.heap.size, 3, none⟩ (.slice yA y.attrs.length yc)).setCell ⟨wc.heap.size, 4, none⟩ (.string y.text)).setCell ⟨wc.heap.size, 5, none⟩ (.slice yK y.kids.length yd)).heap[k]? = w5.heap[k]? := fun k hk => heap_at6 w5 _ 0 _ _ _ _ _ _ k hk
                  obtain ⟨w6, hw6⟩ : ∃ w6, (((((w5.setCell ⟨wc.heap.size, 0, none⟩ (.int .u64 y.id)).setCell ⟨wc.heap.size, 1, none⟩ (.bool y.leaf)).setCell ⟨wc.heap.size, 2, none⟩ (.string y.label)).setCell ⟨wc.heap.size, 3, none⟩ (.slice yA y.attrs.length yc)).setCell ⟨wc.heap.size, 4, none⟩ (.string y.text)).setCell ⟨wc.heap.size, 5, none⟩ (.slice yK y.kids.length yd) = w6 := ⟨_, rfl⟩
                  rw [hw6] at K6 E6
                  simp only [hw6] at hb6
                  rw [hw6]
                  have hy6 : y.rd w6 (.agg #[.int .u64 y.id, .bool y.leaf, .string y.label, .slice yA y.attrs.length yc, .string y.text, .slice yK y.kids.length yd]) := by
                    obtain ⟨ov, h1, h2⟩ := HR5.out w6 E6 (fun k h1 h2 => by exact hb6 k (by omega))
                    simp only [Value.tuple.injEq, Array.mk.injEq, List.cons.injEq, and_true] at h1
                    rw [h1.1]
                    rw [HY.out] at h2
                    exact h2
                  refine wpAnyH_done (by kernel_rfl) ?_ _
                  clear hw6 c0 c1 c2 c3 c4 c5 cf0 cf1 cf2 cf3 cf4 cf5 hHeld hb6
                  go_wp2_with fail
                  go_meet
                  case rel => exact ⟨_, rfl, rfl, E6, y, yA, yc, yK, yd, K6, hy6⟩
              case rest =>
                obtain ⟨D, rfl, rfl, hE7, Y, vA, vc, vK, vd, hbY, hY⟩ := hcut
                replace hbr := hbr.ext hE7
                replace hgr := Nd.rd_ext hE7 hgr
                replace hbX := hbX.ext hE7
                replace hX := Nd.rd_ext hE7 hX
                replace hEk := hEk.trans hE7
                clear hE7 HY HB cu hp
                have hs65 := Hs65.out
                have hw53 : IntKind.i64.wrap ((k : Int) + 53) = (k : Int) + 53 := by rw [IntKind.wrap_i64]; omega
                go_upto_region 44 with fail
                refine wp_region_held_drew (S := (fun W => Ext wc W ∧ W.cell? ⟨wz.heap.size, 0, none⟩ = some (.int .u64 gR.id) ∧ W.cell? ⟨wz.heap.size, 1, none⟩ = some (.bool gR.leaf) ∧ W.cell? ⟨wz.heap.size, 2, none⟩ = some (.string gR.label) ∧ W.cell? ⟨wz.heap.size, 3, none⟩ = some (.slice gA gR.attrs.length gc) ∧ W.cell? ⟨wz.heap.size, 4, none⟩ = some (.string gR.text) ∧ W.cell? ⟨wz.heap.size, 5, none⟩ = some (.slice gK gR.kids.length gd) ∧ W.cell? ⟨B9, 0, none⟩ = some (.int .u64 X.id) ∧ W.cell? ⟨B9, 1, none⟩ = some (.bool X.leaf) ∧ W.cell? ⟨B9, 2, none⟩ = some (.string X.label) ∧ W.cell? ⟨B9, 3, none⟩ = some (.slice xA X.attrs.length xc) ∧ W.cell? ⟨B9, 4, none⟩ = some (.string X.text) ∧ W.cell? ⟨B9, 5, none⟩ = some (.slice xK X.kids.length xd) ∧ W.cell? ⟨D, 0, none⟩ = some (.int .u64 Y.id) ∧ W.cell? ⟨D, 1, none⟩ = some (.bool Y.leaf) ∧ W.cell? ⟨D, 2, none⟩ = some (.string Y.label) ∧ W.cell? ⟨D, 3, none⟩ = some (.slice vA Y.attrs.length vc) ∧ W.cell? ⟨D, 4, none⟩ = some (.string Y.text) ∧ W.cell? ⟨D, 5, none⟩ = some (.slice vK Y.kids.length vd))) (by kernel_rfl) ⟨(Ext.refl wc).drew, Ext.cell (Ext.refl wc).drew (hbr.cell 0), Ext.cell (Ext.refl wc).drew (hbr.cell 1), Ext.cell (Ext.refl wc).drew (hbr.cell 2), Ext.cell (Ext.refl wc).drew (hbr.cell 3), Ext.cell (Ext.refl wc).drew (hbr.cell 4), Ext.cell (Ext.refl wc).drew (hbr.cell 5), Ext.cell (Ext.refl wc).drew (hbX.cell 0), Ext.cell (Ext.refl wc).drew (hbX.cell 1), Ext.cell (Ext.refl wc).drew (hbX.cell 2), Ext.cell (Ext.refl wc).drew (hbX.cell 3), Ext.cell (Ext.refl wc).drew (hbX.cell 4), Ext.cell (Ext.refl wc).drew (hbX.cell 5), Ext.cell (Ext.refl wc).drew (hbY.cell 0), Ext.cell (Ext.refl wc).drew (hbY.cell 1), Ext.cell (Ext.refl wc).drew (hbY.cell 2), Ext.cell (Ext.refl wc).drew (hbY.cell 3), Ext.cell (Ext.refl wc).drew (hbY.cell 4), Ext.cell (Ext.refl wc).drew (hbY.cell 5)⟩ (fun hHeld => ?_)
                refine wpAnyH_take (i := 0) (oi := ⟨_, _, _, _, _, _⟩) (v := ?_) rfl (by as_aux_lemma => kernel_rfl) (by as_aux_lemma => kernel_rfl) (by as_aux_lemma => kernel_rfl) (fun _ _ _ h => h) (Or.inl ⟨by rfl, ?_⟩) hHeld ?_
                rotate_left
                · intro w hSw
                  try dsimp only at hSw
                  go_simp
                  all_goals (first | with_reducible rfl | rw [if_pos (by omega)])
                try simp only [Act.put, List.setIfInBounds_toArray, List.set_cons_zero, List.set_cons_succ]
                refine wpAnyH_take (i := 1) (oi := ⟨_, _, _, _, _, _⟩) (v := ?_) rfl (by as_aux_lemma => kernel_rfl) (by as_aux_lemma => kernel_rfl) (by as_aux_lemma => kernel_rfl) (fun _ _ _ h => h) (Or.inl ⟨by rfl, ?_⟩) hHeld ?_
                rotate_left
                · intro w hSw
                  try dsimp only at hSw
                  go_simp
                  all_goals (first | with_reducible rfl | rw [if_pos (by omega)])
                try simp only [Act.put, List.setIfInBounds_toArray, List.set_cons_zero, List.set_cons_succ]
                refine wpAnyH_take (i := 2) (oi := ⟨_, _, _, _, _, _⟩) (v := ?_) rfl (by as_aux_lemma => kernel_rfl) (by as_aux_lemma => kernel_rfl) (by as_aux_lemma => kernel_rfl) (fun _ _ _ h => h) (Or.inl ⟨by rfl, ?_⟩) hHeld ?_
                rotate_left
                · intro w hSw
                  try dsimp only at hSw
                  go_simp
                  all_goals (first | with_reducible rfl | rw [if_pos (by omega)])
                try simp only [Act.put, List.setIfInBounds_toArray, List.set_cons_zero, List.set_cons_succ]
                refine wpAnyH_take (i := 3) (oi := ⟨_, _, _, _, _, _⟩) (v := ?_) rfl (by as_aux_lemma => kernel_rfl) (by as_aux_lemma => kernel_rfl) (by as_aux_lemma => kernel_rfl) (fun _ _ _ h => h) (Or.inl ⟨by rfl, ?_⟩) hHeld ?_
                rotate_left
                · intro w hSw
                  try dsimp only at hSw
                  go_simp
                  all_goals (first | with_reducible rfl | rw [if_pos (by omega)])
                try simp only [Act.put, List.setIfInBounds_toArray, List.set_cons_zero, List.set_cons_succ]
                refine wpAnyH_take (i := 4) (oi := ⟨_, _, _, _, _, _⟩) (v := ?_) rfl (by as_aux_lemma => kernel_rfl) (by as_aux_lemma => kernel_rfl) (by as_aux_lemma => kernel_rfl) (fun _ _ _ h => h) (Or.inl ⟨by rfl, ?_⟩) hHeld ?_
                rotate_left
                · intro w hSw
                  try dsimp only at hSw
                  go_simp
                  all_goals (first | with_reducible rfl | rw [if_pos (by omega)])
                try simp only [Act.put, List.setIfInBounds_toArray, List.set_cons_zero, List.set_cons_succ]
                refine wpAnyH_take (i := 5) (oi := ⟨_, _, _, _, _, _⟩) (v := ?_) rfl (by as_aux_lemma => kernel_rfl) (by as_aux_lemma => kernel_rfl) (by as_aux_lemma => kernel_rfl) (fun _ _ _ h => h) (Or.inl ⟨by rfl, ?_⟩) hHeld ?_
                rotate_left
                · intro w hSw
                  try dsimp only at hSw
                  go_simp
                  all_goals (first | with_reducible rfl | rw [if_pos (by omega)])
                try simp only [Act.put, List.setIfInBounds_toArray, List.set_cons_zero, List.set_cons_succ]
                refine wpAnyH_ready (rs := [6]) (by as_aux_lemma => kernel_rfl) (by simp) ?_
                refine AllReadyH.cons (o := ⟨_, _, _, _, _, _⟩) rfl (fun K' hK => ?_) (AllReadyH.nil)
                go_simp
                go_at_call 3
                refine (lawRight Y _ _ _ (Nd.rd_ext hHeld.1 hY) (cut_le _ _ _ (by omega))).mono ?_
                rintro e u ⟨r, rfl, rfl, hE⟩
                have E2 := Ext.trans hHeld.1 hE
                clear hE hHeld
                refine hK.out _ _ ⟨E2, Ext.cell E2 (hbr.cell 0), Ext.cell E2 (hbr.cell 1), Ext.cell E2 (hbr.cell 2), Ext.cell E2 (hbr.cell 3), Ext.cell E2 (hbr.cell 4), Ext.cell E2 (hbr.cell 5), Ext.cell E2 (hbX.cell 0), Ext.cell E2 (hbX.cell 1), Ext.cell E2 (hbX.cell 2), Ext.cell E2 (hbX.cell 3), Ext.cell E2 (hbX.cell 4), Ext.cell E2 (hbX.cell 5), Ext.cell E2 (hbY.cell 0), Ext.cell E2 (hbY.cell 1), Ext.cell E2 (hbY.cell 2), Ext.cell E2 (hbY.cell 3), Ext.cell E2 (hbY.cell 4), Ext.cell E2 (hbY.cell 5)⟩ (fun hHeld => ?_)
                clear hK K'
                try simp only [Act.put, List.setIfInBounds_toArray, List.set_cons_zero, List.set_cons_succ]
                refine wpAnyH_take (i := 7) (oi := ⟨_, _, _, _, _, _⟩) (v := ?_) rfl (by as_aux_lemma => kernel_rfl) (by as_aux_lemma => kernel_rfl) (by as_aux_lemma => kernel_rfl) (fun _ _ _ h => h) (Or.inl ⟨by rfl, ?_⟩) hHeld ?_
                rotate_left
                · intro w hSw
                  try dsimp only at hSw
                  go_simp
                  all_goals (first | with_reducible rfl | rw [if_pos (by omega)])
                try simp only [Act.put, List.setIfInBounds_toArray, List.set_cons_zero, List.set_cons_succ]
                refine wpAnyH_take (i := 8) (oi := ⟨_, _, _, _, _, _⟩) (v := ?_) rfl (by as_aux_lemma => kernel_rfl) (by as_aux_lemma => kernel_rfl) (by as_aux_lemma => kernel_rfl) (fun _ _ _ h => h) (Or.inl ⟨by rfl, ?_⟩) hHeld ?_
                rotate_left
                · intro w hSw
                  try dsimp only at hSw
                  go_simp
                  all_goals (first | with_reducible rfl | rw [if_pos (by omega)])
                try simp only [Act.put, List.setIfInBounds_toArray, List.set_cons_zero, List.set_cons_succ]
                refine wpAnyH_take (i := 9) (oi := ⟨_, _, _, _, _, _⟩) (v := ?_) rfl (by as_aux_lemma => kernel_rfl) (by as_aux_lemma => kernel_rfl) (by as_aux_lemma => kernel_rfl) (fun _ _ _ h => h) (Or.inl ⟨by rfl, ?_⟩) hHeld ?_
                rotate_left
                · intro w hSw
                  try dsimp only at hSw
                  go_simp
                  all_goals (first | with_reducible rfl | rw [if_pos (by omega)])
                try simp only [Act.put, List.setIfInBounds_toArray, List.set_cons_zero, List.set_cons_succ]
                refine wpAnyH_take (i := 10) (oi := ⟨_, _, _, _, _, _⟩) (v := ?_) rfl (by as_aux_lemma => kernel_rfl) (by as_aux_lemma => kernel_rfl) (by as_aux_lemma => kernel_rfl) (fun _ _ _ h => h) (Or.inl ⟨by rfl, ?_⟩) hHeld ?_
                rotate_left
                · intro w hSw
                  try dsimp only at hSw
                  go_simp
                  all_goals (first | with_reducible rfl | rw [if_pos (by omega)])
                try simp only [Act.put, List.setIfInBounds_toArray, List.set_cons_zero, List.set_cons_succ]
                refine wpAnyH_ready (rs := [11]) (by as_aux_lemma => kernel_rfl) (by simp) ?_
                refine AllReadyH.cons (o := ⟨_, _, _, _, _, _⟩) rfl (fun K' hK => ?_) (AllReadyH.nil)
                go_simp
                go_at_call 7
                refine (lawSame gR Y _ _ _ (Nd.rd_ext hHeld.1 hgr) (Nd.rd_ext hHeld.1 hY)).mono ?_
                rintro e u ⟨r, rfl, rfl, hE⟩
                have E2 := Ext.trans hHeld.1 hE
                clear hE hHeld
                refine hK.out _ _ ⟨E2, Ext.cell E2 (hbr.cell 0), Ext.cell E2 (hbr.cell 1), Ext.cell E2 (hbr.cell 2), Ext.cell E2 (hbr.cell 3), Ext.cell E2 (hbr.cell 4), Ext.cell E2 (hbr.cell 5), Ext.cell E2 (hbX.cell 0), Ext.cell E2 (hbX.cell 1), Ext.cell E2 (hbX.cell 2), Ext.cell E2 (hbX.cell 3), Ext.cell E2 (hbX.cell 4), Ext.cell E2 (hbX.cell 5), Ext.cell E2 (hbY.cell 0), Ext.cell E2 (hbY.cell 1), Ext.cell E2 (hbY.cell 2), Ext.cell E2 (hbY.cell 3), Ext.cell E2 (hbY.cell 4), Ext.cell E2 (hbY.cell 5)⟩ (fun hHeld => ?_)
                clear hK K'
                try simp only [Act.put, List.setIfInBounds_toArray, List.set_cons_zero, List.set_cons_succ]
                refine wpAnyH_take (i := 12) (oi := ⟨_, _, _, _, _, _⟩) (v := ?_) rfl (by as_aux_lemma => kernel_rfl) (by as_aux_lemma => kernel_rfl) (by as_aux_lemma => kernel_rfl) (fun _ _ _ h => h) (Or.inl ⟨by rfl, ?_⟩) hHeld ?_
                rotate_left
                · intro w hSw
                  try dsimp only at hSw
                  go_simp
                  all_goals (first | with_reducible rfl | rw [if_pos (by omega)])
                try simp only [Act.put, List.setIfInBounds_toArray, List.set_cons_zero, List.set_cons_succ]
                refine wpAnyH_take (i := 13) (oi := ⟨_, _, _, _, _, _⟩) (v := ?_) rfl (by as_aux_lemma => kernel_rfl) (by as_aux_lemma => kernel_rfl) (by as_aux_lemma => kernel_rfl) (fun _ _ _ h => h) (Or.inl ⟨by rfl, ?_⟩) hHeld ?_
                rotate_left
                · intro w hSw
                  try dsimp only at hSw
                  go_simp
                  all_goals (first | with_reducible rfl | rw [if_pos (by omega)])
                try simp only [Act.put, List.setIfInBounds_toArray, List.set_cons_zero, List.set_cons_succ]
                refine wpAnyH_take (i := 14) (oi := ⟨_, _, _, _, _, _⟩) (v := ?_) rfl (by as_aux_lemma => kernel_rfl) (by as_aux_lemma => kernel_rfl) (by as_aux_lemma => kernel_rfl) (fun _ _ _ h => h) (Or.inl ⟨by rfl, ?_⟩) hHeld ?_
                rotate_left
                · intro w hSw
                  try dsimp only at hSw
                  go_simp
                  all_goals (first | with_reducible rfl | rw [if_pos (by omega)])
                try simp only [Act.put, List.setIfInBounds_toArray, List.set_cons_zero, List.set_cons_succ]
                refine wpAnyH_take (i := 15) (oi := ⟨_, _, _, _, _, _⟩) (v := ?_) rfl (by as_aux_lemma => kernel_rfl) (by as_aux_lemma => kernel_rfl) (by as_aux_lemma => kernel_rfl) (fun _ _ _ h => h) (Or.inl ⟨by rfl, ?_⟩) hHeld ?_
                rotate_left
                · intro w hSw
                  try dsimp only at hSw
                  go_simp
                  all_goals (first | with_reducible rfl | rw [if_pos (by omega)])
                try simp only [Act.put, List.setIfInBounds_toArray, List.set_cons_zero, List.set_cons_succ]
                refine wpAnyH_ready (rs := [16]) (by as_aux_lemma => kernel_rfl) (by simp) ?_
                refine AllReadyH.cons (o := ⟨_, _, _, _, _, _⟩) rfl (fun K' hK => ?_) (AllReadyH.nil)
                go_simp
                go_at_call 4
                refine (lawSizes Y _ _ (Nd.rd_ext hHeld.1 hY)).mono ?_
                rintro e u ⟨r, rfl, rfl, hE⟩
                have E2 := Ext.trans hHeld.1 hE
                clear hE hHeld
                refine hK.out _ _ ⟨E2, Ext.cell E2 (hbr.cell 0), Ext.cell E2 (hbr.cell 1), Ext.cell E2 (hbr.cell 2), Ext.cell E2 (hbr.cell 3), Ext.cell E2 (hbr.cell 4), Ext.cell E2 (hbr.cell 5), Ext.cell E2 (hbX.cell 0), Ext.cell E2 (hbX.cell 1), Ext.cell E2 (hbX.cell 2), Ext.cell E2 (hbX.cell 3), Ext.cell E2 (hbX.cell 4), Ext.cell E2 (hbX.cell 5), Ext.cell E2 (hbY.cell 0), Ext.cell E2 (hbY.cell 1), Ext.cell E2 (hbY.cell 2), Ext.cell E2 (hbY.cell 3), Ext.cell E2 (hbY.cell 4), Ext.cell E2 (hbY.cell 5)⟩ (fun hHeld => ?_)
                clear hK K'
                try simp only [Act.put, List.setIfInBounds_toArray, List.set_cons_zero, List.set_cons_succ]
                refine wpAnyH_take (i := 17) (oi := ⟨_, _, _, _, _, _⟩) (v := ?_) rfl (by as_aux_lemma => kernel_rfl) (by as_aux_lemma => kernel_rfl) (by as_aux_lemma => kernel_rfl) (fun _ _ _ h => h) (Or.inl ⟨by rfl, ?_⟩) hHeld ?_
                rotate_left
                · intro w hSw
                  try dsimp only at hSw
                  go_simp
                  all_goals (first | with_reducible rfl | rw [if_pos (by omega)])
                try simp only [Act.put, List.setIfInBounds_toArray, List.set_cons_zero, List.set_cons_succ]
                refine wpAnyH_take (i := 18) (oi := ⟨_, _, _, _, _, _⟩) (v := ?_) rfl (by as_aux_lemma => kernel_rfl) (by as_aux_lemma => kernel_rfl) (by as_aux_lemma => kernel_rfl) (fun _ _ _ h => h) (Or.inl ⟨by rfl, ?_⟩) hHeld ?_
                rotate_left
                · intro w hSw
                  try dsimp only at hSw
                  go_simp
                  all_goals (first | with_reducible rfl | rw [if_pos (by omega)])
                try simp only [Act.put, List.setIfInBounds_toArray, List.set_cons_zero, List.set_cons_succ]
                refine wpAnyH_take (i := 19) (oi := ⟨_, _, _, _, _, _⟩) (v := ?_) rfl (by as_aux_lemma => kernel_rfl) (by as_aux_lemma => kernel_rfl) (by as_aux_lemma => kernel_rfl) (fun _ _ _ h => h) (Or.inl ⟨by rfl, ?_⟩) hHeld ?_
                rotate_left
                · intro w hSw
                  try dsimp only at hSw
                  go_simp
                  all_goals (first | with_reducible rfl | rw [if_pos (by omega)])
                try simp only [Act.put, List.setIfInBounds_toArray, List.set_cons_zero, List.set_cons_succ]
                refine wpAnyH_take (i := 20) (oi := ⟨_, _, _, _, _, _⟩) (v := ?_) rfl (by as_aux_lemma => kernel_rfl) (by as_aux_lemma => kernel_rfl) (by as_aux_lemma => kernel_rfl) (fun _ _ _ h => h) (Or.inl ⟨by rfl, ?_⟩) hHeld ?_
                rotate_left
                · intro w hSw
                  try dsimp only at hSw
                  go_simp
                  all_goals (first | with_reducible rfl | rw [if_pos (by omega)])
                try simp only [Act.put, List.setIfInBounds_toArray, List.set_cons_zero, List.set_cons_succ]
                refine wpAnyH_ready (rs := [21]) (by as_aux_lemma => kernel_rfl) (by simp) ?_
                refine AllReadyH.cons (o := ⟨_, _, _, _, _, _⟩) rfl (fun K' hK => ?_) (AllReadyH.nil)
                go_simp
                go_at_call 5
                refine (lawAttr X _ _ _ (Nd.rd_ext hHeld.1 hX) (one_le _ (by show 1 ≤ 1000; omega))).mono ?_
                rintro e u ⟨r, rfl, rfl, hE⟩
                have E2 := Ext.trans hHeld.1 hE
                clear hE hHeld
                refine hK.out _ _ ⟨E2, Ext.cell E2 (hbr.cell 0), Ext.cell E2 (hbr.cell 1), Ext.cell E2 (hbr.cell 2), Ext.cell E2 (hbr.cell 3), Ext.cell E2 (hbr.cell 4), Ext.cell E2 (hbr.cell 5), Ext.cell E2 (hbX.cell 0), Ext.cell E2 (hbX.cell 1), Ext.cell E2 (hbX.cell 2), Ext.cell E2 (hbX.cell 3), Ext.cell E2 (hbX.cell 4), Ext.cell E2 (hbX.cell 5), Ext.cell E2 (hbY.cell 0), Ext.cell E2 (hbY.cell 1), Ext.cell E2 (hbY.cell 2), Ext.cell E2 (hbY.cell 3), Ext.cell E2 (hbY.cell 4), Ext.cell E2 (hbY.cell 5)⟩ (fun hHeld => ?_)
                clear hK K'
                try simp only [Act.put, List.setIfInBounds_toArray, List.set_cons_zero, List.set_cons_succ]
                refine wpAnyH_take (i := 22) (oi := ⟨_, _, _, _, _, _⟩) (v := ?_) rfl (by as_aux_lemma => kernel_rfl) (by as_aux_lemma => kernel_rfl) (by as_aux_lemma => kernel_rfl) (fun _ _ _ h => h) (Or.inl ⟨by rfl, ?_⟩) hHeld ?_
                rotate_left
                · intro w hSw
                  try dsimp only at hSw
                  go_simp
                  all_goals (first | with_reducible rfl | rw [if_pos (by omega)])
                try simp only [Act.put, List.setIfInBounds_toArray, List.set_cons_zero, List.set_cons_succ]
                refine wpAnyH_take (i := 23) (oi := ⟨_, _, _, _, _, _⟩) (v := ?_) rfl (by as_aux_lemma => kernel_rfl) (by as_aux_lemma => kernel_rfl) (by as_aux_lemma => kernel_rfl) (fun _ _ _ h => h) (Or.inl ⟨by rfl, ?_⟩) hHeld ?_
                rotate_left
                · intro w hSw
                  try dsimp only at hSw
                  go_simp
                  all_goals (first | with_reducible rfl | rw [if_pos (by omega)])
                try simp only [Act.put, List.setIfInBounds_toArray, List.set_cons_zero, List.set_cons_succ]
                refine wpAnyH_done (by kernel_rfl) ?_ _
                have hEn := hEk.trans hHeld.1
                clear hHeld hbr hbX hbY
                go_wp2_with fail
                all_goals
                  go_roundg (14 - (k + 1))
                  case measure => omega
                  case rel => exact ⟨k + 1, by go_num, by omega, hEn⟩
          · have q4 : ¬ ((k : Int) < 14) := by omega
            clear cu hbr hgr hp hB1 hz z0 z1 z2 z3 z4 z5
            go_wp2_with fail
            go_roundg (13 - (i + 1))
            case measure => omega
            case rel => exact ⟨i + 1, by go_num, by omega, hEw.trans hEk⟩
    · have q2 : ¬ ((i : Int) < 13) := by omega
      have HEr := HE.trans hE
      clear hg hbg HE
      go_wp2_with fail
      refine (lawSame Nd.zero Nd.zero _ _ _ (Nd.rd_shut (t := Nd.zero) (by simp [Nd.zero, Nd.id]) (by simp [Nd.zero, Nd.id]) (Nat.zero_le _) (Nat.zero_le _) ⟨_, 0, rfl, Nat.le_refl _, by simp [maxLen], fun h => absurd rfl h⟩ ⟨_, 0, rfl, Nat.le_refl _, by simp [maxLen], fun h => absurd rfl h⟩) (zero_rd _)).mono ?_
      rintro e w7 ⟨r, rfl, rfl, hE7⟩
      go_wp2_with fail
      refine (lawRight (.mk 0 true ⟨#[]⟩ [] ⟨#[]⟩ []) _ _ _ (leaf_rd w7 0 true ⟨#[]⟩ ⟨#[]⟩ (by omega) (by omega) (Nat.zero_le _) (Nat.zero_le _)) (Nat.zero_le _)).mono ?_
      rintro e w8 ⟨r, rfl, rfl, hE8⟩
      go_wp2_with fail
      refine (works_any w8).mono ?_
      rintro e w9 ⟨r, rfl, rfl, hE9⟩
      go_wp2_with fail
      go_ret
      exact ret_bool (by rfl) (((((HEr.alloc _).alloc _).trans hE7).trans hE8).trans hE9)
end Go.Proofs.Ytamkgdkoddoehaa.Bw
