/- Lemmas and walks for the claims of chapter 06: LawSame. No conditions beside those that stand in each lemma. -/
import Derived.Test.YtamkgdkoddoehaaBwWorks2
import Derived.Test.YtamkgdkoddoehaaBwWeighWalk
import Derived.Test.YtamkgdkoddoehaaBwRSame
import Derived.Test.YtamkgdkoddoehaaBwRAlike
import Derived.Test.YtamkgdkoddoehaaBwSame2
import Derived.Deep.RegionHeld3
namespace Go.Proofs.Ytamkgdkoddoehaa.Bw
open Go.RowKit

theorem Same_aa (a : Nd) (u : Value) (w : World) (ha : a.rd w u) : Calls Try.prog 31 #[u, u] w (Ret w fun r _ => r = .bool true) := by
  have := Same_any a a u u w ha ha
  rw [Nd.same_refl] at this
  exact this
theorem Alike_aa (a : Nd) (u : Value) (w : World) (ha : a.rd w u) : Calls Try.prog 32 #[u, u] w (Ret w fun r _ => r = .bool true) := by
  have := Alike_any a a u u w ha ha
  rw [Nd.same_refl] at this
  exact this

set_option maxRecDepth 100000 in
set_option maxHeartbeats 2000000 in
theorem lawSame (a b : Nd) (u v : Value) (w : World) (ha : a.rd w u) (hb : b.rd w v) : Calls Try.prog 7 #[u, v] w (Ret w fun r _ => r = .bool true) := by
  obtain ⟨av, kv, rfl, _, _, _, _, ⟨aA, ac, rfl, _⟩, ⟨kA, kc, rfl, _⟩⟩ := Nd.rd_open ha
  obtain ⟨bv, lv, rfl, _, _, _, _, ⟨bA, bc, rfl, _⟩, ⟨lA, lc, rfl, _⟩⟩ := Nd.rd_open hb
  obtain ⟨w1, hw1⟩ : ∃ w1, (w.alloc (.cells #[.int .u64 a.id, .bool a.leaf, .string a.label, .slice aA a.attrs.length ac, .string a.text, .slice kA a.kids.length kc] 26)).alloc (.cells #[.int .u64 b.id, .bool b.leaf, .string b.label, .slice bA b.attrs.length bc, .string b.text, .slice lA b.kids.length lc] 26) = w1 := ⟨_, rfl⟩
  have hE1 : Ext w w1 := by rw [← hw1]; exact ((Ext.refl w).alloc _).alloc _
  have hbx : NBox w1 w.heap.size 26 #[.int .u64 a.id, .bool a.leaf, .string a.label, .slice aA a.attrs.length ac, .string a.text, .slice kA a.kids.length kc] := by rw [← hw1]; exact NBox.ext ((Ext.refl _).alloc _) (NBox.new _ _ _)
  have hby : NBox w1 (w.heap.size + 1) 26 #[.int .u64 b.id, .bool b.leaf, .string b.label, .slice bA b.attrs.length bc, .string b.text, .slice lA b.kids.length lc] := by rw [← hw1]; simpa using NBox.new (w.alloc (.cells #[.int .u64 a.id, .bool a.leaf, .string a.label, .slice aA a.attrs.length ac, .string a.text, .slice kA a.kids.length kc] 26)) 26 #[.int .u64 b.id, .bool b.leaf, .string b.label, .slice bA b.attrs.length bc, .string b.text, .slice lA b.kids.length lc]
  have hwa := weigh_any a.cnt a _ 1000 w1 (Nat.le_refl _) (Nd.rd_ext hE1 ha) (by omega) (by omega)
  have hla := Nd.weigh_le a 1000 (by omega)
  have hlb := Nd.weigh_le b 1000 (by omega)
  have H1 := Lib.hid hw1
  clear hw1
  go_enter Try.func7, Try.ntmps7
  rcases Int.lt_or_le 1000 (a.weigh 1000) with h1 | h1
  · go_wp2_with fail
    rw [H1.out]
    refine hwa.mono ?_
    clear hwa
    rintro e w2 ⟨r, rfl, rfl, hE2⟩
    go_wp2_with fail
    refine (works_any w2).mono ?_
    rintro e w9 ⟨r, rfl, rfl, hE9⟩
    go_wp2_with fail
    go_ret
    exact ret_bool (by rfl) ((hE1.trans hE2).trans hE9)
  · go_wp2_with fail
    rw [H1.out]
    refine hwa.mono ?_
    clear hwa
    rintro e w0 ⟨r, rfl, rfl, hE2⟩
    replace hbx := hbx.ext hE2
    replace hby := hby.ext hE2
    have HE := hE1.trans hE2
    replace ha := Nd.rd_ext HE ha
    replace hb := Nd.rd_ext HE hb
    clear H1 hE1 hE2
    have hwb := weigh_any b.cnt b _ 1000 w0 (Nat.le_refl _) hb (by omega) (by omega)
    obtain ⟨e10, e11, e12, e13, e14, e15⟩ := NBox.six hby
    rcases Int.lt_or_le 1000 (b.weigh 1000) with h2 | h2
    · go_wp2_with fail
      refine hwb.mono ?_
      clear hwb e10 e11 e12 e13 e14 e15
      rintro e w2 ⟨r, rfl, rfl, hE2⟩
      go_wp2_with fail
      refine (works_any w2).mono ?_
      rintro e w9 ⟨r, rfl, rfl, hE9⟩
      go_wp2_with fail
      go_ret
      exact ret_bool (by rfl) ((HE.trans hE2).trans hE9)
    · go_wp2_with fail
      refine hwb.mono ?_
      clear hwb e10 e11 e12 e13 e14 e15
      rintro e w2 ⟨r, rfl, rfl, hE2⟩
      replace hbx := hbx.ext hE2
      replace hby := hby.ext hE2
      replace HE := HE.trans hE2
      replace ha := Nd.rd_ext hE2 ha
      replace hb := Nd.rd_ext hE2 hb
      clear hE2
      go_wp2_with fail
      have hcase : (a.same true b = true ∧ a.same false b = true) ∨ (a.same true b = false ∧ ∃ z, a.same false b = z) := by
        rcases hq : a.same true b with _ | _
        · exact .inr ⟨rfl, _, rfl⟩
        · exact .inl ⟨rfl, Nd.same_weaken a b hq⟩
      rcases hcase with ⟨q1, q2⟩ | ⟨q1, z, q2⟩
      · have hs1 : ∀ W, Ext w2 W → Calls Try.prog 31 #[.agg #[.int .u64 a.id, .bool a.leaf, .string a.label, .slice aA a.attrs.length ac, .string a.text, .slice kA a.kids.length kc], .agg #[.int .u64 b.id, .bool b.leaf, .string b.label, .slice bA b.attrs.length bc, .string b.text, .slice lA b.kids.length lc]] W (Ret W fun r _ => r = .bool true) := fun W h => by
          have := Same_any a b _ _ W (Nd.rd_ext h ha) (Nd.rd_ext h hb)
          rw [q1] at this
          exact this
        have hs2 : ∀ W, Ext w2 W → Calls Try.prog 30 #[.agg #[.int .u64 a.id, .bool a.leaf, .string a.label, .slice aA a.attrs.length ac, .string a.text, .slice kA a.kids.length kc], .agg #[.int .u64 b.id, .bool b.leaf, .string b.label, .slice bA b.attrs.length bc, .string b.text, .slice lA b.kids.length lc]] W (Ret W fun r _ => r = .bool true) := fun W h => by
          have := rsame_any a.cnt a b _ _ W (Nat.le_refl _) (Nd.rd_ext h ha) (Nd.rd_ext h hb)
          rw [q1] at this
          exact this
        have hs3 : ∀ W, Ext w2 W → Calls Try.prog 32 #[.agg #[.int .u64 a.id, .bool a.leaf, .string a.label, .slice aA a.attrs.length ac, .string a.text, .slice kA a.kids.length kc], .agg #[.int .u64 b.id, .bool b.leaf, .string b.label, .slice bA b.attrs.length bc, .string b.text, .slice lA b.kids.length lc]] W (Ret W fun r _ => r = .bool true) := fun W h => by
          have := Alike_any a b _ _ W (Nd.rd_ext h ha) (Nd.rd_ext h hb)
          rw [q2] at this
          exact this
        have hs4 : ∀ W, Ext w2 W → Calls Try.prog 33 #[.agg #[.int .u64 a.id, .bool a.leaf, .string a.label, .slice aA a.attrs.length ac, .string a.text, .slice kA a.kids.length kc], .agg #[.int .u64 b.id, .bool b.leaf, .string b.label, .slice bA b.attrs.length bc, .string b.text, .slice lA b.kids.length lc]] W (Ret W fun r _ => r = .bool true) := fun W h => by
          have := ralike_any a.cnt a b _ _ W (Nat.le_refl _) (Nd.rd_ext h ha) (Nd.rd_ext h hb)
          rw [q2] at this
          exact this
        have hs5 : ∀ W, Ext w2 W → Calls Try.prog 31 #[.agg #[.int .u64 a.id, .bool a.leaf, .string a.label, .slice aA a.attrs.length ac, .string a.text, .slice kA a.kids.length kc], .agg #[.int .u64 a.id, .bool a.leaf, .string a.label, .slice aA a.attrs.length ac, .string a.text, .slice kA a.kids.length kc]] W (Ret W fun r _ => r = .bool true) := fun W h => by
          have := Same_aa a _ W (Nd.rd_ext h ha)
          exact this
        have hs6 : ∀ W, Ext w2 W → Calls Try.prog 32 #[.agg #[.int .u64 b.id, .bool b.leaf, .string b.label, .slice bA b.attrs.length bc, .string b.text, .slice lA b.kids.length lc], .agg #[.int .u64 b.id, .bool b.leaf, .string b.label, .slice bA b.attrs.length bc, .string b.text, .slice lA b.kids.length lc]] W (Ret W fun r _ => r = .bool true) := fun W h => by
          have := Alike_aa b _ W (Nd.rd_ext h hb)
          exact this
        have hc11 : ∀ W, Ext w2 W → Calls Try.prog 11 #[] W (Ret W fun r _ => r = .bool true) := fun W h => works_any W
        clear q1 q2
        go_region_held3 (fun W => Ext w2 W ∧ W.cell? ⟨w.heap.size, 0, none⟩ = some (.int .u64 a.id) ∧ W.cell? ⟨w.heap.size, 1, none⟩ = some (.bool a.leaf) ∧ W.cell? ⟨w.heap.size, 2, none⟩ = some (.string a.label) ∧ W.cell? ⟨w.heap.size, 3, none⟩ = some (.slice aA a.attrs.length ac) ∧ W.cell? ⟨w.heap.size, 4, none⟩ = some (.string a.text) ∧ W.cell? ⟨w.heap.size, 5, none⟩ = some (.slice kA a.kids.length kc) ∧ W.cell? ⟨w.heap.size + 1, 0, none⟩ = some (.int .u64 b.id) ∧ W.cell? ⟨w.heap.size + 1, 1, none⟩ = some (.bool b.leaf) ∧ W.cell? ⟨w.heap.size + 1, 2, none⟩ = some (.string b.label) ∧ W.cell? ⟨w.heap.size + 1, 3, none⟩ = some (.slice bA b.attrs.length bc) ∧ W.cell? ⟨w.heap.size + 1, 4, none⟩ = some (.string b.text) ∧ W.cell? ⟨w.heap.size + 1, 5, none⟩ = some (.slice lA b.kids.length lc)) (first | exact ⟨(Ext.refl w2).drew, hbx.cell 0, hbx.cell 1, hbx.cell 2, hbx.cell 3, hbx.cell 4, hbx.cell 5, hby.cell 0, hby.cell 1, hby.cell 2, hby.cell 3, hby.cell 4, hby.cell 5⟩ | exact ⟨E2, E2.cell (hbx.cell 0), E2.cell (hbx.cell 1), E2.cell (hbx.cell 2), E2.cell (hbx.cell 3), E2.cell (hbx.cell 4), E2.cell (hbx.cell 5), E2.cell (hby.cell 0), E2.cell (hby.cell 1), E2.cell (hby.cell 2), E2.cell (hby.cell 3), E2.cell (hby.cell 4), E2.cell (hby.cell 5)⟩) (first | (go_at_call 31; have hh := ‹Ext w2 _ ∧ _ ∧ _ ∧ _ ∧ _ ∧ _ ∧ _ ∧ _ ∧ _ ∧ _ ∧ _ ∧ _ ∧ _›; refine (hs1 _ hh.1).mono ?_; rintro e u ⟨r, rfl, rfl, hE⟩; have E2 := Ext.trans hh.1 hE; clear hE) | (go_at_call 30; have hh := ‹Ext w2 _ ∧ _ ∧ _ ∧ _ ∧ _ ∧ _ ∧ _ ∧ _ ∧ _ ∧ _ ∧ _ ∧ _ ∧ _›; refine (hs2 _ hh.1).mono ?_; rintro e u ⟨r, rfl, rfl, hE⟩; have E2 := Ext.trans hh.1 hE; clear hE) | (go_at_call 32; have hh := ‹Ext w2 _ ∧ _ ∧ _ ∧ _ ∧ _ ∧ _ ∧ _ ∧ _ ∧ _ ∧ _ ∧ _ ∧ _ ∧ _›; refine (hs3 _ hh.1).mono ?_; rintro e u ⟨r, rfl, rfl, hE⟩; have E2 := Ext.trans hh.1 hE; clear hE) | (go_at_call 33; have hh := ‹Ext w2 _ ∧ _ ∧ _ ∧ _ ∧ _ ∧ _ ∧ _ ∧ _ ∧ _ ∧ _ ∧ _ ∧ _ ∧ _›; refine (hs4 _ hh.1).mono ?_; rintro e u ⟨r, rfl, rfl, hE⟩; have E2 := Ext.trans hh.1 hE; clear hE) | (go_at_call 31; have hh := ‹Ext w2 _ ∧ _ ∧ _ ∧ _ ∧ _ ∧ _ ∧ _ ∧ _ ∧ _ ∧ _ ∧ _ ∧ _ ∧ _›; refine (hs5 _ hh.1).mono ?_; rintro e u ⟨r, rfl, rfl, hE⟩; have E2 := Ext.trans hh.1 hE; clear hE) | (go_at_call 32; have hh := ‹Ext w2 _ ∧ _ ∧ _ ∧ _ ∧ _ ∧ _ ∧ _ ∧ _ ∧ _ ∧ _ ∧ _ ∧ _ ∧ _›; refine (hs6 _ hh.1).mono ?_; rintro e u ⟨r, rfl, rfl, hE⟩; have E2 := Ext.trans hh.1 hE; clear hE) | (go_at_call 11; have hh := ‹Ext w2 _ ∧ _ ∧ _ ∧ _ ∧ _ ∧ _ ∧ _ ∧ _ ∧ _ ∧ _ ∧ _ ∧ _ ∧ _›; refine (hc11 _ hh.1).mono ?_; rintro e u ⟨r, rfl, rfl, hE⟩; have E2 := Ext.trans hh.1 hE; clear hE))
        go_wp2_with fail
        go_ret
        exact ret_bool (by rfl) (HE.trans ‹Ext w2 _ ∧ _ ∧ _ ∧ _ ∧ _ ∧ _ ∧ _ ∧ _ ∧ _ ∧ _ ∧ _ ∧ _ ∧ _›.1)
      · have hs1 : ∀ W, Ext w2 W → Calls Try.prog 31 #[.agg #[.int .u64 a.id, .bool a.leaf, .string a.label, .slice aA a.attrs.length ac, .string a.text, .slice kA a.kids.length kc], .agg #[.int .u64 b.id, .bool b.leaf, .string b.label, .slice bA b.attrs.length bc, .string b.text, .slice lA b.kids.length lc]] W (Ret W fun r _ => r = .bool false) := fun W h => by
          have := Same_any a b _ _ W (Nd.rd_ext h ha) (Nd.rd_ext h hb)
          rw [q1] at this
          exact this
        have hs2 : ∀ W, Ext w2 W → Calls Try.prog 30 #[.agg #[.int .u64 a.id, .bool a.leaf, .string a.label, .slice aA a.attrs.length ac, .string a.text, .slice kA a.kids.length kc], .agg #[.int .u64 b.id, .bool b.leaf, .string b.label, .slice bA b.attrs.length bc, .string b.text, .slice lA b.kids.length lc]] W (Ret W fun r _ => r = .bool false) := fun W h => by
          have := rsame_any a.cnt a b _ _ W (Nat.le_refl _) (Nd.rd_ext h ha) (Nd.rd_ext h hb)
          rw [q1] at this
          exact this
        have hs3 : ∀ W, Ext w2 W → Calls Try.prog 32 #[.agg #[.int .u64 a.id, .bool a.leaf, .string a.label, .slice aA a.attrs.length ac, .string a.text, .slice kA a.kids.length kc], .agg #[.int .u64 b.id, .bool b.leaf, .string b.label, .slice bA b.attrs.length bc, .string b.text, .slice lA b.kids.length lc]] W (Ret W fun r _ => r = .bool z) := fun W h => by
          have := Alike_any a b _ _ W (Nd.rd_ext h ha) (Nd.rd_ext h hb)
          rw [q2] at this
          exact this
        have hs4 : ∀ W, Ext w2 W → Calls Try.prog 33 #[.agg #[.int .u64 a.id, .bool a.leaf, .string a.label, .slice aA a.attrs.length ac, .string a.text, .slice kA a.kids.length kc], .agg #[.int .u64 b.id, .bool b.leaf, .string b.label, .slice bA b.attrs.length bc, .string b.text, .slice lA b.kids.length lc]] W (Ret W fun r _ => r = .bool z) := fun W h => by
          have := ralike_any a.cnt a b _ _ W (Nat.le_refl _) (Nd.rd_ext h ha) (Nd.rd_ext h hb)
          rw [q2] at this
          exact this
        have hs5 : ∀ W, Ext w2 W → Calls Try.prog 31 #[.agg #[.int .u64 a.id, .bool a.leaf, .string a.label, .slice aA a.attrs.length ac, .string a.text, .slice kA a.kids.length kc], .agg #[.int .u64 a.id, .bool a.leaf, .string a.label, .slice aA a.attrs.length ac, .string a.text, .slice kA a.kids.length kc]] W (Ret W fun r _ => r = .bool true) := fun W h => by
          have := Same_aa a _ W (Nd.rd_ext h ha)
          exact this
        have hs6 : ∀ W, Ext w2 W → Calls Try.prog 32 #[.agg #[.int .u64 b.id, .bool b.leaf, .string b.label, .slice bA b.attrs.length bc, .string b.text, .slice lA b.kids.length lc], .agg #[.int .u64 b.id, .bool b.leaf, .string b.label, .slice bA b.attrs.length bc, .string b.text, .slice lA b.kids.length lc]] W (Ret W fun r _ => r = .bool true) := fun W h => by
          have := Alike_aa b _ W (Nd.rd_ext h hb)
          exact this
        have hc11 : ∀ W, Ext w2 W → Calls Try.prog 11 #[] W (Ret W fun r _ => r = .bool true) := fun W h => works_any W
        clear q1 q2
        have zz : (z == z) = true := by cases z <;> rfl
        refine wp_region_held_drew (S := (fun W => Ext w2 W ∧ W.cell? ⟨w.heap.size, 0, none⟩ = some (.int .u64 a.id) ∧ W.cell? ⟨w.heap.size, 1, none⟩ = some (.bool a.leaf) ∧ W.cell? ⟨w.heap.size, 2, none⟩ = some (.string a.label) ∧ W.cell? ⟨w.heap.size, 3, none⟩ = some (.slice aA a.attrs.length ac) ∧ W.cell? ⟨w.heap.size, 4, none⟩ = some (.string a.text) ∧ W.cell? ⟨w.heap.size, 5, none⟩ = some (.slice kA a.kids.length kc) ∧ W.cell? ⟨w.heap.size + 1, 0, none⟩ = some (.int .u64 b.id) ∧ W.cell? ⟨w.heap.size + 1, 1, none⟩ = some (.bool b.leaf) ∧ W.cell? ⟨w.heap.size + 1, 2, none⟩ = some (.string b.label) ∧ W.cell? ⟨w.heap.size + 1, 3, none⟩ = some (.slice bA b.attrs.length bc) ∧ W.cell? ⟨w.heap.size + 1, 4, none⟩ = some (.string b.text) ∧ W.cell? ⟨w.heap.size + 1, 5, none⟩ = some (.slice lA b.kids.length lc))) (by kernel_rfl) ?_ (fun hHeld => ?_)
        · exact ⟨(Ext.refl w2).drew, hbx.cell 0, hbx.cell 1, hbx.cell 2, hbx.cell 3, hbx.cell 4, hbx.cell 5, hby.cell 0, hby.cell 1, hby.cell 2, hby.cell 3, hby.cell 4, hby.cell 5⟩
        refine wpAnyH_take (i := 0) (oi := ⟨_, _, _, _, _, _⟩) (v := ?_) rfl (by kernel_rfl) (by kernel_rfl) (by kernel_rfl) (fun _ _ _ h => h) (Or.inl ⟨by rfl, ?_⟩) hHeld ?_
        rotate_left
        · intro w hSw
          try dsimp only at hSw
          go_simp
          all_goals with_reducible rfl
        try simp only [Act.put, List.setIfInBounds_toArray, List.set_cons_zero, List.set_cons_succ]
        refine wpAnyH_take (i := 1) (oi := ⟨_, _, _, _, _, _⟩) (v := ?_) rfl (by kernel_rfl) (by kernel_rfl) (by kernel_rfl) (fun _ _ _ h => h) (Or.inl ⟨by rfl, ?_⟩) hHeld ?_
        rotate_left
        · intro w hSw
          try dsimp only at hSw
          go_simp
          all_goals with_reducible rfl
        try simp only [Act.put, List.setIfInBounds_toArray, List.set_cons_zero, List.set_cons_succ]
        refine wpAnyH_take (i := 3) (oi := ⟨_, _, _, _, _, _⟩) (v := ?_) rfl (by kernel_rfl) (by kernel_rfl) (by kernel_rfl) (fun _ _ _ h => h) (Or.inl ⟨by rfl, ?_⟩) hHeld ?_
        rotate_left
        · intro w hSw
          try dsimp only at hSw
          go_simp
          all_goals with_reducible rfl
        try simp only [Act.put, List.setIfInBounds_toArray, List.set_cons_zero, List.set_cons_succ]
        refine wpAnyH_take (i := 4) (oi := ⟨_, _, _, _, _, _⟩) (v := ?_) rfl (by kernel_rfl) (by kernel_rfl) (by kernel_rfl) (fun _ _ _ h => h) (Or.inl ⟨by rfl, ?_⟩) hHeld ?_
        rotate_left
        · intro w hSw
          try dsimp only at hSw
          go_simp
          all_goals with_reducible rfl
        try simp only [Act.put, List.setIfInBounds_toArray, List.set_cons_zero, List.set_cons_succ]
        refine wpAnyH_ready (rs := [2]) (by kernel_rfl) (by simp) ?_
        refine AllReadyH.cons (o := ⟨_, _, _, _, _, _⟩) rfl (fun K' hK => ?_) AllReadyH.nil
        go_simp
        go_at_call 31
        refine (hs1 _ hHeld.1).mono ?_
        rintro e u ⟨r, rfl, rfl, hE⟩
        have E2 := Ext.trans hHeld.1 hE
        clear hE hHeld
        refine hK.out _ _ ?_ (fun hHeld => ?_)
        · exact ⟨E2, E2.cell (hbx.cell 0), E2.cell (hbx.cell 1), E2.cell (hbx.cell 2), E2.cell (hbx.cell 3), E2.cell (hbx.cell 4), E2.cell (hbx.cell 5), E2.cell (hby.cell 0), E2.cell (hby.cell 1), E2.cell (hby.cell 2), E2.cell (hby.cell 3), E2.cell (hby.cell 4), E2.cell (hby.cell 5)⟩
        clear hK K'
        try simp only [Act.put, List.setIfInBounds_toArray, List.set_cons_zero, List.set_cons_succ]
        refine wpAnyH_ready (rs := [5]) (by kernel_rfl) (by simp) ?_
        refine AllReadyH.cons (o := ⟨_, _, _, _, _, _⟩) rfl (fun K' hK => ?_) AllReadyH.nil
        go_simp
        go_at_call 30
        refine (hs2 _ hHeld.1).mono ?_
        rintro e u ⟨r, rfl, rfl, hE⟩
        have E2 := Ext.trans hHeld.1 hE
        clear hE hHeld
        refine hK.out _ _ ?_ (fun hHeld => ?_)
        · exact ⟨E2, E2.cell (hbx.cell 0), E2.cell (hbx.cell 1), E2.cell (hbx.cell 2), E2.cell (hbx.cell 3), E2.cell (hbx.cell 4), E2.cell (hbx.cell 5), E2.cell (hby.cell 0), E2.cell (hby.cell 1), E2.cell (hby.cell 2), E2.cell (hby.cell 3), E2.cell (hby.cell 4), E2.cell (hby.cell 5)⟩
        clear hK K'
        try simp only [Act.put, List.setIfInBounds_toArray, List.set_cons_zero, List.set_cons_succ]
        refine wpAnyH_take (i := 6) (oi := ⟨_, _, _, _, _, _⟩) (v := ?_) rfl (by kernel_rfl) (by kernel_rfl) (by kernel_rfl) (fun _ _ _ h => h) (Or.inl ⟨by rfl, ?_⟩) hHeld ?_
        rotate_left
        · intro w hSw
          try dsimp only at hSw
          go_simp
          all_goals with_reducible rfl
        try simp only [Act.put, List.setIfInBounds_toArray, List.set_cons_zero, List.set_cons_succ]
        refine wpAnyH_take (i := 7) (oi := ⟨_, _, _, _, _, _⟩) (v := ?_) rfl (by kernel_rfl) (by kernel_rfl) (by kernel_rfl) (fun _ _ _ h => h) (Or.inl ⟨by rfl, ?_⟩) hHeld ?_
        rotate_left
        · intro w hSw
          try dsimp only at hSw
          go_simp
          all_goals with_reducible rfl
        try simp only [Act.put, List.setIfInBounds_toArray, List.set_cons_zero, List.set_cons_succ]
        refine wpAnyH_take (i := 8) (oi := ⟨_, _, _, _, _, _⟩) (v := ?_) rfl (by kernel_rfl) (by kernel_rfl) (by kernel_rfl) (fun _ _ _ h => h) (Or.inl ⟨by rfl, ?_⟩) hHeld ?_
        rotate_left
        · intro w hSw
          try dsimp only at hSw
          go_simp
          all_goals with_reducible rfl
        try simp only [Act.put, List.setIfInBounds_toArray, List.set_cons_zero, List.set_cons_succ]
        refine wpAnyH_take (i := 9) (oi := ⟨_, _, _, _, _, _⟩) (v := ?_) rfl (by kernel_rfl) (by kernel_rfl) (by kernel_rfl) (fun _ _ _ h => h) (Or.inl ⟨by rfl, ?_⟩) hHeld ?_
        rotate_left
        · intro w hSw
          try dsimp only at hSw
          go_simp
          all_goals with_reducible rfl
        try simp only [Act.put, List.setIfInBounds_toArray, List.set_cons_zero, List.set_cons_succ]
        refine wpAnyH_take (i := 11) (oi := ⟨_, _, _, _, _, _⟩) (v := ?_) rfl (by kernel_rfl) (by kernel_rfl) (by kernel_rfl) (fun _ _ _ h => h) (Or.inl ⟨by rfl, ?_⟩) hHeld ?_
        rotate_left
        · intro w hSw
          try dsimp only at hSw
          go_simp
          all_goals with_reducible rfl
        try simp only [Act.put, List.setIfInBounds_toArray, List.set_cons_zero, List.set_cons_succ]
        refine wpAnyH_take (i := 12) (oi := ⟨_, _, _, _, _, _⟩) (v := ?_) rfl (by kernel_rfl) (by kernel_rfl) (by kernel_rfl) (fun _ _ _ h => h) (Or.inl ⟨by rfl, ?_⟩) hHeld ?_
        rotate_left
        · intro w hSw
          try dsimp only at hSw
          go_simp
          all_goals with_reducible rfl
        try simp only [Act.put, List.setIfInBounds_toArray, List.set_cons_zero, List.set_cons_succ]
        refine wpAnyH_ready (rs := [10]) (by kernel_rfl) (by simp) ?_
        refine AllReadyH.cons (o := ⟨_, _, _, _, _, _⟩) rfl (fun K' hK => ?_) AllReadyH.nil
        go_simp
        go_at_call 32
        refine (hs3 _ hHeld.1).mono ?_
        rintro e u ⟨r, rfl, rfl, hE⟩
        have E2 := Ext.trans hHeld.1 hE
        clear hE hHeld
        refine hK.out _ _ ?_ (fun hHeld => ?_)
        · exact ⟨E2, E2.cell (hbx.cell 0), E2.cell (hbx.cell 1), E2.cell (hbx.cell 2), E2.cell (hbx.cell 3), E2.cell (hbx.cell 4), E2.cell (hbx.cell 5), E2.cell (hby.cell 0), E2.cell (hby.cell 1), E2.cell (hby.cell 2), E2.cell (hby.cell 3), E2.cell (hby.cell 4), E2.cell (hby.cell 5)⟩
        clear hK K'
        try simp only [Act.put, List.setIfInBounds_toArray, List.set_cons_zero, List.set_cons_succ]
        refine wpAnyH_ready (rs := [13]) (by kernel_rfl) (by simp) ?_
        refine AllReadyH.cons (o := ⟨_, _, _, _, _, _⟩) rfl (fun K' hK => ?_) AllReadyH.nil
        go_simp
        go_at_call 33
        refine (hs4 _ hHeld.1).mono ?_
        rintro e u ⟨r, rfl, rfl, hE⟩
        have E2 := Ext.trans hHeld.1 hE
        clear hE hHeld
        refine hK.out _ _ ?_ (fun hHeld => ?_)
        · exact ⟨E2, E2.cell (hbx.cell 0), E2.cell (hbx.cell 1), E2.cell (hbx.cell 2), E2.cell (hbx.cell 3), E2.cell (hbx.cell 4), E2.cell (hbx.cell 5), E2.cell (hby.cell 0), E2.cell (hby.cell 1), E2.cell (hby.cell 2), E2.cell (hby.cell 3), E2.cell (hby.cell 4), E2.cell (hby.cell 5)⟩
        clear hK K'
        try simp only [Act.put, List.setIfInBounds_toArray, List.set_cons_zero, List.set_cons_succ]
        refine wpAnyH_take (i := 14) (oi := ⟨_, _, _, _, _, _⟩) (v := ?_) rfl (by kernel_rfl) (by kernel_rfl) (by kernel_rfl) (fun _ _ _ h => h) (Or.inl ⟨by rfl, ?_⟩) hHeld ?_
        rotate_left
        · intro w hSw
          try dsimp only at hSw
          go_simp
          all_goals with_reducible rfl
        try simp only [Act.put, List.setIfInBounds_toArray, List.set_cons_zero, List.set_cons_succ]
        refine wpAnyH_take (i := 15) (oi := ⟨_, _, _, _, _, _⟩) (v := ?_) rfl (by kernel_rfl) (by kernel_rfl) (by kernel_rfl) (fun _ _ _ h => h) (Or.inl ⟨by rfl, ?_⟩) hHeld ?_
        rotate_left
        · intro w hSw
          try dsimp only at hSw
          go_simp
          all_goals with_reducible rfl
        try simp only [Act.put, List.setIfInBounds_toArray, List.set_cons_zero, List.set_cons_succ]
        refine wpAnyH_take (i := 16) (oi := ⟨_, _, _, _, _, _⟩) (v := ?_) rfl (by kernel_rfl) (by kernel_rfl) (by kernel_rfl) (fun _ _ _ h => h) (Or.inl ⟨by rfl, ?_⟩) hHeld ?_
        rotate_left
        · intro w hSw
          try dsimp only at hSw
          go_simp
          all_goals with_reducible rfl
        try simp only [Act.put, List.setIfInBounds_toArray, List.set_cons_zero, List.set_cons_succ]
        refine wpAnyH_take (i := 17) (oi := ⟨_, _, _, _, _, _⟩) (v := ?_) rfl (by kernel_rfl) (by kernel_rfl) (by kernel_rfl) (fun _ _ _ h => h) (Or.inl ⟨by rfl, ?_⟩) hHeld ?_
        rotate_left
        · intro w hSw
          try dsimp only at hSw
          go_simp
          all_goals with_reducible rfl
        try simp only [Act.put, List.setIfInBounds_toArray, List.set_cons_zero, List.set_cons_succ]
        refine wpAnyH_take (i := 18) (oi := ⟨_, _, _, _, _, _⟩) (v := ?_) rfl (by kernel_rfl) (by kernel_rfl) (by kernel_rfl) (fun _ _ _ h => h) (Or.inl ⟨by rfl, ?_⟩) hHeld ?_
        rotate_left
        · intro w hSw
          try dsimp only at hSw
          go_simp
          all_goals with_reducible rfl
        try simp only [Act.put, List.setIfInBounds_toArray, List.set_cons_zero, List.set_cons_succ]
        refine wpAnyH_ready (rs := [19]) (by kernel_rfl) (by simp) ?_
        refine AllReadyH.cons (o := ⟨_, _, _, _, _, _⟩) rfl (fun K' hK => ?_) AllReadyH.nil
        go_simp
        go_at_call 31
        refine (hs5 _ hHeld.1).mono ?_
        rintro e u ⟨r, rfl, rfl, hE⟩
        have E2 := Ext.trans hHeld.1 hE
        clear hE hHeld
        refine hK.out _ _ ?_ (fun hHeld => ?_)
        · exact ⟨E2, E2.cell (hbx.cell 0), E2.cell (hbx.cell 1), E2.cell (hbx.cell 2), E2.cell (hbx.cell 3), E2.cell (hbx.cell 4), E2.cell (hbx.cell 5), E2.cell (hby.cell 0), E2.cell (hby.cell 1), E2.cell (hby.cell 2), E2.cell (hby.cell 3), E2.cell (hby.cell 4), E2.cell (hby.cell 5)⟩
        clear hK K'
        try simp only [Act.put, List.setIfInBounds_toArray, List.set_cons_zero, List.set_cons_succ]
        refine wpAnyH_take (i := 20) (oi := ⟨_, _, _, _, _, _⟩) (v := ?_) rfl (by kernel_rfl) (by kernel_rfl) (by kernel_rfl) (fun _ _ _ h => h) (Or.inl ⟨by rfl, ?_⟩) hHeld ?_
        rotate_left
        · intro w hSw
          try dsimp only at hSw
          go_simp
          all_goals with_reducible rfl
        try simp only [Act.put, List.setIfInBounds_toArray, List.set_cons_zero, List.set_cons_succ]
        refine wpAnyH_take (i := 21) (oi := ⟨_, _, _, _, _, _⟩) (v := ?_) rfl (by kernel_rfl) (by kernel_rfl) (by kernel_rfl) (fun _ _ _ h => h) (Or.inl ⟨by rfl, ?_⟩) hHeld ?_
        rotate_left
        · intro w hSw
          try dsimp only at hSw
          go_simp
          all_goals with_reducible rfl
        try simp only [Act.put, List.setIfInBounds_toArray, List.set_cons_zero, List.set_cons_succ]
        refine wpAnyH_take (i := 22) (oi := ⟨_, _, _, _, _, _⟩) (v := ?_) rfl (by kernel_rfl) (by kernel_rfl) (by kernel_rfl) (fun _ _ _ h => h) (Or.inl ⟨by rfl, ?_⟩) hHeld ?_
        rotate_left
        · intro w hSw
          try dsimp only at hSw
          go_simp
          all_goals with_reducible rfl
        try simp only [Act.put, List.setIfInBounds_toArray, List.set_cons_zero, List.set_cons_succ]
        refine wpAnyH_take (i := 23) (oi := ⟨_, _, _, _, _, _⟩) (v := ?_) rfl (by kernel_rfl) (by kernel_rfl) (by kernel_rfl) (fun _ _ _ h => h) (Or.inl ⟨by rfl, ?_⟩) hHeld ?_
        rotate_left
        · intro w hSw
          try dsimp only at hSw
          go_simp
          all_goals with_reducible rfl
        try simp only [Act.put, List.setIfInBounds_toArray, List.set_cons_zero, List.set_cons_succ]
        refine wpAnyH_ready (rs := [24]) (by kernel_rfl) (by simp) ?_
        refine AllReadyH.cons (o := ⟨_, _, _, _, _, _⟩) rfl (fun K' hK => ?_) AllReadyH.nil
        go_simp
        go_at_call 32
        refine (hs6 _ hHeld.1).mono ?_
        rintro e u ⟨r, rfl, rfl, hE⟩
        have E2 := Ext.trans hHeld.1 hE
        clear hE hHeld
        refine hK.out _ _ ?_ (fun hHeld => ?_)
        · exact ⟨E2, E2.cell (hbx.cell 0), E2.cell (hbx.cell 1), E2.cell (hbx.cell 2), E2.cell (hbx.cell 3), E2.cell (hbx.cell 4), E2.cell (hbx.cell 5), E2.cell (hby.cell 0), E2.cell (hby.cell 1), E2.cell (hby.cell 2), E2.cell (hby.cell 3), E2.cell (hby.cell 4), E2.cell (hby.cell 5)⟩
        clear hK K'
        try simp only [Act.put, List.setIfInBounds_toArray, List.set_cons_zero, List.set_cons_succ]
        refine wpAnyH_take (i := 25) (oi := ⟨_, _, _, _, _, _⟩) (v := ?_) rfl (by kernel_rfl) (by kernel_rfl) (by kernel_rfl) (fun _ _ _ h => h) (Or.inl ⟨by rfl, ?_⟩) hHeld ?_
        rotate_left
        · intro w hSw
          try dsimp only at hSw
          go_simp
          all_goals with_reducible rfl
        try simp only [Act.put, List.setIfInBounds_toArray, List.set_cons_zero, List.set_cons_succ]
        refine wpAnyH_take (i := 26) (oi := ⟨_, _, _, _, _, _⟩) (v := ?_) rfl (by kernel_rfl) (by kernel_rfl) (by kernel_rfl) (fun _ _ _ h => h) (Or.inl ⟨by rfl, ?_⟩) hHeld ?_
        rotate_left
        · intro w hSw
          try dsimp only at hSw
          go_simp
          all_goals with_reducible rfl
        try simp only [Act.put, List.setIfInBounds_toArray, List.set_cons_zero, List.set_cons_succ]
        refine wpAnyH_take (i := 27) (oi := ⟨_, _, _, _, _, _⟩) (v := ?_) rfl (by kernel_rfl) (by kernel_rfl) (by kernel_rfl) (fun _ _ _ h => h) (Or.inl ⟨by rfl, ?_⟩) hHeld ?_
        rotate_left
        · intro w hSw
          try dsimp only at hSw
          go_simp
          all_goals with_reducible rfl
        try simp only [Act.put, List.setIfInBounds_toArray, List.set_cons_zero, List.set_cons_succ]
        refine wpAnyH_take (i := 28) (oi := ⟨_, _, _, _, _, _⟩) (v := ?_) rfl (by kernel_rfl) (by kernel_rfl) (by kernel_rfl) (fun _ _ _ h => h) (Or.inl ⟨by rfl, ?_⟩) hHeld ?_
        rotate_left
        · intro w hSw
          try dsimp only at hSw
          go_simp
          all_goals with_reducible rfl
        try simp only [Act.put, List.setIfInBounds_toArray, List.set_cons_zero, List.set_cons_succ]
        refine wpAnyH_ready (rs := [29]) (by kernel_rfl) (by simp) ?_
        refine AllReadyH.cons (o := ⟨_, _, _, _, _, _⟩) rfl (fun K' hK => ?_) AllReadyH.nil
        go_simp
        go_at_call 31
        refine (hs1 _ hHeld.1).mono ?_
        rintro e u ⟨r, rfl, rfl, hE⟩
        have E2 := Ext.trans hHeld.1 hE
        clear hE hHeld
        refine hK.out _ _ ?_ (fun hHeld => ?_)
        · exact ⟨E2, E2.cell (hbx.cell 0), E2.cell (hbx.cell 1), E2.cell (hbx.cell 2), E2.cell (hbx.cell 3), E2.cell (hbx.cell 4), E2.cell (hbx.cell 5), E2.cell (hby.cell 0), E2.cell (hby.cell 1), E2.cell (hby.cell 2), E2.cell (hby.cell 3), E2.cell (hby.cell 4), E2.cell (hby.cell 5)⟩
        clear hK K'
        try simp only [Act.put, List.setIfInBounds_toArray, List.set_cons_zero, List.set_cons_succ]
        refine wpAnyH_take (i := 30) (oi := ⟨_, _, _, _, _, _⟩) (v := ?_) rfl (by kernel_rfl) (by kernel_rfl) (by kernel_rfl) (fun _ _ _ h => h) (Or.inl ⟨by rfl, ?_⟩) hHeld ?_
        rotate_left
        · intro w hSw
          try dsimp only at hSw
          go_simp
          all_goals with_reducible rfl
        try simp only [Act.put, List.setIfInBounds_toArray, List.set_cons_zero, List.set_cons_succ]
        refine wpAnyH_take (i := 31) (oi := ⟨_, _, _, _, _, _⟩) (v := ?_) rfl (by kernel_rfl) (by kernel_rfl) (by kernel_rfl) (fun _ _ _ h => h) (Or.inl ⟨by rfl, ?_⟩) hHeld ?_
        rotate_left
        · intro w hSw
          try dsimp only at hSw
          go_simp
          all_goals with_reducible rfl
        try simp only [Act.put, List.setIfInBounds_toArray, List.set_cons_zero, List.set_cons_succ]
        refine wpAnyH_take (i := 32) (oi := ⟨_, _, _, _, _, _⟩) (v := undef) rfl (by kernel_rfl) (by kernel_rfl) (by kernel_rfl) (fun _ _ _ h => h) (Or.inr ⟨by rfl, rfl⟩) hHeld ?_
        try simp only [Act.put, List.setIfInBounds_toArray, List.set_cons_zero, List.set_cons_succ]
        refine wpAnyH_take (i := 33) (oi := ⟨_, _, _, _, _, _⟩) (v := undef) rfl (by kernel_rfl) (by kernel_rfl) (by kernel_rfl) (fun _ _ _ h => h) (Or.inr ⟨by rfl, rfl⟩) hHeld ?_
        try simp only [Act.put, List.setIfInBounds_toArray, List.set_cons_zero, List.set_cons_succ]
        refine wpAnyH_take (i := 34) (oi := ⟨_, _, _, _, _, _⟩) (v := undef) rfl (by kernel_rfl) (by kernel_rfl) (by kernel_rfl) (fun _ _ _ h => h) (Or.inr ⟨by rfl, rfl⟩) hHeld ?_
        try simp only [Act.put, List.setIfInBounds_toArray, List.set_cons_zero, List.set_cons_succ]
        refine wpAnyH_take (i := 35) (oi := ⟨_, _, _, _, _, _⟩) (v := ?_) rfl (by kernel_rfl) (by kernel_rfl) (by kernel_rfl) (fun _ _ _ h => h) (Or.inl ⟨by rfl, ?_⟩) hHeld ?_
        rotate_left
        · intro w hSw
          try dsimp only at hSw
          go_simp
          all_goals with_reducible rfl
        try simp only [Act.put, List.setIfInBounds_toArray, List.set_cons_zero, List.set_cons_succ]
        refine wpAnyH_take (i := 36) (oi := ⟨_, _, _, _, _, _⟩) (v := ?_) rfl (by kernel_rfl) (by kernel_rfl) (by kernel_rfl) (fun _ _ _ h => h) (Or.inl ⟨by rfl, ?_⟩) hHeld ?_
        rotate_left
        · intro w hSw
          try dsimp only at hSw
          go_simp
          all_goals with_reducible rfl
        try simp only [Act.put, List.setIfInBounds_toArray, List.set_cons_zero, List.set_cons_succ]
        refine wpAnyH_take (i := 37) (oi := ⟨_, _, _, _, _, _⟩) (v := ?_) rfl (by kernel_rfl) (by kernel_rfl) (by kernel_rfl) (fun _ _ _ h => h) (Or.inl ⟨by rfl, ?_⟩) hHeld ?_
        rotate_left
        · intro w hSw
          try dsimp only at hSw
          go_simp
          all_goals with_reducible rfl
        try simp only [Act.put, List.setIfInBounds_toArray, List.set_cons_zero, List.set_cons_succ]
        refine wpAnyH_ready (rs := [38]) (by kernel_rfl) (by simp) ?_
        refine AllReadyH.cons (o := ⟨_, _, _, _, _, _⟩) rfl (fun K' hK => ?_) AllReadyH.nil
        go_simp
        go_at_call 11
        refine (hc11 _ hHeld.1).mono ?_
        rintro e u ⟨r, rfl, rfl, hE⟩
        have E2 := Ext.trans hHeld.1 hE
        clear hE hHeld
        refine hK.out _ _ ?_ (fun hHeld => ?_)
        · exact ⟨E2, E2.cell (hbx.cell 0), E2.cell (hbx.cell 1), E2.cell (hbx.cell 2), E2.cell (hbx.cell 3), E2.cell (hbx.cell 4), E2.cell (hbx.cell 5), E2.cell (hby.cell 0), E2.cell (hby.cell 1), E2.cell (hby.cell 2), E2.cell (hby.cell 3), E2.cell (hby.cell 4), E2.cell (hby.cell 5)⟩
        clear hK K'
        try simp only [Act.put, List.setIfInBounds_toArray, List.set_cons_zero, List.set_cons_succ]
        refine wpAnyH_take (i := 39) (oi := ⟨_, _, _, _, _, _⟩) (v := ?_) rfl (by kernel_rfl) (by kernel_rfl) (by kernel_rfl) (fun _ _ _ h => h) (Or.inl ⟨by rfl, ?_⟩) hHeld ?_
        rotate_left
        · intro w hSw
          try dsimp only at hSw
          go_simp
          all_goals with_reducible rfl
        try simp only [Act.put, List.setIfInBounds_toArray, List.set_cons_zero, List.set_cons_succ]
        refine wpAnyH_take (i := 40) (oi := ⟨_, _, _, _, _, _⟩) (v := ?_) rfl (by kernel_rfl) (by kernel_rfl) (by kernel_rfl) (fun _ _ _ h => h) (Or.inl ⟨by rfl, ?_⟩) hHeld ?_
        rotate_left
        · intro w hSw
          try dsimp only at hSw
          go_simp
          all_goals with_reducible rfl
        try simp only [Act.put, List.setIfInBounds_toArray, List.set_cons_zero, List.set_cons_succ]
        refine wpAnyH_done (by kernel_rfl) ?_ _
        go_wp2_with fail
        go_ret
        exact ret_bool (by rfl) (HE.trans hHeld.1)
end Go.Proofs.Ytamkgdkoddoehaa.Bw
