/- Lemmas and walks for the claims of chapter 06: Paths. No conditions beside those that stand in each lemma. -/
import Derived.Test.YtamkgdkoddoehaaBwGrove
import Derived.Test.YtamkgdkoddoehaaBwIds
import Derived.Deep.AppendLies
namespace Go.Proofs.Ytamkgdkoddoehaa.Bw
open Go.RowKit
theorem T44 : SliceT Try.prog 44 37 (.slice none 0 0) 1 24 := SliceT.mk' Try.underlying44 (by kernel_rfl) rfl (by decide)
theorem T37 : SliceT Try.prog 37 3 (.int .i64 0) 1 8 := SliceT.mk' Try.underlying37 (by kernel_rfl) rfl (by decide)

/-- A row that reads, in another block than one that is written. -/
def Far (w : World) (row : Option Nat) (n : Nat) (xs : List Value) (u : Value) : Prop := RdS w 1 n xs u ∧ (0 < n → ∃ b, u.ownBlock = some b ∧ row ≠ some b)
theorem RdS.blk {w : World} {n : Nat} {xs : List Value} {u : Value} (h : RdS w 1 n xs u) (hn : 0 < n) : ∃ b, u.ownBlock = some b ∧ b < w.heap.size := by
  obtain ⟨A, c, rfl, h1, _, _, h4⟩ := h
  obtain ⟨b, off, rfl, h5⟩ := h4 hn
  obtain ⟨z, hz⟩ : ∃ z, xs[0]? = some z := ⟨_, List.getElem?_eq_getElem (by omega)⟩
  exact ⟨b, rfl, World.block_lt_of_cell? w _ (h5 0 z hz)⟩
theorem Far.ext {w w' : World} {row : Option Nat} {n : Nat} {xs : List Value} {u : Value} (h : Far w row n xs u) (he : Ext w w') : Far w' row n xs u := ⟨h.1.ext he, h.2⟩
theorem Far.grown {w w' : World} {row row' : Option Nat} {n : Nat} {xs : List Value} {u : Value} (h : Far w row n xs u) (hg : w.grownBy w' row) (hr : row' = row ∨ row' = some w.heap.size) : Far w' row' n xs u := by
  obtain ⟨h1, h2⟩ := h
  refine ⟨?_, fun hn => ?_⟩
  · obtain ⟨A, c, rfl, g1, g2, g3, g4⟩ := h1
    refine ⟨A, c, rfl, g1, g2, g3, fun hn => ?_⟩
    obtain ⟨b, off, rfl, h5⟩ := g4 hn
    obtain ⟨b', hb, hne⟩ := h2 hn
    simp only [Value.ownBlock, Option.some.injEq] at hb
    subst hb
    refine ⟨b, off, rfl, fun j u hj => ?_⟩
    have hc := h5 j u hj
    rw [World.cell?_of_block (w := w) (hg.block b (World.block_lt_of_cell? w _ hc) (Ne.symm hne))]
    exact hc
  · obtain ⟨b, hb, hne⟩ := h2 hn
    refine ⟨b, hb, ?_⟩
    rcases hr with rfl | rfl
    · exact hne
    · obtain ⟨b', hb', hlt⟩ := h1.blk hn
      rw [hb] at hb'
      cases hb'
      intro h; cases h; omega

/-- A path that reads, of at most L numbers, in a block from B on, and not in the row that is written. -/
def okP (B L : Nat) (w : World) (row : Option Nat) (u : Value) : Prop := ∃ p : List Int, p.length ≤ L ∧ Far w row p.length (p.map (Value.int .i64)) u ∧ (0 < p.length → ∀ b, u.ownBlock = some b → B ≤ b)
theorem okP.ext {B L : Nat} {w w' : World} {row : Option Nat} {u : Value} (h : okP B L w row u) (he : Ext w w') : okP B L w' row u := by
  obtain ⟨p, h1, h2, h3⟩ := h
  exact ⟨p, h1, h2.ext he, h3⟩
theorem okP.grown {B L : Nat} {w w' : World} {row row' : Option Nat} {u : Value} (h : okP B L w row u) (hg : w.grownBy w' row) (hr : row' = row ∨ row' = some w.heap.size) : okP B L w' row' u := by
  obtain ⟨p, h1, h2, h3⟩ := h
  exact ⟨p, h1, h2.grown hg hr, h3⟩
theorem okP.weaken {B B' L L' : Nat} {w : World} {row : Option Nat} {u : Value} (h : okP B L w row u) (hB : B' ≤ B) (hL : L ≤ L') : okP B' L' w row u := by
  obtain ⟨p, h1, h2, h3⟩ := h
  exact ⟨p, by omega, h2, fun hn b hb => by have := h3 hn b hb; omega⟩
/-- Where the row is an older one. -/
theorem okP.row {B L : Nat} {w : World} {row row' : Option Nat} {u : Value} (h : okP B L w row u) (hr : ∀ k, row' = some k → k < B) : okP B L w row' u := by
  obtain ⟨p, h1, h2, h3⟩ := h
  refine ⟨p, h1, ⟨h2.1, fun hn => ?_⟩, h3⟩
  obtain ⟨b, hb, _⟩ := h2.2 hn
  exact ⟨b, hb, fun h => by have := hr b h; have := h3 hn b hb; omega⟩
theorem okP.nil (B L : Nat) (w : World) (row : Option Nat) : okP B L w row (.slice none 0 0) := ⟨[], Nat.zero_le _, ⟨RdS.nil_ _ _, fun h => absurd h (by simp)⟩, fun h => absurd h (by simp)⟩

set_option maxRecDepth 100000 in
set_option maxHeartbeats 2000000 in
theorem paths_any (N : Nat) : ∀ (t : Nd) (v : Value) (w : World), t.cnt ≤ N → t.rd w v → t.cnt ≤ 1000 →
    Calls Try.prog 35 #[v] w (Ret w fun r w' => ∃ xs, w'.ownsRow w.heap.size 37 1 r t.cnt xs ∧ ∀ u ∈ xs, okP w.heap.size t.cnt w' r.ownBlock u) := by
  induction N with
  | zero => intro t v w h; rw [Nd.cnt_eq] at h; omega
  | succ N ih =>
    intro t v w hN hr hM
    obtain ⟨av, kv, rfl, i0, i1, hl, ht, ⟨aA, ac, rfl, _⟩, ⟨kA, kc, rfl, k1, k2, k3⟩⟩ := Nd.rd_open hr
    have hcn := Lib.hid (Nd.cnt_eq t)
    unfold maxLen at k2
    obtain ⟨w0, hw0⟩ : ∃ w0, w.alloc (.cells #[.int .u64 t.id, .bool t.leaf, .string t.label, .slice aA t.attrs.length ac, .string t.text, .slice kA t.kids.length kc] 26) = w0 := ⟨_, rfl⟩
    have hE0 : Ext w w0 := by rw [← hw0]; exact (Ext.refl w).alloc _
    have hz0 : w.heap.size + 1 ≤ w0.heap.size := by rw [← hw0]; simp
    have hbx : NBox w0 w.heap.size 26 #[.int .u64 t.id, .bool t.leaf, .string t.label, .slice aA t.attrs.length ac, .string t.text, .slice kA t.kids.length kc] := by rw [← hw0]; exact NBox.new _ _ _
    have c5 : w0.cell? ⟨w.heap.size, 5, none⟩ = some (.slice kA t.kids.length kc) := hbx.cell 5
    obtain ⟨w1, hw1⟩ : ∃ w1, w0.alloc (.cells #[.slice none 0 0] 37) = w1 := ⟨_, rfl⟩
    have hE1 : Ext w0 w1 := by rw [← hw1]; exact (Ext.refl w0).alloc _
    have hown1 : w1.ownsRow w0.heap.size 37 1 (.slice (some ⟨w0.heap.size, 0, none⟩) 1 1) 1 [.slice none 0 0] := by
      rw [← hw1]; exact ⟨rfl, .inr ⟨_, 1, _, rfl, Nat.le_refl _, World.alloc_heap_new w0 _, Nat.le_refl _, by simp [maxLen], rfl, rfl⟩⟩
    have hsz : Hid (w0.heap.size = w.heap.size + 1) := by rw [← hw0]; simp [Hid]
    have H0 := Lib.hid hw0
    have H1 := Lib.hid hw1
    clear hw0 hw1
    go_enter Try.func35, Try.ntmps35
    go_wp2_with fail
    rw [← hsz.out, H0.out, H1.out]
    go_loopw [3, 4] (fun s3 s4 wr => ∃ (k n : Nat) (xs : List Value), s4 = .int .i64 k ∧ k ≤ t.kids.length ∧ wr.ownsRow w0.heap.size 37 1 s3 n xs ∧ Hid (∀ u ∈ xs, okP w.heap.size t.cnt wr s3.ownBlock u) ∧ Hid (n + cntK (t.kids.drop k) = t.cnt) ∧ Ext w0 wr) (fun _ i _ => t.kids.length - (intOf i).toNat)
    case atStart => exact ⟨0, 1, _, rfl, Nat.zero_le _, hown1, (fun u hu => by rw [List.mem_singleton.1 hu]; exact okP.nil _ _ _ _), by rw [List.drop_zero]; exact hcn.out.symm, hE1⟩
    case round =>
      clear hown1 hE1
      obtain ⟨k, n, xs, rfl, hk, hown, HX, HW, hE⟩ := hrel
      have d5 := hE.cell c5
      rcases Nat.lt_or_ge k t.kids.length with hlt | hlt
      · obtain ⟨kid, hx⟩ : ∃ x, t.kids[k]? = some x := ⟨_, List.getElem?_eq_getElem hlt⟩
        obtain ⟨b, off, rfl, hrd⟩ := k3 (by intro h; rw [h] at hlt; simp at hlt)
        obtain ⟨aA', ac', kA', kc', e0, e1, e2, e3, e4, e5, hkid⟩ := rdKids_get (rdKids_ext (hE0.trans hE) hrd) hx
        have HD := Lib.hid (drop_at hx)
        have hcnt : kid.cnt ≤ N := by have := Nd.cnt_kid hx; omega
        have hkl : kid.cnt ≤ 1000 := by have := Nd.cnt_kid hx; omega
        have hkt : kid.cnt + 1 ≤ t.cnt := by have := Nd.cnt_kid hx; omega
        have hsum : n + kid.cnt ≤ 1000 := by
          have := HW.out; rw [HD.out, cntK] at this; omega
        clear hx hrd k3
        go_wp2_with (go_at_call 35; refine (ih kid _ _ hcnt hkid hkl).mono ?_; rintro e w2 ⟨r, rfl, ⟨ys, hys, hok⟩, hE2⟩)
        have hk0 : 0 < kid.cnt := by rw [Nd.cnt_eq]; omega
        obtain ⟨gs, sc, rfl, hg1, hg2⟩ := World.ownsRow.form hys hk0
        obtain ⟨B1, hB1⟩ : ∃ B, wr.heap.size = B := ⟨_, rfl⟩
        rw [hB1] at hok
        go_loopw [3, 6] (fun s3 s6 wq => ∃ (j : Nat) (zs : List Value), s6 = .int .i64 j ∧ j ≤ kid.cnt ∧ wq.ownsRow w0.heap.size 37 1 s3 (n + j) zs ∧ Hid (∀ u ∈ zs, okP w.heap.size t.cnt wq s3.ownBlock u) ∧ Hid (∀ u ∈ ys, okP B1 kid.cnt wq s3.ownBlock u) ∧
          Hid (Far wq s3.ownBlock kid.cnt ys (.slice (some ⟨gs, 0, none⟩) kid.cnt sc)) ∧ Ext w0 wq) (fun _ i _ => kid.cnt - (intOf i).toNat)
        case atStart =>
          exact ⟨0, xs, rfl, Nat.zero_le _, owns_ext hE2 hown, (fun u hu => (HX.out u hu).ext hE2), (fun u hu => (hok u hu).row (fun k hk => by rw [← hB1]; exact (hown.lt k hk).2)),
            ⟨RdS.of_owns hys, fun _ => ⟨gs, rfl, fun h => by have := (hown.lt gs h).2; omega⟩⟩, hE.trans hE2⟩
        case round =>
          clear e0 e1 e2 e3 e4 e5
          obtain ⟨j, zs, rfl, hj, hownq, HZ, HY, HS, hEq⟩ := hrel
          rcases Nat.lt_or_ge j kid.cnt with hjl | hjl
          · obtain ⟨u, hu⟩ : ∃ u, ys[j]? = some u := ⟨_, List.getElem?_eq_getElem (by have := hys.1; omega)⟩
            obtain ⟨p, hp1, hp2, hp3⟩ := HY.out u (List.mem_of_getElem? hu)
            have cu : wr.cell? ⟨gs, j, none⟩ = some u := by
              obtain ⟨_, _, he, _, _, _, h5⟩ := HS.out.1
              obtain ⟨b', o', h6, h7⟩ := h5 hk0
              simp only [Value.slice.injEq, true_and] at he
              obtain ⟨rfl, rfl⟩ := he
              simp only [Option.some.injEq, Addr.mk.injEq, and_true] at h6
              obtain ⟨rfl, rfl⟩ := h6
              have := h7 j u hu
              rwa [Nat.zero_add] at this
            obtain ⟨pA, pc, rfl, _⟩ := id hp2.1
            obtain ⟨wa, hwa⟩ : ∃ W, wr.alloc (.cells #[.int .i64 k] 3) = W := ⟨_, rfl⟩
            have hEa : Ext wr wa := by rw [← hwa]; exact (Ext.refl _).alloc _
            have howna : wa.ownsRow wr.heap.size 3 1 (.slice (some ⟨wr.heap.size, 0, none⟩) 1 1) 1 [.int .i64 k] := by
              rw [← hwa]; exact ⟨rfl, .inr ⟨_, 1, _, rfl, Nat.le_refl _, World.alloc_heap_new wr _, Nat.le_refl _, by simp [maxLen], rfl, rfl⟩⟩
            have hpa := hp2.1.ext hEa
            replace cu := hEa.cell cu
            have Ha := Lib.hid hwa
            have hlm := hownq.lt
            clear hwa hu
            go_wp2_with (first
              | (rw [Ha.out]; clear Ha)
              | (at_builtin
                 refine wpList_append_rd rfl rfl T37 (v := _) (by rfl) howna (by rfl) hpa (ints_one _ _) (by omega) (by simp only [maxLen]; omega) hEa.size ?_
                 intro v3 w3 hown3 hg3 hat3
                 obtain ⟨g3, cap3, rfl, hg31, hg32⟩ := World.ownsRow.form hown3 (by omega)
                 obtain ⟨w4, hw4⟩ : ∃ W, w3.alloc (.cells #[.slice (some ⟨g3, 0, none⟩) (1 + p.length) cap3] 37) = W := ⟨_, rfl⟩
                 have hE3 : Ext wr w3 := Ext.grown hEa hg3 (fun k hk => by cases hk; exact Nat.le_refl _)
                 have hE34 : Ext w3 w4 := by rw [← hw4]; exact (Ext.refl _).alloc _
                 have hE4 := hE3.trans hE34
                 have hone4 : RdS w4 1 1 [.slice (some ⟨g3, 0, none⟩) (1 + p.length) cap3] (.slice (some ⟨w3.heap.size, 0, none⟩) 1 1) := by rw [← hw4]; exact RdS.one rfl
                 have H4 := Lib.hid hw4
                 clear hw4)
              | (rw [H4.out]; clear H4)
              | (at_builtin
                 refine wpList_append_rd rfl rfl T44 (v := _) (by rfl) (owns_ext hE4 hownq) (by rfl) hone4 (fun u hu => by rw [List.mem_singleton.1 hu]; rfl) (by omega) (by simp only [maxLen]; omega) (hEq.trans hE4).size ?_
                 intro v5 w5 hown5 hg5 hat5))
            go_roundw
            case rel =>
              refine ⟨j + 1, zs ++ [.slice (some ⟨g3, 0, none⟩) (1 + p.length) cap3], by go_num, by omega, hown5, ?_, (fun u hu => ((HY.out u hu).ext hE4).grown hg5 hat5), (HS.out.ext hE4).grown hg5 hat5, Ext.grown (hEq.trans hE4) hg5 (owns_base hownq)⟩
              intro u hu
              rcases List.mem_append.1 hu with hu | hu
              · exact ((HZ.out u hu).ext hE4).grown hg5 hat5
              · rw [List.mem_singleton.1 hu]
                refine okP.grown ⟨(k : Int) :: p, by simp only [List.length_cons]; omega, ⟨?_, fun _ => ⟨g3, rfl, fun h => by have := (hlm g3 h).2; omega⟩⟩, fun _ b hb => by simp only [Value.ownBlock, Option.some.injEq] at hb; have h8 := hEq.size; have h9 := hE0.size; omega⟩ hg5 hat5
                have := (RdS.of_owns hown3).ext hE34
                rw [show ((k : Int) :: p).length = 1 + p.length by simp only [List.length_cons]; omega]
                exact this
            case measure => simp [intOf]; omega
          · obtain rfl : j = kid.cnt := by omega
            go_wp2_with fail
            go_roundw
            case rel => exact ⟨k + 1, n + kid.cnt, zs, by go_num, by omega, hownq, HZ, (by have h1 := HW.out; rw [HD.out, cntK] at h1; show _ = _; omega), hEq⟩
            case measure => simp [intOf]; omega
      · have hn : n = t.cnt := by have h1 := HW.out; rw [List.drop_eq_nil_of_le hlt, cntK] at h1; omega
        subst hn
        clear k3
        go_wp2_with fail
        go_ret
        exact ⟨_, rfl, ⟨xs, owns_mono hown hE0.size, HX.out⟩, hE0.trans hE⟩
end Go.Proofs.Ytamkgdkoddoehaa.Bw
