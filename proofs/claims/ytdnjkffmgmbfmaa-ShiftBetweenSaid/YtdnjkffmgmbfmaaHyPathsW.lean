/- Chapter 11: the paths of a tree: bowerkit.Paths (21). (Printed by gsh.py.) -/
import Derived.Test.YtdnjkffmgmbfmaaHyIdsW
import Derived.Deep.AppendLies
import Derived.Deep.QuietTactic
namespace Go.Proofs.Ytdnjkffmgmbfmaa.Sy
open Go.RowKit Go.Proofs.Ytdnjkffmgmbfmaa.Bw Go.Proofs.Ytdnjkffmgmbfmaa.Bs

theorem TP49 : SliceT Try.prog 49 22 (.slice none 0 0) 1 24 := SliceT.mk' Try.underlying49 (by kernel_rfl) rfl (by decide)
theorem TP22 : SliceT Try.prog 22 3 (.int .i64 0) 1 8 := SliceT.mk' Try.underlying22 (by kernel_rfl) rfl (by decide)
mutual
/-- The paths of a tree's nodes. -/
def pthN : Nd → List (List Int)
  | .mk _ _ _ _ _ ks => [] :: pthK 0 ks
def pthK : Nat → List Nd → List (List Int)
  | _, [] => []
  | k, x :: xs => (pthN x).map ((k : Int) :: ·) ++ pthK (k + 1) xs
end
theorem pthN_eq (t : Nd) : pthN t = [] :: pthK 0 t.kids := by cases t; rw [pthN]; rfl
theorem pthN_nil (t : Nd) : [] ∈ pthN t := by rw [pthN_eq]; exact List.mem_cons_self ..
theorem pthK_get {x : Nd} {p : List Int} (hp : p ∈ pthN x) : ∀ (ks : List Nd) (b k : Nat), ks[k]? = some x → ((b + k : Nat) : Int) :: p ∈ pthK b ks
  | [], _, _, h => by simp at h
  | y :: ys, b, 0, h => by
    simp only [List.getElem?_cons_zero, Option.some.injEq] at h
    subst h
    rw [pthK]
    exact List.mem_append_left _ (List.mem_map.2 ⟨p, hp, rfl⟩)
  | y :: ys, b, k + 1, h => by
    rw [pthK]
    refine List.mem_append_right _ ?_
    have := pthK_get hp ys (b + 1) k (by simpa using h)
    rwa [show b + 1 + k = b + (k + 1) by omega] at this
theorem pthN_kid {t x : Nd} {p : List Int} {k : Nat} (h : t.kids[k]? = some x) (hp : p ∈ pthN x) : (k : Int) :: p ∈ pthN t := by
  rw [pthN_eq]
  have := pthK_get hp t.kids 0 k h
  rw [Nat.zero_add] at this
  exact List.mem_cons_of_mem _ this
theorem pthK_mem {p : List Int} : ∀ (ks : List Nd) (b : Nat), p ∈ pthK b ks → ∃ (k : Nat) (x : Nd) (q : List Int), ks[k]? = some x ∧ q ∈ pthN x ∧ p = ((b + k : Nat) : Int) :: q
  | [], _, h => by rw [pthK] at h; cases h
  | y :: ys, b, h => by
    rw [pthK] at h
    rcases List.mem_append.1 h with h | h
    · obtain ⟨q, h1, rfl⟩ := List.mem_map.1 h
      exact ⟨0, y, q, rfl, h1, rfl⟩
    · obtain ⟨k, x, q, h1, h2, rfl⟩ := pthK_mem ys (b + 1) h
      exact ⟨k + 1, x, q, by simpa using h1, h2, by rw [show b + 1 + k = b + (k + 1) by omega]⟩
theorem pthN_mem {t : Nd} {a : Int} {q : List Int} (h : a :: q ∈ pthN t) : ∃ (k : Nat) (x : Nd), t.kids[k]? = some x ∧ q ∈ pthN x ∧ a = (k : Int) := by
  rw [pthN_eq] at h
  rcases List.mem_cons.1 h with h | h
  · cases h
  · obtain ⟨k, x, q', h1, h2, h3⟩ := pthK_mem _ _ h
    rw [Nat.zero_add] at h3
    injection h3 with h3 h4
    exact ⟨k, x, h1, h4 ▸ h2, h3⟩
theorem pthN_len : ∀ (p : List Int) {t : Nd}, p ∈ pthN t → p.length + 1 ≤ t.cnt
  | [], t, _ => by rw [Nd.cnt_eq]; simp
  | a :: q, t, h => by
    obtain ⟨k, x, h1, h2, _⟩ := pthN_mem h
    have := pthN_len q h2
    have := Nd.cnt_kid h1
    simp only [List.length_cons]
    omega

/-- A row that reads, in another block than one that is written. -/
def Far (w : World) (row : Option Nat) (n : Nat) (xs : List Value) (u : Value) : Prop := RdS w 1 n xs u ∧ (0 < n → ∃ b, u.ownBlock = some b ∧ row ≠ some b)
theorem RdS.blk {w : World} {n : Nat} {xs : List Value} {u : Value} (h : RdS w 1 n xs u) (hn : 0 < n) : ∃ b, u.ownBlock = some b ∧ b < w.heap.size := by
  obtain ⟨A, c, rfl, h1, _, _, h4⟩ := h
  obtain ⟨b, off, rfl, h5⟩ := h4 hn
  obtain ⟨z, hz⟩ : ∃ z, xs[0]? = some z := ⟨_, List.getElem?_eq_getElem (by omega)⟩
  exact ⟨b, rfl, World.block_lt_of_cell? w _ (h5 0 z hz)⟩
theorem Far.ext {w w' : World} {row : Option Nat} {n : Nat} {xs : List Value} {u : Value} (h : Far w row n xs u) (he : Ext w w') : Far w' row n xs u := ⟨h.1.ext he, h.2⟩
theorem Far.grown {w w' : World} {row row' : Option Nat} {n : Nat} {xs : List Value} {u : Value} (h : Far w row n xs u) (hg : w.grownBy w' row) (hr : row' = row ∨ row' = some w.heap.size) : Far w' row' n xs u := by
  obtain ⟨h1, h2⟩ := h
  refine ⟨?_, fun hn => ?_⟩
  · obtain ⟨A, c, rfl, g1, g2, g3, g4⟩ := h1
    refine ⟨A, c, rfl, g1, g2, g3, fun hn => ?_⟩
    obtain ⟨b, off, rfl, h5⟩ := g4 hn
    obtain ⟨b', hb, hne⟩ := h2 hn
    simp only [Value.ownBlock, Option.some.injEq] at hb
    subst hb
    refine ⟨b, off, rfl, fun j u hj => ?_⟩
    have hc := h5 j u hj
    rw [World.cell?_of_block (w := w) (hg.block b (World.block_lt_of_cell? w _ hc) (Ne.symm hne))]
    exact hc
  · obtain ⟨b, hb, hne⟩ := h2 hn
    refine ⟨b, hb, ?_⟩
    rcases hr with rfl | rfl
    · exact hne
    · obtain ⟨b', hb', hlt⟩ := RdS.blk h1 hn
      rw [hb] at hb'
      cases hb'
      intro h; cases h; omega

/-- A path that reads, of at most L numbers, in a block from B on, and not in the row that is written. -/
def okP (B : Nat) (L : List Int → Prop) (w : World) (row : Option Nat) (u : Value) : Prop := ∃ p : List Int, L p ∧ Far w row p.length (p.map (Value.int .i64)) u ∧ (0 < p.length → ∀ b, u.ownBlock = some b → B ≤ b)
theorem okP.ext {B : Nat} {L : List Int → Prop} {w w' : World} {row : Option Nat} {u : Value} (h : okP B L w row u) (he : Ext w w') : okP B L w' row u := by
  obtain ⟨p, h1, h2, h3⟩ := h
  exact ⟨p, h1, h2.ext he, h3⟩
theorem okP.grown {B : Nat} {L : List Int → Prop} {w w' : World} {row row' : Option Nat} {u : Value} (h : okP B L w row u) (hg : w.grownBy w' row) (hr : row' = row ∨ row' = some w.heap.size) : okP B L w' row' u := by
  obtain ⟨p, h1, h2, h3⟩ := h
  exact ⟨p, h1, h2.grown hg hr, h3⟩
/-- Where the row is an older one. -/
theorem okP.row {B : Nat} {L : List Int → Prop} {w : World} {row row' : Option Nat} {u : Value} (h : okP B L w row u) (hr : ∀ k, row' = some k → k < B) : okP B L w row' u := by
  obtain ⟨p, h1, h2, h3⟩ := h
  refine ⟨p, h1, ⟨h2.1, fun hn => ?_⟩, h3⟩
  obtain ⟨b, hb, _⟩ := h2.2 hn
  exact ⟨b, hb, fun h => by have := hr b h; have := h3 hn b hb; omega⟩
theorem okP.nil (B : Nat) {L : List Int → Prop} (hL : L []) (w : World) (row : Option Nat) : okP B L w row (.slice none 0 0) := ⟨[], hL, ⟨RdS.nil_ _ _, fun h => absurd h (by simp)⟩, fun h => absurd h (by simp)⟩

set_option maxRecDepth 100000 in
set_option maxHeartbeats 2000000 in
theorem paths_any (N : Nat) : ∀ (t : Nd) (v : Value) (w : World), t.cnt ≤ N → t.rd w v → t.cnt ≤ 1000 →
    Calls Try.prog 21 #[v] w (Ret w fun r w' => ∃ xs, w'.ownsRow w.heap.size 22 1 r t.cnt xs ∧ ∀ u ∈ xs, okP w.heap.size (· ∈ pthN t) w' r.ownBlock u) := by
  induction N with
  | zero => intro t v w h; rw [Nd.cnt_eq] at h; omega
  | succ N ih =>
    intro t v w hN hr hM
    obtain ⟨av, kv, rfl, i0, i1, hl, ht, ⟨aA, ac, rfl, _⟩, ⟨kA, kc, rfl, k1, k2, k3⟩⟩ := Nd.rd_open hr
    have hcn := Lib.hid (Nd.cnt_eq t)
    unfold maxLen at k2
    obtain ⟨w0, hw0⟩ : ∃ w0, w.alloc (.cells #[.int .u64 t.id, .bool t.leaf, .string t.label, .slice aA t.attrs.length ac, .string t.text, .slice kA t.kids.length kc] 42) = w0 := ⟨_, rfl⟩
    have hE0 : Ext w w0 := by rw [← hw0]; exact (Ext.refl w).alloc _
    have hz0 : w.heap.size + 1 ≤ w0.heap.size := by rw [← hw0]; simp
    have hbx : NBox w0 w.heap.size 42 #[.int .u64 t.id, .bool t.leaf, .string t.label, .slice aA t.attrs.length ac, .string t.text, .slice kA t.kids.length kc] := by rw [← hw0]; exact NBox.new _ _ _
    have c5 : w0.cell? ⟨w.heap.size, 5, none⟩ = some (.slice kA t.kids.length kc) := hbx.cell 5
    obtain ⟨w1, hw1⟩ : ∃ w1, w0.alloc (.cells #[.slice none 0 0] 22) = w1 := ⟨_, rfl⟩
    have hE1 : Ext w0 w1 := by rw [← hw1]; exact (Ext.refl w0).alloc _
    have hown1 : w1.ownsRow w0.heap.size 22 1 (.slice (some ⟨w0.heap.size, 0, none⟩) 1 1) 1 [.slice none 0 0] := by
      rw [← hw1]; exact ⟨rfl, .inr ⟨_, 1, _, rfl, Nat.le_refl _, World.alloc_heap_new w0 _, Nat.le_refl _, by simp [maxLen], rfl, rfl⟩⟩
    have hsz : Hid (w0.heap.size = w.heap.size + 1) := by rw [← hw0]; simp [Hid]
    have H0 := Lib.hid hw0
    have H1 := Lib.hid hw1
    clear hw0 hw1
    go_enter Try.func21, Try.ntmps21
    go_wp2_with fail
    rw [← hsz.out, H0.out, H1.out]
    go_loopw [3, 4] (fun s3 s4 wr => ∃ (k n : Nat) (xs : List Value), s4 = .int .i64 k ∧ k ≤ t.kids.length ∧ wr.ownsRow w0.heap.size 22 1 s3 n xs ∧ Hid (∀ u ∈ xs, okP w.heap.size (· ∈ pthN t) wr s3.ownBlock u) ∧ Hid (n + cntK (t.kids.drop k) = t.cnt) ∧ Ext w0 wr) (fun _ i _ => t.kids.length - (intOf i).toNat)
    case atStart => exact ⟨0, 1, _, rfl, Nat.zero_le _, hown1, (fun u hu => by rw [List.mem_singleton.1 hu]; exact okP.nil _ (pthN_nil t) _ _), by rw [List.drop_zero]; exact hcn.out.symm, hE1⟩
    case round =>
      clear hown1 hE1
      obtain ⟨k, n, xs, rfl, hk, hown, HX, HW, hE⟩ := hrel
      have d5 := hE.cell c5
      rcases Nat.lt_or_ge k t.kids.length with hlt | hlt
      · obtain ⟨kid, hx⟩ : ∃ x, t.kids[k]? = some x := ⟨_, List.getElem?_eq_getElem hlt⟩
        obtain ⟨b, off, rfl, hrd⟩ := k3 (by intro h; rw [h] at hlt; simp at hlt)
        obtain ⟨aA', ac', kA', kc', e0, e1, e2, e3, e4, e5, hkid⟩ := rdKids_get (rdKids_ext (hE0.trans hE) hrd) hx
        have HD := Lib.hid (drop_at hx)
        have HMEM := Lib.hid (fun p (h : p ∈ pthN kid) => pthN_kid hx h)
        have HLEN := Lib.hid (fun p (h : p ∈ pthN kid) => pthN_len p h)
        have hcnt : kid.cnt ≤ N := by have := Nd.cnt_kid hx; omega
        have hkl : kid.cnt ≤ 1000 := by have := Nd.cnt_kid hx; omega
        have hkt : kid.cnt + 1 ≤ t.cnt := by have := Nd.cnt_kid hx; omega
        have hsum : n + kid.cnt ≤ 1000 := by
          have := HW.out; rw [HD.out, cntK] at this; omega
        clear hx hrd k3
        go_wp2_with (go_at_call 21; refine (ih kid _ _ hcnt hkid hkl).mono ?_; rintro e w2 ⟨r, rfl, ⟨ys, hys, hok⟩, hE2⟩)
        have hk0 : 0 < kid.cnt := by rw [Nd.cnt_eq]; omega
        obtain ⟨gs, sc, rfl, hg1, hg2⟩ := World.ownsRow.form hys hk0
        obtain ⟨B1, hB1⟩ : ∃ B, wr.heap.size = B := ⟨_, rfl⟩
        rw [hB1] at hok
        go_loopw [3, 6] (fun s3 s6 wq => ∃ (j : Nat) (zs : List Value), s6 = .int .i64 j ∧ j ≤ kid.cnt ∧ wq.ownsRow w0.heap.size 22 1 s3 (n + j) zs ∧ Hid (∀ u ∈ zs, okP w.heap.size (· ∈ pthN t) wq s3.ownBlock u) ∧ Hid (∀ u ∈ ys, okP B1 (· ∈ pthN kid) wq s3.ownBlock u) ∧
          Hid (Far wq s3.ownBlock kid.cnt ys (.slice (some ⟨gs, 0, none⟩) kid.cnt sc)) ∧ Ext w0 wq) (fun _ i _ => kid.cnt - (intOf i).toNat)
        case atStart =>
          exact ⟨0, xs, rfl, Nat.zero_le _, owns_ext hE2 hown, (fun u hu => (HX.out u hu).ext hE2), (fun u hu => (hok u hu).row (fun k hk => by rw [← hB1]; exact (hown.lt k hk).2)),
            ⟨RdS.of_owns hys, fun _ => ⟨gs, rfl, fun h => by have := (hown.lt gs h).2; omega⟩⟩, hE.trans hE2⟩
        case round =>
          clear e0 e1 e2 e3 e4 e5
          obtain ⟨j, zs, rfl, hj, hownq, HZ, HY, HS, hEq⟩ := hrel
          rcases Nat.lt_or_ge j kid.cnt with hjl | hjl
          · obtain ⟨u, hu⟩ : ∃ u, ys[j]? = some u := ⟨_, List.getElem?_eq_getElem (by have := hys.1; omega)⟩
            obtain ⟨p, hpm, hp2, hp3⟩ := HY.out u (List.mem_of_getElem? hu)
            have hp1 := HLEN.out p hpm
            have HPM := Lib.hid hpm
            clear hpm
            have cu : wr.cell? ⟨gs, j, none⟩ = some u := by
              obtain ⟨_, _, he, _, _, _, h5⟩ := HS.out.1
              obtain ⟨b', o', h6, h7⟩ := h5 hk0
              simp only [Value.slice.injEq, true_and] at he
              obtain ⟨rfl, rfl⟩ := he
              simp only [Option.some.injEq, Addr.mk.injEq, and_true] at h6
              obtain ⟨rfl, rfl⟩ := h6
              have := h7 j u hu
              rwa [Nat.zero_add] at this
            obtain ⟨pA, pc, rfl, _⟩ := id hp2.1
            obtain ⟨wa, hwa⟩ : ∃ W, wr.alloc (.cells #[.int .i64 k] 3) = W := ⟨_, rfl⟩
            have hEa : Ext wr wa := by rw [← hwa]; exact (Ext.refl _).alloc _
            have howna : wa.ownsRow wr.heap.size 3 1 (.slice (some ⟨wr.heap.size, 0, none⟩) 1 1) 1 [.int .i64 k] := by
              rw [← hwa]; exact ⟨rfl, .inr ⟨_, 1, _, rfl, Nat.le_refl _, World.alloc_heap_new wr _, Nat.le_refl _, by simp [maxLen], rfl, rfl⟩⟩
            have hpa := hp2.1.ext hEa
            replace cu := hEa.cell cu
            have Ha := Lib.hid hwa
            have hlm := hownq.lt
            clear hwa hu
            go_wp2_with (first
              | (rw [Ha.out]; clear Ha)
              | (at_builtin
                 refine wpList_append_rd rfl rfl TP22 (v := _) (by rfl) howna (by rfl) hpa (ints_one _ _) (by omega) (by simp only [maxLen]; omega) hEa.size ?_
                 intro v3 w3 hown3 hg3 hat3
                 obtain ⟨g3, cap3, rfl, hg31, hg32⟩ := World.ownsRow.form hown3 (by omega)
                 obtain ⟨w4, hw4⟩ : ∃ W, w3.alloc (.cells #[.slice (some ⟨g3, 0, none⟩) (1 + p.length) cap3] 22) = W := ⟨_, rfl⟩
                 have hE3 : Ext wr w3 := Ext.grown hEa hg3 (fun k hk => by cases hk; exact Nat.le_refl _)
                 have hE34 : Ext w3 w4 := by rw [← hw4]; exact (Ext.refl _).alloc _
                 have hE4 := hE3.trans hE34
                 have hone4 : RdS w4 1 1 [.slice (some ⟨g3, 0, none⟩) (1 + p.length) cap3] (.slice (some ⟨w3.heap.size, 0, none⟩) 1 1) := by rw [← hw4]; exact RdS.one rfl
                 have H4 := Lib.hid hw4
                 clear hw4)
              | (rw [H4.out]; clear H4)
              | (at_builtin
                 refine wpList_append_rd rfl rfl TP49 (v := _) (by rfl) (owns_ext hE4 hownq) (by rfl) hone4 (fun u hu => by rw [List.mem_singleton.1 hu]; rfl) (by omega) (by simp only [maxLen]; omega) (hEq.trans hE4).size ?_
                 intro v5 w5 hown5 hg5 hat5))
            go_roundw
            case rel =>
              refine ⟨j + 1, zs ++ [.slice (some ⟨g3, 0, none⟩) (1 + p.length) cap3], by go_num, by omega, hown5, ?_, (fun u hu => ((HY.out u hu).ext hE4).grown hg5 hat5), (HS.out.ext hE4).grown hg5 hat5, Ext.grown (hEq.trans hE4) hg5 (owns_base hownq)⟩
              intro u hu
              rcases List.mem_append.1 hu with hu | hu
              · exact ((HZ.out u hu).ext hE4).grown hg5 hat5
              · rw [List.mem_singleton.1 hu]
                refine okP.grown ⟨(k : Int) :: p, HMEM.out p HPM.out, ⟨?_, fun _ => ⟨g3, rfl, fun h => by have := (hlm g3 h).2; omega⟩⟩, fun _ b hb => by simp only [Value.ownBlock, Option.some.injEq] at hb; have h8 := hEq.size; have h9 := hE0.size; omega⟩ hg5 hat5
                have := (RdS.of_owns hown3).ext hE34
                rw [show ((k : Int) :: p).length = 1 + p.length by simp only [List.length_cons]; omega]
                exact this
            case measure => simp [intOf]; omega
          · obtain rfl : j = kid.cnt := by omega
            go_wp2_with fail
            go_roundw
            case rel => exact ⟨k + 1, n + kid.cnt, zs, by go_num, by omega, hownq, HZ, (by have h1 := HW.out; rw [HD.out, cntK] at h1; show _ = _; omega), hEq⟩
            case measure => simp [intOf]; omega
      · have hn : n = t.cnt := by have h1 := HW.out; rw [List.drop_eq_nil_of_le hlt, cntK] at h1; omega
        subst hn
        clear k3
        go_wp2_with fail
        go_ret
        exact ⟨_, rfl, ⟨xs, owns_mono hown hE0.size, HX.out⟩, hE0.trans hE⟩
end Go.Proofs.Ytdnjkffmgmbfmaa.Sy
