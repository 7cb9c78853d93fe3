/- Chapter 24: the paths of a tree: bowerkit.Paths (24). (Printed by goupaths.py.) -/
import Derived.Test.YtofcbclokkjfjaaOuRAt
import Derived.Deep.AppendLies
import Derived.Deep.QuietTactic
import Derived.Test.YtofcbclokkjfjaaOuGrove
namespace Go.Proofs.Ytofcbclokkjfjaa.Wi
open Go.RowKit Go.Proofs.Ytofcbclokkjfjaa.Bw
theorem TP46 : SliceT Try.prog 46 27 (.slice none 0 0) 1 24 := SliceT.mk' Try.underlying46 (by kernel_rfl) rfl (by decide)
theorem TP27 : SliceT Try.prog 27 3 (.int .i64 0) 1 8 := SliceT.mk' Try.underlying27 (by kernel_rfl) rfl (by decide)
mutual
/-- The paths of a tree's nodes. -/
def pthN : Nd → List (List Int)
  | .mk _ _ _ _ _ ks => [] :: pthK 0 ks
def pthK : Nat → List Nd → List (List Int)
  | _, [] => []
  | k, x :: xs => (pthN x).map ((k : Int) :: ·) ++ pthK (k + 1) xs
end
theorem pthN_eq (t : Nd) : pthN t = [] :: pthK 0 t.kids := by cases t; rw [pthN]; rfl
theorem pthN_nil (t : Nd) : [] ∈ pthN t := by rw [pthN_eq]; exact List.mem_cons_self ..
theorem pthK_get {x : Nd} {p : List Int} (hp : p ∈ pthN x) : ∀ (ks : List Nd) (b k : Nat), ks[k]? = some x → ((b + k : Nat) : Int) :: p ∈ pthK b ks
  | [], _, _, h => by simp at h
  | y :: ys, b, 0, h => by
    simp only [List.getElem?_cons_zero, Option.some.injEq] at h
    subst h
    rw [pthK]
    exact List.mem_append_left _ (List.mem_map.2 ⟨p, hp, rfl⟩)
  | y :: ys, b, k + 1, h => by
    rw [pthK]
    refine List.mem_append_right _ ?_
    have := pthK_get hp ys (b + 1) k (by simpa using h)
    rwa [show b + 1 + k = b + (k + 1) by omega] at this
theorem pthN_kid {t x : Nd} {p : List Int} {k : Nat} (h : t.kids[k]? = some x) (hp : p ∈ pthN x) : (k : Int) :: p ∈ pthN t := by
  rw [pthN_eq]
  have := pthK_get hp t.kids 0 k h
  rw [Nat.zero_add] at this
  exact List.mem_cons_of_mem _ this
theorem pthK_mem {p : List Int} : ∀ (ks : List Nd) (b : Nat), p ∈ pthK b ks → ∃ (k : Nat) (x : Nd) (q : List Int), ks[k]? = some x ∧ q ∈ pthN x ∧ p = ((b + k : Nat) : Int) :: q
  | [], _, h => by rw [pthK] at h; cases h
  | y :: ys, b, h => by
    rw [pthK] at h
    rcases List.mem_append.1 h with h | h
    · obtain ⟨q, h1, rfl⟩ := List.mem_map.1 h
      exact ⟨0, y, q, rfl, h1, rfl⟩
    · obtain ⟨k, x, q, h1, h2, rfl⟩ := pthK_mem ys (b + 1) h
      exact ⟨k + 1, x, q, by simpa using h1, h2, by rw [show b + 1 + k = b + (k + 1) by omega]⟩
theorem pthN_mem {t : Nd} {a : Int} {q : List Int} (h : a :: q ∈ pthN t) : ∃ (k : Nat) (x : Nd), t.kids[k]? = some x ∧ q ∈ pthN x ∧ a = (k : Int) := by
  rw [pthN_eq] at h
  rcases List.mem_cons.1 h with h | h
  · cases h
  · obtain ⟨k, x, q', h1, h2, h3⟩ := pthK_mem _ _ h
    rw [Nat.zero_add] at h3
    injection h3 with h3 h4
    exact ⟨k, x, h1, h4 ▸ h2, h3⟩
theorem pthN_len : ∀ (p : List Int) {t : Nd}, p ∈ pthN t → p.length + 1 ≤ t.cnt
  | [], t, _ => by rw [Nd.cnt_eq]; simp
  | a :: q, t, h => by
    obtain ⟨k, x, h1, h2, _⟩ := pthN_mem h
    have := pthN_len q h2
    have := Nd.cnt_kid h1
    simp only [List.length_cons]
    omega

/-- A row that reads, in another block than one that is written. -/
def Far (w : World) (row : Option Nat) (n : Nat) (xs : List Value) (u : Value) : Prop := RdS w 1 n xs u ∧ (0 < n → ∃ b, u.ownBlock = some b ∧ row ≠ some b)
theorem RdS.blk {w : World} {n : Nat} {xs : List Value} {u : Value} (h : RdS w 1 n xs u) (hn : 0 < n) : ∃ b, u.ownBlock = some b ∧ b < w.heap.size := by
  obtain ⟨A, c, rfl, h1, _, _, h4⟩ := h
  obtain ⟨b, off, rfl, h5⟩ := h4 hn
  obtain ⟨z, hz⟩ : ∃ z, xs[0]? = some z := ⟨_, List.getElem?_eq_getElem (by omega)⟩
  exact ⟨b, rfl, World.block_lt_of_cell? w _ (h5 0 z hz)⟩
theorem Far.ext {w w' : World} {row : Option Nat} {n : Nat} {xs : List Value} {u : Value} (h : Far w row n xs u) (he : Ext w w') : Far w' row n xs u := ⟨h.1.ext he, h.2⟩
theorem Far.grown {w w' : World} {row row' : Option Nat} {n : Nat} {xs : List Value} {u : Value} (h : Far w row n xs u) (hg : w.grownBy w' row) (hr : row' = row ∨ row' = some w.heap.size) : Far w' row' n xs u := by
  obtain ⟨h1, h2⟩ := h
  refine ⟨?_, fun hn => ?_⟩
  · obtain ⟨A, c, rfl, g1, g2, g3, g4⟩ := h1
    refine ⟨A, c, rfl, g1, g2, g3, fun hn => ?_⟩
    obtain ⟨b, off, rfl, h5⟩ := g4 hn
    obtain ⟨b', hb, hne⟩ := h2 hn
    simp only [Value.ownBlock, Option.some.injEq] at hb
    subst hb
    refine ⟨b, off, rfl, fun j u hj => ?_⟩
    have hc := h5 j u hj
    rw [World.cell?_of_block (w := w) (hg.block b (World.block_lt_of_cell? w _ hc) (Ne.symm hne))]
    exact hc
  · obtain ⟨b, hb, hne⟩ := h2 hn
    refine ⟨b, hb, ?_⟩
    rcases hr with rfl | rfl
    · exact hne
    · obtain ⟨b', hb', hlt⟩ := RdS.blk h1 hn
      rw [hb] at hb'
      cases hb'
      intro h; cases h; omega

/-- A path that reads, of at most L numbers, in a block from B on, and not in the row that is written. -/
def okP (B : Nat) (L : List Int → Prop) (w : World) (row : Option Nat) (u : Value) : Prop := ∃ p : List Int, L p ∧ Far w row p.length (p.map (Value.int .i64)) u ∧ (0 < p.length → ∀ b, u.ownBlock = some b → B ≤ b)
theorem okP.ext {B : Nat} {L : List Int → Prop} {w w' : World} {row : Option Nat} {u : Value} (h : okP B L w row u) (he : Ext w w') : okP B L w' row u := by
  obtain ⟨p, h1, h2, h3⟩ := h
  exact ⟨p, h1, h2.ext he, h3⟩
theorem okP.grown {B : Nat} {L : List Int → Prop} {w w' : World} {row row' : Option Nat} {u : Value} (h : okP B L w row u) (hg : w.grownBy w' row) (hr : row' = row ∨ row' = some w.heap.size) : okP B L w' row' u := by
  obtain ⟨p, h1, h2, h3⟩ := h
  exact ⟨p, h1, h2.grown hg hr, h3⟩
theorem okP.weaken {B B' : Nat} {L L' : List Int → Prop} {w : World} {row : Option Nat} {u : Value} (h : okP B L w row u) (hB : B' ≤ B) (hL : ∀ p, L p → L' p) : okP B' L' w row u := by
  obtain ⟨p, h1, h2, h3⟩ := h
  exact ⟨p, hL p h1, h2, fun hn b hb => by have := h3 hn b hb; omega⟩
/-- Where the row is an older one. -/
theorem okP.row {B : Nat} {L : List Int → Prop} {w : World} {row row' : Option Nat} {u : Value} (h : okP B L w row u) (hr : ∀ k, row' = some k → k < B) : okP B L w row' u := by
  obtain ⟨p, h1, h2, h3⟩ := h
  refine ⟨p, h1, ⟨h2.1, fun hn => ?_⟩, h3⟩
  obtain ⟨b, hb, _⟩ := h2.2 hn
  exact ⟨b, hb, fun h => by have := hr b h; have := h3 hn b hb; omega⟩
theorem okP.nil (B : Nat) {L : List Int → Prop} (hL : L []) (w : World) (row : Option Nat) : okP B L w row (.slice none 0 0) := ⟨[], hL, ⟨RdS.nil_ _ _, fun h => absurd h (by simp)⟩, fun h => absurd h (by simp)⟩

set_option maxRecDepth 100000 in
set_option maxHeartbeats 2000000 in
theorem paths_any (N : Nat) : ∀ (t : Nd) (v : Value) (w : World), t.cnt ≤ N → t.rd w v → t.cnt ≤ 1000 →
    Calls Try.prog 24 #[v] w (Ret w fun r w' => ∃ xs, w'.ownsRow w.heap.size 27 1 r t.cnt xs ∧ ∀ u ∈ xs, okP w.heap.size (· ∈ pthN t) w' r.ownBlock u) := by
  induction N with
  | zero => intro t v w h; rw [Nd.cnt_eq] at h; omega
  | succ N ih =>
    intro t v w hN hr hM
    obtain ⟨av, kv, rfl, i0, i1, hl, ht, ⟨aA, ac, rfl, _⟩, ⟨kA, kc, rfl, k1, k2, k3⟩⟩ := Nd.rd_open hr
    have hcn := Lib.hid (Nd.cnt_eq t)
    unfold maxLen at k2
    obtain ⟨w0, hw0⟩ : ∃ w0, w.alloc (.cells #[.int .u64 t.id, .bool t.leaf, .string t.label, .slice aA t.attrs.length ac, .string t.text, .slice kA t.kids.length kc] 26) = w0 := ⟨_, rfl⟩
    have hE0 : Ext w w0 := by rw [← hw0]; exact (Ext.refl w).alloc _
    have hz0 : w.heap.size + 1 ≤ w0.heap.size := by rw [← hw0]; simp
    have hbx : NBox w0 w.heap.size 26 #[.int .u64 t.id, .bool t.leaf, .string t.label, .slice aA t.attrs.length ac, .string t.text, .slice kA t.kids.length kc] := by rw [← hw0]; exact NBox.new _ _ _
    have c5 : w0.cell? ⟨w.heap.size, 5, none⟩ = some (.slice kA t.kids.length kc) := hbx.cell 5
    obtain ⟨w1, hw1⟩ : ∃ w1, w0.alloc (.cells #[.slice none 0 0] 27) = w1 := ⟨_, rfl⟩
    have hE1 : Ext w0 w1 := by rw [← hw1]; exact (Ext.refl w0).alloc _
    have hown1 : w1.ownsRow w0.heap.size 27 1 (.slice (some ⟨w0.heap.size, 0, none⟩) 1 1) 1 [.slice none 0 0] := by
      rw [← hw1]; exact ⟨rfl, .inr ⟨_, 1, _, rfl, Nat.le_refl _, World.alloc_heap_new w0 _, Nat.le_refl _, by simp [maxLen], rfl, rfl⟩⟩
    have hsz : Hid (w0.heap.size = w.heap.size + 1) := by rw [← hw0]; simp [Hid]
    have H0 := Lib.hid hw0
    have H1 := Lib.hid hw1
    clear hw0 hw1
    go_enter Try.func24, Try.ntmps24
    go_wp2_with fail
    rw [← hsz.out, H0.out, H1.out]
    go_loopw [3, 4] (fun s3 s4 wr => ∃ (k n : Nat) (xs : List Value), s4 = .int .i64 k ∧ k ≤ t.kids.length ∧ wr.ownsRow w0.heap.size 27 1 s3 n xs ∧ Hid (∀ u ∈ xs, okP w.heap.size (· ∈ pthN t) wr s3.ownBlock u) ∧ Hid (n + cntK (t.kids.drop k) = t.cnt) ∧ Ext w0 wr) (fun _ i _ => t.kids.length - (intOf i).toNat)
    case atStart => exact ⟨0, 1, _, rfl, Nat.zero_le _, hown1, (fun u hu => by rw [List.mem_singleton.1 hu]; exact okP.nil _ (pthN_nil t) _ _), by rw [List.drop_zero]; exact hcn.out.symm, hE1⟩
    case round =>
      clear hown1 hE1
      obtain ⟨k, n, xs, rfl, hk, hown, HX, HW, hE⟩ := hrel
      have d5 := hE.cell c5
      rcases Nat.lt_or_ge k t.kids.length with hlt | hlt
      · obtain ⟨kid, hx⟩ : ∃ x, t.kids[k]? = some x := ⟨_, List.getElem?_eq_getElem hlt⟩
        obtain ⟨b, off, rfl, hrd⟩ := k3 (by intro h; rw [h] at hlt; simp at hlt)
        obtain ⟨aA', ac', kA', kc', e0, e1, e2, e3, e4, e5, hkid⟩ := rdKids_get (rdKids_ext (hE0.trans hE) hrd) hx
        have HD := Lib.hid (drop_at hx)
        have HMEM := Lib.hid (fun p (h : p ∈ pthN kid) => pthN_kid hx h)
        have HLEN := Lib.hid (fun p (h : p ∈ pthN kid) => pthN_len p h)
        have hcnt : kid.cnt ≤ N := by have := Nd.cnt_kid hx; omega
        have hkl : kid.cnt ≤ 1000 := by have := Nd.cnt_kid hx; omega
        have hkt : kid.cnt + 1 ≤ t.cnt := by have := Nd.cnt_kid hx; omega
        have hsum : n + kid.cnt ≤ 1000 := by
          have := HW.out; rw [HD.out, cntK] at this; omega
        clear hx hrd k3
        go_wp2_with (go_at_call 24; refine (ih kid _ _ hcnt hkid hkl).mono ?_; rintro e w2 ⟨r, rfl, ⟨ys, hys, hok⟩, hE2⟩)
        have hk0 : 0 < kid.cnt := by rw [Nd.cnt_eq]; omega
        obtain ⟨gs, sc, rfl, hg1, hg2⟩ := World.ownsRow.form hys hk0
        obtain ⟨B1, hB1⟩ : ∃ B, wr.heap.size = B := ⟨_, rfl⟩
        rw [hB1] at hok
        go_loopw [3, 6] (fun s3 s6 wq => ∃ (j : Nat) (zs : List Value), s6 = .int .i64 j ∧ j ≤ kid.cnt ∧ wq.ownsRow w0.heap.size 27 1 s3 (n + j) zs ∧ Hid (∀ u ∈ zs, okP w.heap.size (· ∈ pthN t) wq s3.ownBlock u) ∧ Hid (∀ u ∈ ys, okP B1 (· ∈ pthN kid) wq s3.ownBlock u) ∧
          Hid (Far wq s3.ownBlock kid.cnt ys (.slice (some ⟨gs, 0, none⟩) kid.cnt sc)) ∧ Ext w0 wq) (fun _ i _ => kid.cnt - (intOf i).toNat)
        case atStart =>
          exact ⟨0, xs, rfl, Nat.zero_le _, owns_ext hE2 hown, (fun u hu => (HX.out u hu).ext hE2), (fun u hu => (hok u hu).row (fun k hk => by rw [← hB1]; exact (hown.lt k hk).2)),
            ⟨RdS.of_owns hys, fun _ => ⟨gs, rfl, fun h => by have := (hown.lt gs h).2; omega⟩⟩, hE.trans hE2⟩
        case round =>
          clear e0 e1 e2 e3 e4 e5
          obtain ⟨j, zs, rfl, hj, hownq, HZ, HY, HS, hEq⟩ := hrel
          rcases Nat.lt_or_ge j kid.cnt with hjl | hjl
          · obtain ⟨u, hu⟩ : ∃ u, ys[j]? = some u := ⟨_, List.getElem?_eq_getElem (by have := hys.1; omega)⟩
            obtain ⟨p, hpm, hp2, hp3⟩ := HY.out u (List.mem_of_getElem? hu)
            have hp1 := HLEN.out p hpm
            have HPM := Lib.hid hpm
            clear hpm
            have cu : wr.cell? ⟨gs, j, none⟩ = some u := by
              obtain ⟨_, _, he, _, _, _, h5⟩ := HS.out.1
              obtain ⟨b', o', h6, h7⟩ := h5 hk0
              simp only [Value.slice.injEq, true_and] at he
              obtain ⟨rfl, rfl⟩ := he
              simp only [Option.some.injEq, Addr.mk.injEq, and_true] at h6
              obtain ⟨rfl, rfl⟩ := h6
              have := h7 j u hu
              rwa [Nat.zero_add] at this
            obtain ⟨pA, pc, rfl, _⟩ := id hp2.1
            obtain ⟨wa, hwa⟩ : ∃ W, wr.alloc (.cells #[.int .i64 k] 3) = W := ⟨_, rfl⟩
            have hEa : Ext wr wa := by rw [← hwa]; exact (Ext.refl _).alloc _
            have howna : wa.ownsRow wr.heap.size 3 1 (.slice (some ⟨wr.heap.size, 0, none⟩) 1 1) 1 [.int .i64 k] := by
              rw [← hwa]; exact ⟨rfl, .inr ⟨_, 1, _, rfl, Nat.le_refl _, World.alloc_heap_new wr _, Nat.le_refl _, by simp [maxLen], rfl, rfl⟩⟩
            have hpa := hp2.1.ext hEa
            replace cu := hEa.cell cu
            have Ha := Lib.hid hwa
            have hlm := hownq.lt
            clear hwa hu
            go_wp2_with (first
              | (rw [Ha.out]; clear Ha)
              | (at_builtin
                 refine wpList_append_rd rfl rfl TP27 (v := _) (by rfl) howna (by rfl) hpa (ints_one _ _) (by omega) (by simp only [maxLen]; omega) hEa.size ?_
                 intro v3 w3 hown3 hg3 hat3
                 obtain ⟨g3, cap3, rfl, hg31, hg32⟩ := World.ownsRow.form hown3 (by omega)
                 obtain ⟨w4, hw4⟩ : ∃ W, w3.alloc (.cells #[.slice (some ⟨g3, 0, none⟩) (1 + p.length) cap3] 27) = W := ⟨_, rfl⟩
                 have hE3 : Ext wr w3 := Ext.grown hEa hg3 (fun k hk => by cases hk; exact Nat.le_refl _)
                 have hE34 : Ext w3 w4 := by rw [← hw4]; exact (Ext.refl _).alloc _
                 have hE4 := hE3.trans hE34
                 have hone4 : RdS w4 1 1 [.slice (some ⟨g3, 0, none⟩) (1 + p.length) cap3] (.slice (some ⟨w3.heap.size, 0, none⟩) 1 1) := by rw [← hw4]; exact RdS.one rfl
                 have H4 := Lib.hid hw4
                 clear hw4)
              | (rw [H4.out]; clear H4)
              | (at_builtin
                 refine wpList_append_rd rfl rfl TP46 (v := _) (by rfl) (owns_ext hE4 hownq) (by rfl) hone4 (fun u hu => by rw [List.mem_singleton.1 hu]; rfl) (by omega) (by simp only [maxLen]; omega) (hEq.trans hE4).size ?_
                 intro v5 w5 hown5 hg5 hat5))
            go_roundw
            case rel =>
              refine ⟨j + 1, zs ++ [.slice (some ⟨g3, 0, none⟩) (1 + p.length) cap3], by go_num, by omega, hown5, ?_, (fun u hu => ((HY.out u hu).ext hE4).grown hg5 hat5), (HS.out.ext hE4).grown hg5 hat5, Ext.grown (hEq.trans hE4) hg5 (owns_base hownq)⟩
              intro u hu
              rcases List.mem_append.1 hu with hu | hu
              · exact ((HZ.out u hu).ext hE4).grown hg5 hat5
              · rw [List.mem_singleton.1 hu]
                refine okP.grown ⟨(k : Int) :: p, HMEM.out p HPM.out, ⟨?_, fun _ => ⟨g3, rfl, fun h => by have := (hlm g3 h).2; omega⟩⟩, fun _ b hb => by simp only [Value.ownBlock, Option.some.injEq] at hb; have h8 := hEq.size; have h9 := hE0.size; omega⟩ hg5 hat5
                have := (RdS.of_owns hown3).ext hE34
                rw [show ((k : Int) :: p).length = 1 + p.length by simp only [List.length_cons]; omega]
                exact this
            case measure => simp [intOf]; omega
          · obtain rfl : j = kid.cnt := by omega
            go_wp2_with fail
            go_roundw
            case rel => exact ⟨k + 1, n + kid.cnt, zs, by go_num, by omega, hownq, HZ, (by have h1 := HW.out; rw [HD.out, cntK] at h1; show _ = _; omega), hEq⟩
            case measure => simp [intOf]; omega
      · have hn : n = t.cnt := by have h1 := HW.out; rw [List.drop_eq_nil_of_le hlt, cntK] at h1; omega
        subst hn
        clear k3
        go_wp2_with fail
        go_ret
        exact ⟨_, rfl, ⟨xs, owns_mono hown hE0.size, HX.out⟩, hE0.trans hE⟩
end Go.Proofs.Ytofcbclokkjfjaa.Wi
namespace Go.Proofs.Ytofcbclokkjfjaa.Wi
open Go.RowKit Go.Proofs.Ytofcbclokkjfjaa.Bw Go.Proofs.Ytofcbclokkjfjaa.Bs

set_option maxRecDepth 100000 in
set_option maxHeartbeats 8000000 in
theorem done_any (t : Nd) (a : Ans) (tv lv : Value) (wo w : World) (hWo : Sy.Wo wo w) (ht : t.rd wo tv) (hl : Sy.RdL w a.2 lv) (hf : fitC t a = true) :
  Calls Try.prog 43 #[tv, lv, .int .i64 a.1] w (Ret w fun r w' => ∃ q, r = .tuple #[q, .bool (doneC t a).2.1, .bool (doneC t a).2.2] ∧ Sy.LateN wo w w' (doneC t a).1 q) := by
 obtain ⟨uA, uc, uK, ud, rfl⟩ := Sy.rd_open6 ht
 obtain ⟨w1, hw1⟩ : ∃ W, (w.alloc (.cells #[.int .u64 t.id, .bool t.leaf, .string t.label, .slice uA t.attrs.length uc, .string t.text, .slice uK t.kids.length ud] 26)).alloc (.cells #[.int .u64 0, .bool false, .string ⟨#[]⟩, .slice none 0 0, .string ⟨#[]⟩, .slice none 0 0] 26) = W := ⟨_, rfl⟩
 obtain ⟨B, hB⟩ : ∃ B, w.heap.size = B := ⟨_, rfl⟩
 have s1 : (w.alloc (.cells #[.int .u64 t.id, .bool t.leaf, .string t.label, .slice uA t.attrs.length uc, .string t.text, .slice uK t.kids.length ud] 26)).heap.size = B + 1 := by rw [World.size_alloc, hB]
 have E1 : Ext w w1 := by rw [← hw1]; exact ((Ext.refl w).alloc _).alloc _
 have HB0 := Lib.hid (show NBox w1 B 26 #[.int .u64 t.id, .bool t.leaf, .string t.label, .slice uA t.attrs.length uc, .string t.text, .slice uK t.kids.length ud] from by rw [← hw1, ← hB]; exact (NBox.new w 26 _).ext ((Ext.refl _).alloc _))
 have HB1 := Lib.hid (show NBox w1 (B + 1) 26 #[.int .u64 0, .bool false, .string ⟨#[]⟩, .slice none 0 0, .string ⟨#[]⟩, .slice none 0 0] from by rw [← hw1, ← s1]; exact NBox.new _ 26 _)
 have HG := Lib.hid ((Sy.GW.refl hWo).ext E1)
 have HE := Lib.hid E1
 have HW1 := Lib.hid hw1
 have HBB := Lib.hid hB
 have HT := Lib.hid ht
 have HL := Lib.hid hl
 have HF := Lib.hid hf
 have hBo : wo.heap.size ≤ B := by rw [← hB]; exact hWo.size
 obtain ⟨k, hk⟩ : ∃ k, a.1 = k := ⟨_, rfl⟩
 have HK := Lib.hid hk
 rw [hk]
 obtain ⟨t0, t1, t2, t3, t4, t5⟩ := HB0.out.c6
 clear hw1 hB s1 E1 hWo ht hl hf hk
 by_cases hk0 : k = 0
 rotate_left
 ·have e1 : (k == 0) = false := by rw [beq_eq_false_iff_ne]; exact hk0
  have e2 : (k != 0) = true := by rw [bne, e1]; rfl
  have HD := Lib.hid (show doneC t a = (t, false, true) from by unfold doneC; rw [if_neg (by rw [HK.out]; exact hk0)])
  clear hk0
  go_enter Try.func43, Try.ntmps43
  go_upto_region 1 with fail
  rw [HW1.out, HBB.out]
  clear HW1
  obtain ⟨y0, y1, y2, y3, y4, y5⟩ := HB1.out.c6
  obtain ⟨z0, z1, z2, z3, z4, z5⟩ := HB1.out.f6
  have F9 := Sy.Fr.six w1 (B + 1) (.int .u64 t.id) (.bool t.leaf) (.string t.label) (.slice uA t.attrs.length uc) (.string t.text) (.slice uK t.kids.length ud)
  have HB9 := Lib.hid (Sy.NBox.six HB1.out (.int .u64 t.id) (.bool t.leaf) (.string t.label) (.slice uA t.attrs.length uc) (.string t.text) (.slice uK t.kids.length ud))
  have hBB := HBB.out
  have HE9 := Lib.hid (Sy.Fr.ext HE.out F9 (fun q hq => by rw [show q = B + 1 from hq, hBB]; omega))
  clear F9 hBB
  go_wp2_with fail
  refine bodyPost_ret (Sy.results_three rfl rfl rfl rfl HB9.out Try.underlying26 rfl Sy.info42) rfl ?_
  exact ⟨_, rfl, ⟨_, (by rw [HD.out]; rfl), by rw [HD.out]; exact Sy.LateN.old HT.out⟩, HE9.out⟩
 subst hk0
 have HD := Lib.hid (show doneC t a = ((Sy.allD t a.2).1, true, decide ((Sy.allD t a.2).2.2 = 0)) from by unfold doneC; rw [if_pos HK.out])
 have hft : fit t a.2 = true := by
  have := HF.out
  unfold fitC at this
  rw [HK.out] at this
  simpa using this
 unfold fit at hft
 rw [Bool.and_eq_true, decide_eq_true_eq, List.all_eq_true] at hft
 have hc := Sy.all_late t a.2 _ lv wo w1 HG.out.base HT.out (HL.out.ext HE.out) (fun o ho => by
  have := hft.2 o ho
  rw [Bool.and_eq_true, decide_eq_true_eq, decide_eq_true_eq] at this
  exact this) hft.1
 obtain ⟨m, hm⟩ : ∃ m, (Sy.allD t a.2).1 = m := ⟨_, rfl⟩
 obtain ⟨c, hcc⟩ : ∃ m, (Sy.allD t a.2).2.1 = m := ⟨_, rfl⟩
 obtain ⟨E, hE⟩ : ∃ m, (Sy.allD t a.2).2.2 = m := ⟨_, rfl⟩
 rw [hm, hcc, hE] at hc
 rw [hm, hE] at HD
 clear hft hm hcc hE HF
 go_enter Try.func43, Try.ntmps43
 go_upto_region 1 with fail
 rw [HW1.out, HBB.out]
 clear HW1
 go_wp2_with fail
 refine hc.mono ?_
 clear hc t0 t1 t2 t3 t4 t5
 rintro e w2 ⟨r, rfl, ⟨q, rfl, hLL⟩, hE⟩
 have HMR := Lib.hid (HG.out.got hE hLL)
 obtain ⟨mA, mc, mK, md, rfl⟩ := Sy.rd_open6 HMR.out
 have HS1 := Lib.hid (HG.out.keep hE trivial HB1.out.lt)
 replace HG := Lib.hid (HG.out.glue hE)
 replace HE := Lib.hid (HE.out.trans hE)
 replace HB0 := Lib.hid (HB0.out.ext hE)
 replace HB1 := Lib.hid (HB1.out.ext hE)
 clear hE hLL
 obtain ⟨w3a, hwa⟩ : ∃ q, w2.alloc (.cells #[.int .u64 0, .bool false, .string ⟨#[]⟩, .slice none 0 0, .string ⟨#[]⟩, .slice none 0 0] 26) = q := ⟨_, rfl⟩
 obtain ⟨P, hP⟩ : ∃ q, w2.heap.size = q := ⟨_, rfl⟩
 have XA : Ext w2 w3a := by rw [← hwa]; exact (Ext.refl _).alloc _
 have bM : NBox w3a P 26 #[.int .u64 0, .bool false, .string ⟨#[]⟩, .slice none 0 0, .string ⟨#[]⟩, .slice none 0 0] := by rw [← hwa, ← hP]; exact NBox.new _ _ _
 obtain ⟨w3, hwn⟩ : ∃ q, (World.setCell (World.setCell (World.setCell (World.setCell (World.setCell (World.setCell w3a ⟨P, 0, none⟩ (.int .u64 m.id)) ⟨P, 1, none⟩ (.bool m.leaf)) ⟨P, 2, none⟩ (.string m.label)) ⟨P, 3, none⟩ (.slice mA m.attrs.length mc)) ⟨P, 4, none⟩ (.string m.text)) ⟨P, 5, none⟩ (.slice mK m.kids.length md)) = q := ⟨_, rfl⟩
 have F8 : Sy.Fr w3a w3 (fun k => k = P) := by rw [← hwn]; exact Sy.Fr.six _ _ _ _ _ _ _ _
 have X8 : Ext w2 w3 := Sy.Fr.ext XA F8 (fun q hq => by rw [show q = P from hq, hP]; exact Nat.le_refl _)
 have HBP := Lib.hid (show NBox w3 P 26 #[.int .u64 m.id, .bool m.leaf, .string m.label, .slice mA m.attrs.length mc, .string m.text, .slice mK m.kids.length md] from by rw [← hwn]; exact Sy.NBox.six bM _ _ _ _ _ _)
 replace HE := Lib.hid (HE.out.trans X8)
 replace HG := Lib.hid (HG.out.ext X8)
 replace HB0 := Lib.hid (HB0.out.ext X8)
 replace HB1 := Lib.hid (HB1.out.ext X8)
 have HWA := Lib.hid hwa
 have HPP := Lib.hid hP
 have HWN := Lib.hid hwn
 obtain ⟨y0, y1, y2, y3, y4, y5⟩ := bM.c6
 obtain ⟨z0, z1, z2, z3, z4, z5⟩ := bM.f6
 clear hwa hP hwn XA bM F8 X8
 go_upto_region 4 with (rw [HWA.out, HPP.out]; clear HWA)
 rw [HWN.out]
 clear HWN HPP y0 z0 y1 z1 y2 z2 y3 z3 y4 z4 y5 z5
 obtain ⟨y0, y1, y2, y3, y4, y5⟩ := HB1.out.c6
 obtain ⟨z0, z1, z2, z3, z4, z5⟩ := HB1.out.f6
 obtain ⟨p0, p1, p2, p3, p4, p5⟩ := HBP.out.c6
 have F9 := Sy.Fr.six w3 (B + 1) (.int .u64 m.id) (.bool m.leaf) (.string m.label) (.slice mA m.attrs.length mc) (.string m.text) (.slice mK m.kids.length md)
 have HB9 := Lib.hid (Sy.NBox.six HB1.out (.int .u64 m.id) (.bool m.leaf) (.string m.label) (.slice mA m.attrs.length mc) (.string m.text) (.slice mK m.kids.length md))
 have hBB := HBB.out
 have HG9 := Lib.hid (HG.out.fr F9 (fun q hq => by rw [show q = B + 1 from hq]; exact ⟨HS1.out, by omega⟩))
 have HE9 := Lib.hid (Sy.Fr.ext HE.out F9 (fun q hq => by rw [show q = B + 1 from hq, hBB]; omega))
 have hdec : (E == 0) = decide (E = 0) := by by_cases h : E = 0 <;> simp [h]
 have HDEC := Lib.hid hdec
 clear F9 hBB hdec
 go_wp2_with fail
 refine bodyPost_ret (Sy.results_three rfl rfl rfl rfl HB9.out Try.underlying26 rfl Sy.info42) rfl ?_
 refine ⟨_, rfl, ⟨_, ?_, by rw [HD.out]; exact HG9.out.late HMR.out⟩, HE9.out⟩
 rw [HD.out, ← HDEC.out]
 rfl
end Go.Proofs.Ytofcbclokkjfjaa.Wi
