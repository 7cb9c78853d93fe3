/- Lemmas and walks for the claims of chapter 06: Clone. No conditions beside those that stand in each lemma. -/
import Derived.Test.YtamkgdkoddoehaaBwRAt
import Derived.WalkSpells
namespace Go.Proofs.Ytamkgdkoddoehaa.Bw
open Go.RowKit

/-- A row of cells that reads as nodes. -/
def rowK (w : World) : List Nd → List Value → Prop
  | [], xs => xs = []
  | k :: r, xs => ∃ c0 c1 c2 c3 c4 c5 rest, xs = c0 :: c1 :: c2 :: c3 :: c4 :: c5 :: rest ∧ k.rd w (.agg #[c0, c1, c2, c3, c4, c5]) ∧ rowK w r rest
theorem rowK_len {w : World} : ∀ {ks : List Nd} {xs : List Value}, rowK w ks xs → xs.length = ks.length * 6
  | [], xs, h => by rw [h]; rfl
  | k :: r, xs, ⟨_, _, _, _, _, _, rest, hx, _, hr⟩ => by rw [hx]; simp [rowK_len hr]; omega
theorem rowK_ext {w w' : World} (h : Ext w w') : ∀ {ks : List Nd} {xs : List Value}, rowK w ks xs → rowK w' ks xs
  | [], _, hr => hr
  | _ :: _, _, ⟨a, b, c, d, e, f, rest, hx, hk, hr⟩ => ⟨a, b, c, d, e, f, rest, hx, Nd.rd_ext h hk, rowK_ext h hr⟩
theorem rowK_one {w : World} : ∀ {ks : List Nd} {xs : List Value}, rowK w ks xs → ∀ u ∈ xs, u.oneCell' = true
  | [], xs, h, u, hu => by rw [h] at hu; cases hu
  | k :: r, xs, ⟨a, b, c, d, e, f, rest, hx, hk, hr⟩, u, hu => by
    obtain ⟨av, kv, he, _, _, _, _, ⟨aA, ac, rfl, _⟩, ⟨kA, kc, rfl, _⟩⟩ := Nd.rd_open hk
    simp only [Value.agg.injEq, Array.mk.injEq, List.cons.injEq, and_true] at he
    obtain ⟨rfl, rfl, rfl, rfl, rfl, rfl⟩ := he
    rw [hx] at hu
    simp only [List.mem_cons] at hu
    rcases hu with rfl | rfl | rfl | rfl | rfl | rfl | hu <;> first | rfl | exact rowK_one hr u hu
theorem rowK_of_rd {w : World} {b : Nat} : ∀ {ks : List Nd} {off : Nat}, rdKids w b off ks → ∃ xs, rowK w ks xs ∧ ∀ j u, xs[j]? = some u → w.cell? ⟨b, off + j, none⟩ = some u
  | [], off, _ => ⟨[], rfl, by simp⟩
  | k :: r, off, h => by
    unfold rdKids at h
    obtain ⟨⟨c0, c1, c2, c3, c4, c5, h0, h1, h2, h3, h4, h5, hk⟩, hr⟩ := h
    obtain ⟨xs, hx, hc⟩ := rowK_of_rd hr
    refine ⟨_, ⟨c0, c1, c2, c3, c4, c5, xs, rfl, hk, hx⟩, fun j u hu => ?_⟩
    match j, hu with
    | 0, hu => simpa using (by simpa using hu : c0 = u) ▸ h0
    | 1, hu => simpa using (by simpa using hu : c1 = u) ▸ h1
    | 2, hu => simpa using (by simpa using hu : c2 = u) ▸ h2
    | 3, hu => simpa using (by simpa using hu : c3 = u) ▸ h3
    | 4, hu => simpa using (by simpa using hu : c4 = u) ▸ h4
    | 5, hu => simpa using (by simpa using hu : c5 = u) ▸ h5
    | j + 6, hu =>
      have := hc j u (by simpa using hu)
      rw [show off + (j + 6) = off + 6 + j by omega]; exact this
theorem rd_of_rowK {w : World} {b : Nat} : ∀ {ks : List Nd} {xs : List Value} {off : Nat}, rowK w ks xs → (∀ j u, xs[j]? = some u → w.cell? ⟨b, off + j, none⟩ = some u) → rdKids w b off ks
  | [], _, _, _, _ => by unfold rdKids; trivial
  | k :: r, xs, off, ⟨c0, c1, c2, c3, c4, c5, rest, hx, hk, hr⟩, hc => by
    subst hx
    unfold rdKids
    refine ⟨⟨c0, c1, c2, c3, c4, c5, hc 0 c0 rfl, hc 1 c1 rfl, hc 2 c2 rfl, hc 3 c3 rfl, hc 4 c4 rfl, hc 5 c5 rfl, hk⟩, rd_of_rowK hr fun j u hu => ?_⟩
    rw [show off + 6 + j = off + (j + 6) by omega]
    exact hc (j + 6) u (by simpa using hu)
theorem RdK.row {w : World} {ks : List Nd} {v : Value} (h : RdK w ks v) : ∃ xs, rowK w ks xs ∧ RdS w 6 ks.length xs v := by
  obtain ⟨A, c, rfl, h1, h2, h3⟩ := h
  cases ks with
  | nil => exact ⟨[], rfl, A, c, rfl, rfl, h1, h2, fun h => absurd h (by simp)⟩
  | cons k r =>
    obtain ⟨b, off, rfl, hr⟩ := h3 (by simp)
    obtain ⟨xs, hx, hc⟩ := rowK_of_rd hr
    exact ⟨xs, hx, _, c, rfl, rowK_len hx, h1, h2, fun _ => ⟨b, off, rfl, hc⟩⟩
theorem RdK.of_row {w : World} {ks : List Nd} {xs : List Value} {v : Value} (h : rowK w ks xs) (hs : RdS w 6 ks.length xs v) : RdK w ks v := by
  obtain ⟨A, c, rfl, _, h1, h2, h3⟩ := hs
  refine ⟨A, c, rfl, h1, h2, fun hk => ?_⟩
  obtain ⟨b, off, rfl, hc⟩ := h3 (List.length_pos_iff.2 hk)
  exact ⟨b, off, rfl, rd_of_rowK h hc⟩
/-- One node of a row replaced. -/
theorem rowK_set {w : World} : ∀ {ks : List Nd} {xs : List Value} {i : Nat} {k' : Nd} {c0 c1 c2 c3 c4 c5 : Value}, rowK w ks xs → i < ks.length → k'.rd w (.agg #[c0, c1, c2, c3, c4, c5]) →
    rowK w (ks.set i k') ((((((xs.set (i * 6) c0).set (i * 6 + 1) c1).set (i * 6 + 2) c2).set (i * 6 + 3) c3).set (i * 6 + 4) c4).set (i * 6 + 5) c5)
  | k :: r, xs, 0, k', c0, c1, c2, c3, c4, c5, ⟨_, _, _, _, _, _, rest, hx, _, hr⟩, _, h' => by
    subst hx
    exact ⟨c0, c1, c2, c3, c4, c5, rest, by simp, h', hr⟩
  | k :: r, xs, i + 1, k', c0, c1, c2, c3, c4, c5, ⟨a, b, c, d, e, f, rest, hx, hk, hr⟩, hi, h' => by
    subst hx
    refine ⟨a, b, c, d, e, f, _, ?_, hk, rowK_set (i := i) hr (by simpa using hi) h'⟩
    rw [show (i + 1) * 6 = i * 6 + 6 by omega]
    simp [List.set_cons_succ, Nat.add_right_comm]

theorem T24 : SliceT Try.prog 24 26 (.agg #[.int .u64 0, .bool false, .string ⟨#[]⟩, .slice none 0 0, .string ⟨#[]⟩, .slice none 0 0]) 6 96 := SliceT.mk' Try.underlying24 (by kernel_rfl) rfl (by decide)

set_option maxRecDepth 100000 in
set_option maxHeartbeats 1000000 in
theorem clone_row (ks : List Nd) (xs : List Value) (v : Value) (w : World) (hx : rowK w ks xs) (hs : RdS w 6 ks.length xs v) (hne : ks ≠ []) (hl : ks.length ≤ 1000000) :
    Calls Try.prog 41 #[v] w (Ret w fun r w' => w'.ownsRow w.heap.size 26 6 r ks.length xs) := by
  have hK := RdK.of_row hx hs
  obtain ⟨A, c, rfl, k1, k2, k3⟩ := hK
  obtain ⟨b, off, rfl, _⟩ := k3 hne
  obtain ⟨w1, hw1⟩ : ∃ w1, w.alloc (.cells #[] 26) = w1 := ⟨_, rfl⟩
  have hE1 : Ext w w1 := by rw [← hw1]; exact (Ext.refl w).alloc _
  have hown : w1.ownsRow w.heap.size 26 6 (.slice (some ⟨w.heap.size, 0, none⟩) 0 0) 0 [] := by
    rw [← hw1]; exact ⟨rfl, .inr ⟨_, 0, _, rfl, Nat.le_refl _, World.alloc_heap_new w _, Nat.le_refl _, by simp [maxLen], rfl, rfl⟩⟩
  have H1 := Lib.hid hw1
  have hone := Lib.hid (rowK_one hx)
  have hs1 := hs.ext hE1
  clear hw1 hne k3 hs
  have hnil := Lib.run_eql_slice_nil (P := Try.prog) w 24 26 (some ⟨b, off, none⟩) ks.length c 0 0 Try.underlying24
  go_enter Try.func41, Try.ntmps41
  go_wp2_with (first
    | (rw [H1.out]; clear H1)
    | (at_builtin
       refine wpList_append_rd rfl rfl T24 (v := _) (by rfl) hown (by rfl) hs1 hone.out (by omega) (by simp only [maxLen]; omega) (by have := hE1.size; omega) ?_
       intro v3 w3 hown3 hg3 hat3))
  go_ret
  refine ⟨_, rfl, by simpa using hown3, Ext.grown hE1 hg3 (owns_base hown)⟩
theorem clone_any (ks : List Nd) (v : Value) (w : World) (hK : RdK w ks v) (hne : ks ≠ []) (hl : ks.length ≤ 1000000) :
    Calls Try.prog 41 #[v] w (Ret w fun r w' => ∃ xs, rowK w ks xs ∧ w'.ownsRow w.heap.size 26 6 r ks.length xs) := by
  obtain ⟨xs, hx, hs⟩ := hK.row
  refine (clone_row ks xs v w hx hs hne hl).mono ?_
  rintro e w' ⟨r, rfl, h, hE⟩
  exact ⟨r, rfl, ⟨xs, hx, h⟩, hE⟩
end Go.Proofs.Ytamkgdkoddoehaa.Bw
