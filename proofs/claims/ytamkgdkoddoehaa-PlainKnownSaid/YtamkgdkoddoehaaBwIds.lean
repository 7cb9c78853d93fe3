/- Lemmas and walks for the claims of chapter 06: Ids. No conditions beside those that stand in each lemma. -/
import Derived.Test.YtamkgdkoddoehaaBwSpec
import Derived.Test.YtamkgdkoddoehaaBwMem
import Derived.BigQuiet
import Derived.Deep.QuietTactic
namespace Go.Proofs.Ytamkgdkoddoehaa.Bw
open Go.RowKit
theorem T32 : SliceT Try.prog 32 22 (.int .u64 0) 1 8 := SliceT.mk' Try.underlying32 (by kernel_rfl) rfl (by decide)

set_option maxRecDepth 100000 in
set_option maxHeartbeats 1000000 in
theorem rids_any (N : Nat) : ∀ (t : Nd) (v : Value) (w : World), t.cnt ≤ N → t.rd w v → t.cnt ≤ 1000000 →
    Calls Try.prog 17 #[v] w (Ret w fun r w' => w'.ownsRow w.heap.size 22 1 r t.ids.length (t.ids.map (Value.int .u64))) := by
  induction N with
  | zero => intro t v w h; rw [Nd.cnt_eq] at h; omega
  | succ N ih =>
    intro t v w hN hr hM
    obtain ⟨av, kv, rfl, i0, i1, hl, ht, ⟨aA, ac, rfl, _⟩, ⟨kA, kc, rfl, k1, k2, k3⟩⟩ := Nd.rd_open hr
    have hcn := Lib.hid (Nd.ids_eq t)
    have hlen := Lib.hid (Nd.ids_len t)
    unfold maxLen at k2
    obtain ⟨w0, hw0⟩ : ∃ w0, w.alloc (.cells #[.int .u64 t.id, .bool t.leaf, .string t.label, .slice aA t.attrs.length ac, .string t.text, .slice kA t.kids.length kc] 26) = w0 := ⟨_, rfl⟩
    have hE0 : Ext w w0 := by rw [← hw0]; exact (Ext.refl w).alloc _
    have hz0 : w.heap.size + 1 ≤ w0.heap.size := by rw [← hw0]; simp
    have c5 : w0.cell? ⟨w.heap.size, 5, none⟩ = some (.slice kA t.kids.length kc) := by rw [← hw0]; simp
    have c0 : w0.cell? ⟨w.heap.size, 0, none⟩ = some (.int .u64 t.id) := by rw [← hw0]; simp
    obtain ⟨w1, hw1⟩ : ∃ w1, w0.alloc (.cells #[.int .u64 t.id] 22) = w1 := ⟨_, rfl⟩
    have hE1 : Ext w0 w1 := by rw [← hw1]; exact (Ext.refl w0).alloc _
    have hown1 : w1.ownsRow w0.heap.size 22 1 (.slice (some ⟨w0.heap.size, 0, none⟩) 1 1) 1 [.int .u64 t.id] := by
      rw [← hw1]; exact ⟨rfl, .inr ⟨_, 1, _, rfl, Nat.le_refl _, World.alloc_heap_new w0 _, Nat.le_refl _, by simp [maxLen], rfl, rfl⟩⟩
    have hsz : Hid (w0.heap.size = w.heap.size + 1) := by rw [← hw0]; simp [Hid]
    have H0 := Lib.hid hw0
    have H1 := Lib.hid hw1
    clear hw0 hw1
    go_enter Try.func17, Try.ntmps17
    go_wp2_with fail
    rw [← hsz.out, H0.out, H1.out]
    go_loopw [3, 4] (fun s3 s4 wr => ∃ (k : Nat) (l : List Int), s4 = .int .i64 k ∧ k ≤ t.kids.length ∧ wr.ownsRow w0.heap.size 22 1 s3 l.length (l.map (Value.int .u64)) ∧ Hid (l ++ idsK (t.kids.drop k) = t.ids) ∧ Ext w0 wr) (fun _ i _ => t.kids.length - (intOf i).toNat)
    case atStart => exact ⟨0, [t.id], rfl, Nat.zero_le _, hown1, hcn.out.symm, hE1⟩
    case round =>
      clear hown1 hE1
      obtain ⟨k, l, rfl, hk, hown, HW, hE⟩ := hrel
      have d5 := hE.cell c5
      rcases Nat.lt_or_ge k t.kids.length with hlt | hlt
      · obtain ⟨kid, hx⟩ : ∃ x, t.kids[k]? = some x := ⟨_, List.getElem?_eq_getElem hlt⟩
        obtain ⟨b, off, rfl, hrd⟩ := k3 (by intro h; rw [h] at hlt; simp at hlt)
        obtain ⟨aA', ac', kA', kc', e0, e1, e2, e3, e4, e5, hkid⟩ := rdKids_get (rdKids_ext (hE0.trans hE) hrd) hx
        have HD := Lib.hid (drop_at hx)
        have hcnt : kid.cnt ≤ N := by have := Nd.cnt_kid hx; omega
        have hkl : kid.cnt ≤ 1000000 := by have := Nd.cnt_kid hx; omega
        have hsum : l.length + kid.ids.length ≤ 1000000 := by
          have := congrArg List.length HW.out; rw [HD.out, idsK, hlen.out, List.length_append, List.length_append] at this; omega
        clear hx hrd k3
        go_wp2_with (first
          | (go_at_call 17; refine (ih kid _ _ hcnt hkid hkl).mono ?_; rintro e w2 ⟨r, rfl, hr2, hE2⟩)
          | (at_builtin
             refine wpList_append_rd rfl rfl T32 (v := _) (by rfl) (owns_ext hE2 hown) (by rfl) (RdS.of_owns hr2) (ints_one _ _) (by omega) (by simp only [maxLen]; omega) (hE.trans hE2).size ?_
             intro v3 w3 hown3 hg3 hat3))
        go_roundw
        case rel => exact ⟨k + 1, l ++ kid.ids, by go_num, by omega, by rw [List.length_append, List.map_append]; exact hown3, by rw [← HW.out, HD.out, idsK, List.append_assoc]; rfl, Ext.grown (hE.trans hE2) hg3 (owns_base hown)⟩
        case measure => simp [intOf]; omega
      · have HG : Hid (l = t.ids) := by have := HW.out; rw [List.drop_eq_nil_of_le hlt, idsK, List.append_nil] at this; exact this
        clear HW
        go_wp2_with fail
        go_ret
        exact ⟨_, rfl, by have := owns_mono hown hE0.size; rw [HG.out] at this; exact this, hE0.trans hE⟩
end Go.Proofs.Ytamkgdkoddoehaa.Bw
