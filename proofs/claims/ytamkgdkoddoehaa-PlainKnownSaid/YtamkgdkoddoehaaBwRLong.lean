/- Lemmas and walks for the claims of chapter 06: RLong. No conditions beside those that stand in each lemma. -/
import Derived.Test.YtamkgdkoddoehaaBwRefs
import Derived.BigQuiet
import Derived.Deep.QuietTactic
namespace Go.Proofs.Ytamkgdkoddoehaa.Bw
open Go.RowKit

set_option maxRecDepth 100000 in
set_option maxHeartbeats 2000000 in
theorem rlong_any (N : Nat) : ∀ (t : Nd) (v : Value) (w : World), t.cnt ≤ N → t.rd w v → t.wt ≤ 1000000 → Calls Try.prog 23 #[v] w (Ret w fun r _ => r = .int .i64 t.lng) := by
  induction N with
  | zero => intro t v w h; rw [Nd.cnt_eq] at h; omega
  | succ N ih =>
    intro t v w hN hr hM
    obtain ⟨av, kv, rfl, i0, i1, hl, ht, ⟨aA, ac, rfl, a1, a2, a3⟩, ⟨kA, kc, rfl, k1, k2, k3⟩⟩ := Nd.rd_open hr
    have hcn := Lib.hid (Nd.lng_eq t)
    have how := Nd.own_wt t
    have hown := Lib.hid (show t.own = t.text.size + lenA t.attrs from rfl)
    have hto : t.text.size + lenA t.attrs ≤ 1000000 := by have := hown.out; omega
    have hlw := Nd.lng_wt t
    unfold maxLen at k2 a2 ht
    obtain ⟨w0, hw0⟩ : ∃ w0, w.alloc (.cells #[.int .u64 t.id, .bool t.leaf, .string t.label, .slice aA t.attrs.length ac, .string t.text, .slice kA t.kids.length kc] 26) = w0 := ⟨_, rfl⟩
    have hE0 : Ext w w0 := by rw [← hw0]; exact (Ext.refl w).alloc _
    have c3 : w0.cell? ⟨w.heap.size, 3, none⟩ = some (.slice aA t.attrs.length ac) := by rw [← hw0]; simp
    have c5 : w0.cell? ⟨w.heap.size, 5, none⟩ = some (.slice kA t.kids.length kc) := by rw [← hw0]; simp
    have H0 := Lib.hid hw0
    clear hw0
    go_enter Try.func23, Try.ntmps23
    go_wp2_with fail
    rw [H0.out]
    go_loopw [3, 4] (fun s3 s4 wr => ∃ (k acc : Nat), s4 = .int .i64 k ∧ s3 = .int .i64 acc ∧ k ≤ t.attrs.length ∧ Hid (acc + lenA (t.attrs.drop k) = t.own) ∧ Ext w0 wr) (fun _ i _ => t.attrs.length - (intOf i).toNat)
    case atStart => exact ⟨0, t.text.size, rfl, rfl, Nat.zero_le _, hown, Ext.refl _⟩
    case round =>
      obtain ⟨k, acc, rfl, rfl, hk, HW, hE⟩ := hrel
      have d3 := hE.cell c3
      have hacc : acc + lenA (t.attrs.drop k) ≤ 1000000 := by have := HW.out; omega
      rcases Nat.lt_or_ge k t.attrs.length with hlt | hlt
      · obtain ⟨⟨key, val⟩, hx⟩ : ∃ x, t.attrs[k]? = some x := ⟨_, List.getElem?_eq_getElem hlt⟩
        obtain ⟨b, off, rfl, hrd⟩ := a3 (by intro h; rw [h] at hlt; simp at hlt)
        obtain ⟨e1, e2, e3, e4⟩ := rdAttrs_at (rdAttrs_ext (hE0.trans hE) hrd) hx
        have HD := Lib.hid (drop_at hx)
        have hb : acc + (key.size + val.size) ≤ 1000000 := by have := hacc; rw [HD.out, lenA] at this; omega
        clear hx hrd a3
        unfold maxLen at e3 e4
        go_wp2_with fail
        go_quiet (fail)
        go_wp2_with fail
        go_roundw
        case rel => exact ⟨k + 1, acc + (key.size + val.size), by go_num, by go_num, by omega, by rw [← HW.out, HD.out, lenA]; simp only [Hid]; omega, hE.drewN _⟩
        case measure => simp [intOf]; omega
      · have HG : Hid (acc = t.own) := by have := HW.out; rw [List.drop_eq_nil_of_le hlt, lenA] at this; exact this
        clear HW
        go_wp2_with fail
        go_loopw [3, 5] (fun s3 s5 wr => ∃ (k acc : Nat), s5 = .int .i64 k ∧ s3 = .int .i64 acc ∧ k ≤ t.kids.length ∧ acc ≤ 1000001 ∧ Hid (max acc (lngK (t.kids.drop k)) = t.lng) ∧ Ext w0 wr) (fun _ i _ => t.kids.length - (intOf i).toNat)
        case atStart => exact ⟨0, acc, rfl, rfl, Nat.zero_le _, by omega, by rw [List.drop_zero, hcn.out, HG.out]; rfl, hE⟩
        case round =>
          clear HG hacc hE d3
          obtain ⟨k, acc, rfl, rfl, hk, ha, HW, hE⟩ := hrel
          have d5 := hE.cell c5
          rcases Nat.lt_or_ge k t.kids.length with hlt | hlt
          · obtain ⟨kid, hx⟩ : ∃ x, t.kids[k]? = some x := ⟨_, List.getElem?_eq_getElem hlt⟩
            obtain ⟨b, off, rfl, hrd⟩ := k3 (by intro h; rw [h] at hlt; simp at hlt)
            obtain ⟨aA', ac', kA', kc', e0, e1, e2, e3, e4, e5, hkid⟩ := rdKids_get (rdKids_ext (hE0.trans hE) hrd) hx
            have HD := Lib.hid (drop_at hx)
            have hcnt : kid.cnt ≤ N := by have := Nd.cnt_kid hx; omega
            have hkw : kid.wt ≤ 1000000 := by have := Nd.wt_kid hx; omega
            have hkl : kid.lng ≤ 1000000 := by have := Nd.lng_wt kid; omega
            clear hx hrd k3
            go_wp2_with (go_at_call 23; refine (ih kid _ _ hcnt hkid hkw).mono ?_; rintro e w1 ⟨r, rfl, rfl, hE1⟩)
            all_goals go_roundw
            all_goals first
              | (case rel => exact ⟨k + 1, by omega, max acc kid.lng, by omega, by omega, by omega, by rw [← HW.out, HD.out, lngK]; simp only [Hid]; omega, hE.trans hE1⟩)
              | (case measure => simp [intOf]; omega)
          · have HG : Hid (acc = t.lng) := by have := HW.out; rw [List.drop_eq_nil_of_le hlt, lngK] at this; simp only [Hid]; omega
            clear HW
            go_wp2_with fail
            go_ret
            exact ret_int (by rw [HG.out]) (hE0.trans hE)
end Go.Proofs.Ytamkgdkoddoehaa.Bw
