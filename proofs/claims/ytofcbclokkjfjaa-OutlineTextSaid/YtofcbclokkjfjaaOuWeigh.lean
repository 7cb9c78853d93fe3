/- Chapter 24: a contract of chapter 06 turned to this seat (BwWeighWalk). -/
import Derived.Test.YtofcbclokkjfjaaProg
import Derived.Test.YtofcbclokkjfjaaBwWeighPlain
import Derived.BigQuiet
import Derived.Deep.QuietTactic
namespace Go.Proofs.Ytofcbclokkjfjaa.Bw
open Go.RowKit

set_option maxRecDepth 100000 in
set_option maxHeartbeats 1000000 in
theorem weigh_any (N : Nat) : ∀ (t : Nd) (v : Value) (top : Int) (w : World), t.cnt ≤ N → t.rd w v → 0 ≤ top → top ≤ 100000 →
    Calls Try.prog 6 #[v, .int .i64 top] w (Ret w fun r _ => r = .int .i64 (t.weigh top)) := by
  induction N with
  | zero => intro t v top w h; rw [Nd.cnt_eq] at h; omega
  | succ N ih =>
    intro t v top w hN hr h0 h1
    cases t with
    | mk id leaf lb ats tx ks =>
    obtain ⟨av, kv, rfl, i0, i1, hl, ht, hA, hK⟩ := Nd.rd_open hr
    obtain ⟨aA, ac, rfl, a1, a2, a3⟩ := hA
    obtain ⟨kA, kc, rfl, k1, k2, k3⟩ := hK
    simp only [Nd.id, Nd.leaf, Nd.label, Nd.text, Nd.attrs, Nd.kids] at *
    unfold maxLen at hl ht a2 k2
    rcases Int.lt_or_le top (lb.size : Int) with b1 | b1
    · have HF : Hid (Nd.weigh (.mk id leaf lb ats tx ks) top = top + 1) := by rw [Nd.weigh, if_pos (.inl b1)]; rfl
      go_enter Try.func6, Try.ntmps6
      go_wp2_with fail
      go_ret
      exact ret_int HF.out.symm ((Ext.refl w).alloc _)
    rcases Int.lt_or_le top (tx.size : Int) with b2 | b2
    · have HF : Hid (Nd.weigh (.mk id leaf lb ats tx ks) top = top + 1) := by rw [Nd.weigh, if_pos (.inr (.inl b2))]; rfl
      go_enter Try.func6, Try.ntmps6
      go_wp2_with fail
      go_ret
      exact ret_int HF.out.symm ((Ext.refl w).alloc _)
    rcases Int.lt_or_le top (ats.length : Int) with b3 | b3
    · have HF : Hid (Nd.weigh (.mk id leaf lb ats tx ks) top = top + 1) := by rw [Nd.weigh, if_pos (.inr (.inr b3))]; rfl
      go_enter Try.func6, Try.ntmps6
      go_wp2_with fail
      go_ret
      exact ret_int HF.out.symm ((Ext.refl w).alloc _)
    have HF : Hid (Nd.weigh (.mk id leaf lb ats tx ks) top = match weighA top (1 + lb.size + tx.size) ats with | none => top + 1 | some w => weighK top w ks) := by
      rw [Nd.weigh, if_neg (by omega)]; rfl
    obtain ⟨w0, hw0⟩ : ∃ w0, w.alloc (.cells #[.int .u64 id, .bool leaf, .string lb, .slice aA ats.length ac, .string tx, .slice kA ks.length kc] 26) = w0 := ⟨_, rfl⟩
    have hE0 : Ext w w0 := by rw [← hw0]; exact (Ext.refl w).alloc _
    have c3 : w0.cell? ⟨w.heap.size, 3, none⟩ = some (.slice aA ats.length ac) := by rw [← hw0]; simp
    have c5 : w0.cell? ⟨w.heap.size, 5, none⟩ = some (.slice kA ks.length kc) := by rw [← hw0]; simp
    have H0 := Lib.hid hw0
    clear hw0
    go_enter Try.func6, Try.ntmps6
    go_wp2_with fail
    rw [H0.out]
    go_loopw [5, 6] (fun s5 s6 wr => ∃ (k : Nat) (acc : Int), s6 = .int .i64 k ∧ s5 = .int .i64 acc ∧ k ≤ ats.length ∧ 0 ≤ acc ∧ acc ≤ 3 * top + 1 ∧ Hid (weighA top acc (ats.drop k) = weighA top (1 + lb.size + tx.size) ats) ∧ Ext w0 wr) (fun _ i _ => ats.length - (intOf i).toNat)
    case atStart => exact ⟨0, _, rfl, rfl, Nat.zero_le _, by omega, by omega, rfl, Ext.refl _⟩
    case round =>
      obtain ⟨k, acc, rfl, rfl, hk, ha0, ha1, HW, hE⟩ := hrel
      have d3 := hE.cell c3
      rcases Nat.lt_or_ge k ats.length with hlt | hlt
      rcases Int.lt_or_le top acc with hle | hle
      rotate_left
      · obtain ⟨⟨key, val⟩, hx⟩ : ∃ x, ats[k]? = some x := ⟨_, List.getElem?_eq_getElem hlt⟩
        obtain ⟨b, off, rfl, hrd⟩ := a3 (by intro h; subst h; simp at hlt)
        obtain ⟨e1, e2, e3, e4⟩ := rdAttrs_at (rdAttrs_ext (hE0.trans hE) hrd) hx
        have HD := Lib.hid (drop_at hx)
        clear hx hrd a3
        unfold maxLen at e3 e4
        rcases Int.lt_or_le top (key.size : Int) with f1 | f1
        · have HG : Hid (Nd.weigh (.mk id leaf lb ats tx ks) top = top + 1) := by rw [HF.out, ← HW.out, HD.out, weighA_out hle (.inl f1)]; rfl
          clear HW HD HF
          go_wp2_with fail
          go_ret
          exact ret_int HG.out.symm (hE0.trans hE)
        rcases Int.lt_or_le top (val.size : Int) with f2 | f2
        · have HG : Hid (Nd.weigh (.mk id leaf lb ats tx ks) top = top + 1) := by rw [HF.out, ← HW.out, HD.out, weighA_out hle (.inr f2)]; rfl
          clear HW HD HF
          go_wp2_with fail
          go_ret
          exact ret_int HG.out.symm (hE0.trans hE)
        go_wp2_with fail
        go_quiet (fail)
        go_wp2_with fail
        go_roundw
        case rel => exact ⟨k + 1, _, by go_num, rfl, by omega, by omega, by omega, by rw [← HW.out, HD.out, weighA_on hle (by omega) (by omega)]; rfl, hE.drewN _⟩
        case measure => simp [intOf]; omega
      all_goals (have HX : Hid (weighA top (1 + lb.size + tx.size) ats = some acc) := by rw [← HW.out, weighA_done (by first | exact .inr hle | exact .inl (List.drop_eq_nil_of_le hlt))]; rfl)
      all_goals
        clear HW
        rw [HX.out] at HF
        clear HX
        go_wp2_with fail
        go_loopw [5, 7] (fun s5 s7 wr => ∃ (k : Nat) (acc : Int), s7 = .int .i64 k ∧ s5 = .int .i64 acc ∧ k ≤ ks.length ∧ 0 ≤ acc ∧ acc ≤ 3 * top + 1 ∧ Hid (weighK top acc (ks.drop k) = Nd.weigh (.mk id leaf lb ats tx ks) top) ∧ Ext w0 wr) (fun _ i _ => ks.length - (intOf i).toNat)
        case atStart => exact ⟨0, _, rfl, rfl, Nat.zero_le _, by omega, by omega, HF.out.symm, hE⟩
        case round =>
          clear hE
          obtain ⟨k, acc, rfl, rfl, hk, ha0, ha1, HW, hE⟩ := hrel
          have d5 := hE.cell c5
          rcases Nat.lt_or_ge k ks.length with hlt | hlt
          · rcases Int.lt_or_le top acc with hle | hle
            · have HG : Hid (Nd.weigh (.mk id leaf lb ats tx ks) top = acc) := by rw [← HW.out, weighK_done (.inr hle)]; rfl
              clear HW HF
              go_wp2_with fail
              go_ret
              exact ret_int HG.out.symm (hE0.trans hE)
            · obtain ⟨kid, hx⟩ : ∃ x, ks[k]? = some x := ⟨_, List.getElem?_eq_getElem hlt⟩
              obtain ⟨b, off, rfl, hrd⟩ := k3 (by intro h; subst h; simp at hlt)
              obtain ⟨aA', ac', kA', kc', e0, e1, e2, e3, e4, e5, hkid⟩ := rdKids_get (rdKids_ext (hE0.trans hE) hrd) hx
              have HD := Lib.hid (drop_at hx)
              have hcnt : kid.cnt ≤ N := by have := Nd.cnt_kid (t := .mk id leaf lb ats tx ks) hx; omega
              have hb := Nd.weigh_le kid (top - acc) (by omega)
              clear hx hrd k3
              go_wp2_with (go_at_call 6; refine (ih kid _ (top - acc) _ hcnt hkid (by omega) (by omega)).mono ?_; rintro e w1 ⟨r, rfl, rfl, hE1⟩)
              go_roundw
              case rel => exact ⟨k + 1, _, by go_num, rfl, by omega, by omega, by omega, by rw [← HW.out, HD.out, weighK_on hle]; rfl, hE.trans hE1⟩
              case measure => simp [intOf]; omega
          · have HG : Hid (Nd.weigh (.mk id leaf lb ats tx ks) top = acc) := by rw [← HW.out, weighK_done (.inl (List.drop_eq_nil_of_le hlt))]; rfl
            clear HW HF
            go_wp2_with fail
            go_ret
            exact ret_int HG.out.symm (hE0.trans hE)
end Go.Proofs.Ytofcbclokkjfjaa.Bw
