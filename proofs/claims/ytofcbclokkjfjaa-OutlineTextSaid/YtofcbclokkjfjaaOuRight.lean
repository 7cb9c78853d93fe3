/- Chapter 24: a contract of chapter 06 turned to this seat (BwRight). -/
import Derived.Test.YtofcbclokkjfjaaOuBox
import Derived.Test.YtofcbclokkjfjaaOuKey
import Derived.WalkLawsBesides
import Derived.BigQuiet
import Derived.Deep.QuietTactic
namespace Go.Proofs.Ytofcbclokkjfjaa.Bw
open Go.RowKit Go.Shelf

theorem key_yes (s : ByteArray) (w : World) (hs : s.size ≤ maxLen) (h : keyOk s = true) : Calls Try.prog 72 #[.string s] w fun e w' => e = .returned (.bool true) ∧ w' = w := by
  have := key_any s w hs; rwa [h] at this
theorem key_no (s : ByteArray) (w : World) (hs : s.size ≤ maxLen) (h : keyOk s = false) : Calls Try.prog 72 #[.string s] w fun e w' => e = .returned (.bool false) ∧ w' = w := by
  have := key_any s w hs; rwa [h] at this
theorem rkey_yes (s : ByteArray) (w : World) (hs : s.size ≤ maxLen) (h : keyOk s = true) : Calls Try.prog 62 #[.string s] w fun e w' => e = .returned (.bool true) ∧ w' = w := by
  have := rkey_any s w hs; rwa [h] at this
theorem rkey_no (s : ByteArray) (w : World) (hs : s.size ≤ maxLen) (h : keyOk s = false) : Calls Try.prog 62 #[.string s] w fun e w' => e = .returned (.bool false) ∧ w' = w := by
  have := rkey_any s w hs; rwa [h] at this

/-- The key ahead of place i. -/
def prevK (l : List (ByteArray × ByteArray)) : Nat → Option ByteArray
  | 0 => none
  | i + 1 => (l[i]?).map (·.1)

theorem Nd.right1_mk (id : Int) (lf : Bool) (lb tx : ByteArray) (ats : List (ByteArray × ByteArray)) (ks : List Nd) :
    (Nd.mk id lf lb ats tx ks).right1 = (decide (lb.size ≤ 64) && !(lf && decide (0 < ks.length)) && !(!lf && decide (0 < tx.size)) && attrsOk none ats) := rfl
theorem Nd.shape_a {id : Int} {lf : Bool} {lb tx : ByteArray} {ats : List (ByteArray × ByteArray)} {ks : List Nd} (h : 64 < lb.size) : (Nd.mk id lf lb ats tx ks).right1 = false := by
  rw [Nd.right1_mk, decide_eq_false (by omega)]; rfl
theorem Nd.shape_b {id : Int} {lb tx : ByteArray} {ats : List (ByteArray × ByteArray)} {ks : List Nd} (h : 0 < ks.length) : (Nd.mk id true lb ats tx ks).right1 = false := by
  rw [Nd.right1_mk, decide_eq_true h]; simp
theorem Nd.shape_c {id : Int} {lb tx : ByteArray} {ats : List (ByteArray × ByteArray)} {ks : List Nd} (h : 0 < tx.size) : (Nd.mk id false lb ats tx ks).right1 = false := by
  rw [Nd.right1_mk, decide_eq_true h]; simp
theorem Nd.shape_ok {id : Int} {lf : Bool} {lb tx : ByteArray} {ats : List (ByteArray × ByteArray)} {ks : List Nd} (h : lb.size ≤ 64) (h2 : lf = true → ks.length = 0) (h3 : lf = false → tx.size = 0) : (Nd.mk id lf lb ats tx ks).right1 = attrsOk none ats := by
  rw [Nd.right1_mk, decide_eq_true h]
  cases lf with
  | true => rw [h2 rfl]; simp
  | false => rw [h3 rfl]; simp

theorem prevK_succ {l : List (ByteArray × ByteArray)} {i : Nat} {k v : ByteArray} (h : l[i]? = some (k, v)) : prevK l (i + 1) = some k := by simp [prevK, h]
theorem prevK_pos {l : List (ByteArray × ByteArray)} {i : Nat} {k v : ByteArray} (h0 : 0 < i) (h : l[i - 1]? = some (k, v)) : prevK l i = some k := by
  cases i with
  | zero => omega
  | succ j => exact prevK_succ (by simpa using h)
theorem attrsOk_1 {p : Option ByteArray} {k v : ByteArray} {r : List (ByteArray × ByteArray)} (h : keyOk k = false) : attrsOk p ((k, v) :: r) = false := by cases p <;> simp [attrsOk, h]
theorem attrsOk_2 {p : Option ByteArray} {k v : ByteArray} {r : List (ByteArray × ByteArray)} (h : 256 < v.size) : attrsOk p ((k, v) :: r) = false := by have h' : decide (v.size ≤ 256) = false := decide_eq_false (by omega); cases p <;> simp [attrsOk, h']
theorem attrsOk_3 {q : ByteArray} {k v : ByteArray} {r : List (ByteArray × ByteArray)} (h : strLe k q = true) : attrsOk (some q) ((k, v) :: r) = false := by simp [attrsOk, h]
theorem attrsOk_n {k v : ByteArray} {r : List (ByteArray × ByteArray)} (h : keyOk k = true) (h2 : v.size ≤ 256) : attrsOk none ((k, v) :: r) = attrsOk (some k) r := by rw [attrsOk, h, decide_eq_true h2]; simp
theorem attrsOk_s {q : ByteArray} {k v : ByteArray} {r : List (ByteArray × ByteArray)} (h : keyOk k = true) (h2 : v.size ≤ 256) (h3 : strLe k q = false) : attrsOk (some q) ((k, v) :: r) = attrsOk (some k) r := by rw [attrsOk, h, decide_eq_true h2, h3]; simp

set_option maxRecDepth 100000 in
set_option maxHeartbeats 2000000 in
theorem right1_any (t : Nd) (v : Value) (w : World) (hr : t.rd w v) : Calls Try.prog 61 #[v] w (Ret w fun r _ => r = .bool t.right1) := by
  obtain ⟨av, kv, rfl, i0, i1, hl, ht, ⟨aA, ac, rfl, a1, a2, a3⟩, ⟨kA, kc, rfl, k1, k2, _⟩⟩ := Nd.rd_open hr
  obtain ⟨id, lf, lb, ats, tx, ks⟩ := t
  simp only [Nd.id, Nd.leaf, Nd.label, Nd.text, Nd.attrs, Nd.kids] at *
  unfold maxLen at hl ht a2 k2
  rcases Nat.lt_or_ge 64 lb.size with b1 | b1
  · have HF := Lib.hid (Nd.shape_a (id := id) (lf := lf) (tx := tx) (ats := ats) (ks := ks) b1)
    go_enter Try.func61, Try.ntmps61
    go_wp2_with fail
    go_ret
    exact ret_bool HF.out.symm ((Ext.refl w).alloc _)
  have hcase : (lf = true ∧ 0 < ks.length) ∨ (lf = false ∧ 0 < tx.size) ∨ (lf = true ∧ ks.length = 0) ∨ (lf = false ∧ tx.size = 0) := by
    cases lf
    · rcases Nat.eq_zero_or_pos tx.size with h | h <;> simp [h]
    · rcases Nat.eq_zero_or_pos ks.length with h | h <;> simp [h]
  rcases hcase with ⟨rfl, b2⟩ | ⟨rfl, b2⟩ | ⟨rfl, b2⟩ | ⟨rfl, b2⟩
  · have HF := Lib.hid (Nd.shape_b (id := id) (lb := lb) (tx := tx) (ats := ats) (ks := ks) b2)
    go_enter Try.func61, Try.ntmps61
    go_wp2_with fail
    go_ret
    exact ret_bool HF.out.symm ((Ext.refl w).alloc _)
  · have HF := Lib.hid (Nd.shape_c (id := id) (lb := lb) (tx := tx) (ats := ats) (ks := ks) b2)
    have hs := str_some b2
    go_enter Try.func61, Try.ntmps61
    go_wp2_with fail
    go_ret
    exact ret_bool HF.out.symm ((Ext.refl w).alloc _)
  case' inr.inr.inl =>
    have HF := Lib.hid (Nd.shape_ok (id := id) (lf := true) (lb := lb) (tx := tx) (ats := ats) (ks := ks) b1 (fun _ => b2) (fun h => by cases h))
    have b3 : ks.length ≤ 0 := by omega
  case' inr.inr.inr =>
    have HF := Lib.hid (Nd.shape_ok (id := id) (lf := false) (lb := lb) (tx := tx) (ats := ats) (ks := ks) b1 (fun h => by cases h) (fun _ => b2))
    have b3 := str_empty b2
  all_goals
    clear b2
    go_enter Try.func61, Try.ntmps61
    go_wp2_with fail
    generalize hw0 : w.alloc (.cells #[.int .u64 id, .bool _, .string lb, .slice aA ats.length ac, .string tx, .slice kA ks.length kc] 26) = w0
    have hE0 : Ext w w0 := by rw [← hw0]; exact (Ext.refl w).alloc _
    have c3 : w0.cell? ⟨w.heap.size, 3, none⟩ = some (.slice aA ats.length ac) := by rw [← hw0]; simp
    clear hw0
    go_loopw [32] (fun s32 wr => ∃ i : Nat, s32 = .int .i64 i ∧ i ≤ ats.length ∧ Hid (attrsOk (prevK ats i) (ats.drop i) = attrsOk none ats) ∧ Ext w0 wr) (fun i _ => ats.length - (intOf i).toNat)
    case atStart => exact ⟨0, rfl, Nat.zero_le _, rfl, Ext.refl _⟩
    case round =>
      obtain ⟨i, rfl, hi, HW, hE⟩ := hrel
      have d3 := hE.cell c3
      rcases Nat.lt_or_ge i ats.length with hlt | hlt
      · obtain ⟨⟨key, val⟩, hx⟩ : ∃ x, ats[i]? = some x := ⟨_, List.getElem?_eq_getElem hlt⟩
        obtain ⟨b, off, rfl, hrd⟩ := a3 (by intro h; rw [h] at hlt; simp at hlt)
        have hrd' := rdAttrs_ext (hE0.trans hE) hrd
        obtain ⟨e1, e2, e3, e4⟩ := rdAttrs_at hrd' hx
        have HD := Lib.hid (drop_at hx)
        have hx := Lib.hid hx
        obtain ⟨w2, hw2⟩ : ∃ w2, wr.alloc (.cells #[.string key, .string val] 45) = w2 := ⟨_, rfl⟩
        have hE2 : Ext wr w2 := by rw [← hw2]; exact (Ext.refl _).alloc _
        have g0 : w2.cell? ⟨wr.heap.size, 0, none⟩ = some (.string key) := by rw [← hw2]; simp
        have g1 : w2.cell? ⟨wr.heap.size, 1, none⟩ = some (.string val) := by rw [← hw2]; simp
        have d32 := hE2.cell d3
        have H2 := Lib.hid hw2
        clear hrd a3 hw2
        have q1 : (0 : Int) ≤ (i : Int) := by omega
        have q2 : (i : Int) < (ats.length : Int) := by omega
        rcases hko : keyOk key with _ | _
        · have HG : Hid (attrsOk none ats = false) := by rw [← HW.out, HD.out, attrsOk_1 hko]; rfl
          rw [HG.out] at HF
          have HK := Lib.hid hko
          clear HW HG HD hko
          go_wp2_with fail
          rw [H2.out]
          go_quiet ((go_at_call 72; exact Calls.quiet_of_same (key_no key _ e3 HK.out)))
          go_wp2_with fail
          go_ret
          exact ret_bool HF.out.symm ((hE0.trans (hE.trans hE2)).drewN _)
        have HK := Lib.hid hko
        rcases Nat.lt_or_ge 256 val.size with hv | hv
        · have HG : Hid (attrsOk none ats = false) := by rw [← HW.out, HD.out, attrsOk_2 hv]; rfl
          rw [HG.out] at HF
          clear HW HG HD hko
          have hvd : decide ((256 : Int) < val.size) = true := by simp; omega
          go_wp2_with fail
          rw [H2.out]
          go_quiet ((go_at_call 72; exact Calls.quiet_of_same (key_yes key _ e3 HK.out)))
          go_wp2_with fail
          go_ret
          exact ret_bool HF.out.symm ((hE0.trans (hE.trans hE2)).drewN _)
        have hvd : decide ((256 : Int) < val.size) = false := by simp; omega
        rcases Nat.eq_zero_or_pos i with hi0 | hi0
        · have HN : Hid (attrsOk (prevK ats (i + 1)) (ats.drop (i + 1)) = attrsOk none ats) := by
            rw [← HW.out, HD.out, prevK_succ hx.out]
            subst hi0
            simp only [prevK, Hid]; rw [attrsOk_n hko hv]
          have hid : decide (0 < i) = false := by simp; omega
          clear HW HD hko hi0
          go_wp2_with fail
          rw [H2.out]
          go_quiet ((go_at_call 72; exact Calls.quiet_of_same (key_yes key _ e3 HK.out)))
          go_wp2_with fail
          go_roundw
          case rel => exact ⟨i + 1, by go_num, by omega, HN, (hE.trans hE2).drewN _⟩
          case measure => simp [intOf]; omega
        · obtain ⟨⟨pk, pv⟩, hy⟩ : ∃ x, ats[i - 1]? = some x := ⟨_, List.getElem?_eq_getElem (by omega)⟩
          obtain ⟨f1, f2, f3, f4⟩ := rdAttrs_at (rdAttrs_ext hE2 hrd') hy
          have q3 : (1 : Int) ≤ (i : Int) := by omega
          have q4 : (0 : Int) ≤ (i : Int) - 1 := by omega
          have q5 : (i : Int) - 1 < (ats.length : Int) := by omega
          have hid : decide (0 < i) = true := by simp; omega
          have hp := Lib.hid (prevK_pos hi0 hy)
          clear hy hi0
          rcases hs1 : Op.bytesLess key.toList pk.toList with _ | _
          · rcases hs2 : (key.toList == pk.toList) with _ | _
            · have HN : Hid (attrsOk (prevK ats (i + 1)) (ats.drop (i + 1)) = attrsOk none ats) := by
                rw [← HW.out, HD.out, prevK_succ hx.out, hp.out, attrsOk_s hko hv (by simp [strLe, hs1, hs2])]; rfl
              clear HW HD hko
              have hwr : IntKind.i64.wrap ((i : Int) - 1) = (i : Int) - 1 := IntWalk.i64_in _ (by omega)
              have htn : ((i : Int) - 1).toNat = i - 1 := by omega
              go_wp2_with fail
              rw [H2.out]
              go_quiet ((go_at_call 72; exact Calls.quiet_of_same (key_yes key _ e3 HK.out)))
              clear hwr htn
              go_wp2_with fail
              go_roundw
              case rel => exact ⟨i + 1, by go_num, by omega, HN, (hE.trans hE2).drewN _⟩
              case measure => simp [intOf]; omega
            · have HG : Hid (attrsOk none ats = false) := by rw [← HW.out, HD.out, hp.out, attrsOk_3 (by simp [strLe, hs2])]; rfl
              rw [HG.out] at HF
              clear HW HG HD hko
              have hwr : IntKind.i64.wrap ((i : Int) - 1) = (i : Int) - 1 := IntWalk.i64_in _ (by omega)
              have htn : ((i : Int) - 1).toNat = i - 1 := by omega
              go_wp2_with fail
              rw [H2.out]
              go_quiet ((go_at_call 72; exact Calls.quiet_of_same (key_yes key _ e3 HK.out)))
              clear hwr htn
              go_wp2_with fail
              go_ret
              exact ret_bool HF.out.symm ((hE0.trans (hE.trans hE2)).drewN _)
          · have HG : Hid (attrsOk none ats = false) := by rw [← HW.out, HD.out, hp.out, attrsOk_3 (by simp [strLe, hs1])]; rfl
            rw [HG.out] at HF
            clear HW HG HD hko
            have hwr : IntKind.i64.wrap ((i : Int) - 1) = (i : Int) - 1 := IntWalk.i64_in _ (by omega)
            have htn : ((i : Int) - 1).toNat = i - 1 := by omega
            go_wp2_with fail
            rw [H2.out]
            go_quiet ((go_at_call 72; exact Calls.quiet_of_same (key_yes key _ e3 HK.out)))
            clear hwr htn
            go_wp2_with fail
            go_ret
            exact ret_bool HF.out.symm ((hE0.trans (hE.trans hE2)).drewN _)
      · have HG : Hid (attrsOk none ats = true) := by rw [← HW.out, List.drop_eq_nil_of_le hlt]; cases prevK ats i <;> rfl
        rw [HG.out] at HF
        clear HW HG
        go_wp2_with fail
        go_ret
        exact ret_bool HF.out.symm (hE0.trans hE)
end Go.Proofs.Ytofcbclokkjfjaa.Bw
