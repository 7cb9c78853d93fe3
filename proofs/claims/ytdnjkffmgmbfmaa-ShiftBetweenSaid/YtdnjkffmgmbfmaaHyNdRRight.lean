/- SyNdIds2 turned to this seat. (Printed by gport.py.) -/
import Derived.Test.YtdnjkffmgmbfmaaHyNdLong
import Derived.Test.YtdnjkffmgmbfmaaProg
import Derived.BigQuiet
import Derived.Deep.QuietTactic
import Derived.WalkLawsBesides
namespace Go.Proofs.Ytdnjkffmgmbfmaa.Bw
open Go.RowKit Go.Shelf
attribute [local go_sem] Oper.semAt_some
theorem owns_type {W : World} {base e size n : Nat} {v : Value} {xs : List Value} (h : W.ownsRow base e size v n xs) {T k : Nat} {c : Array Value} {fz : Nat × Nat} (hT : e ≠ T) (hk : v.ownBlock = some k) : W.heap[k]? ≠ some (.cells c T fz) := by
  rcases h.2 with ⟨rfl, _⟩ | ⟨g, cap, cur, rfl, _, hg, _⟩
  · simp [Value.ownBlock] at hk
  · obtain rfl : g = k := by simpa [Value.ownBlock] using hk
    rw [hg]; intro he; cases he; exact hT rfl
/-- A round that appends onto a row of the call's own. -/
theorem Keep2.grown {n₀ T : Nat} {A W W' : World} (h : Keep2 n₀ T A W) {base e size n : Nat} {v : Value} {xs : List Value} (hown : W.ownsRow base e size v n xs) (hT : e ≠ T) (hg : W.grownBy W' v.ownBlock) (hn : n₀ ≤ base) (hW : n₀ ≤ W.heap.size) : Keep2 n₀ T A W' := by
  refine h.trans ⟨KeepT.grown ((Below.refl n₀ W).grown hg hW (fun k e => Nat.le_trans hn (owns_base hown k e))) hg (fun k c fz e => owns_type hown hT e), KeepsOthers.of_grownBy hg fun j o ej hj => ?_⟩
  rcases hown.2 with ⟨rfl, _⟩ | ⟨g, cap, cur, rfl, _, hgb, _⟩
  · simp [Value.ownBlock] at ej
  · obtain rfl : g = j := by simpa [Value.ownBlock] using ej
    rw [hgb] at hj; cases hj; rfl
end Go.Proofs.Ytdnjkffmgmbfmaa.Bw
namespace Go.Proofs.Ytdnjkffmgmbfmaa.Bw
open Go.RowKit
set_option maxHeartbeats 400000 in
theorem key_any (s : ByteArray) (w : World) (hs : s.size ≤ maxLen) : Calls Try.prog 65 #[.string s] w fun e w' => e = .returned (.bool (keyOk s)) ∧ w' = w := by
  unfold maxLen at hs
  rcases Nat.eq_zero_or_pos s.size with h0 | h0
  · have hl := str_empty h0
    have hk : Hid (keyOk s = false) := by simp only [Hid, keyOk]; exact decide_eq_false (by omega)
    go_enter Try.func65, Try.ntmps65
    go_wp2_with fail
    go_ret
    exact ⟨by rw [hk.out]; rfl, rfl⟩
  · have hl := str_some h0
    rcases Nat.lt_or_ge 64 s.size with h1 | h1
    · have hk : Hid (keyOk s = false) := by simp only [Hid, keyOk]; exact decide_eq_false (by omega)
      go_enter Try.func65, Try.ntmps65
      go_wp2_with fail
      go_ret
      exact ⟨by rw [hk.out]; simp; omega, rfl⟩
    · have hk : Hid (keyOk s = true) := by simp only [Hid, keyOk]; exact decide_eq_true (by omega)
      go_enter Try.func65, Try.ntmps65
      go_wp2_with fail
      go_ret
      exact ⟨by rw [hk.out]; simp; omega, rfl⟩
set_option maxHeartbeats 400000 in
theorem rkey_any (s : ByteArray) (w : World) (hs : s.size ≤ maxLen) : Calls Try.prog 68 #[.string s] w fun e w' => e = .returned (.bool (keyOk s)) ∧ w' = w := by
  unfold maxLen at hs
  rcases Nat.eq_zero_or_pos s.size with h0 | h0
  · have hk : Hid (keyOk s = false) := by simp only [Hid, keyOk]; exact decide_eq_false (by omega)
    have hd : decide ((1 : Int) ≤ s.size) = false := by simp; omega
    go_enter Try.func68, Try.ntmps68
    go_wp2_with fail
    go_ret
    exact ⟨by rw [hk.out]; rfl, rfl⟩
  · rcases Nat.lt_or_ge 64 s.size with h1 | h1
    · have hk : Hid (keyOk s = false) := by simp only [Hid, keyOk]; exact decide_eq_false (by omega)
      go_enter Try.func68, Try.ntmps68
      go_wp2_with fail
      go_ret
      exact ⟨by rw [hk.out]; simp; omega, rfl⟩
    · have hk : Hid (keyOk s = true) := by simp only [Hid, keyOk]; exact decide_eq_true (by omega)
      go_enter Try.func68, Try.ntmps68
      go_wp2_with fail
      go_ret
      exact ⟨by rw [hk.out]; simp; omega, rfl⟩
end Go.Proofs.Ytdnjkffmgmbfmaa.Bw
namespace Go.Proofs.Ytdnjkffmgmbfmaa.Bw
open Go.RowKit Go.Shelf
theorem rkey_yes (s : ByteArray) (w : World) (hs : s.size ≤ maxLen) (h : keyOk s = true) : Calls Try.prog 68 #[.string s] w fun e w' => e = .returned (.bool true) ∧ w' = w := by
  have := rkey_any s w hs; rwa [h] at this
theorem rkey_no (s : ByteArray) (w : World) (hs : s.size ≤ maxLen) (h : keyOk s = false) : Calls Try.prog 68 #[.string s] w fun e w' => e = .returned (.bool false) ∧ w' = w := by
  have := rkey_any s w hs; rwa [h] at this
/-- The key ahead of place i. -/
def prevK (l : List (ByteArray × ByteArray)) : Nat → Option ByteArray
  | 0 => none
  | i + 1 => (l[i]?).map (·.1)
theorem Nd.right1_mk (id : Int) (lf : Bool) (lb tx : ByteArray) (ats : List (ByteArray × ByteArray)) (ks : List Nd) :
    (Nd.mk id lf lb ats tx ks).right1 = (decide (lb.size ≤ 64) && !(lf && decide (0 < ks.length)) && !(!lf && decide (0 < tx.size)) && attrsOk none ats) := rfl
theorem Nd.shape_a {id : Int} {lf : Bool} {lb tx : ByteArray} {ats : List (ByteArray × ByteArray)} {ks : List Nd} (h : 64 < lb.size) : (Nd.mk id lf lb ats tx ks).right1 = false := by
  rw [Nd.right1_mk, decide_eq_false (by omega)]; rfl
theorem Nd.shape_b {id : Int} {lb tx : ByteArray} {ats : List (ByteArray × ByteArray)} {ks : List Nd} (h : 0 < ks.length) : (Nd.mk id true lb ats tx ks).right1 = false := by
  rw [Nd.right1_mk, decide_eq_true h]; simp
theorem Nd.shape_c {id : Int} {lb tx : ByteArray} {ats : List (ByteArray × ByteArray)} {ks : List Nd} (h : 0 < tx.size) : (Nd.mk id false lb ats tx ks).right1 = false := by
  rw [Nd.right1_mk, decide_eq_true h]; simp
theorem Nd.shape_ok {id : Int} {lf : Bool} {lb tx : ByteArray} {ats : List (ByteArray × ByteArray)} {ks : List Nd} (h : lb.size ≤ 64) (h2 : lf = true → ks.length = 0) (h3 : lf = false → tx.size = 0) : (Nd.mk id lf lb ats tx ks).right1 = attrsOk none ats := by
  rw [Nd.right1_mk, decide_eq_true h]
  cases lf with
  | true => rw [h2 rfl]; simp
  | false => rw [h3 rfl]; simp
theorem prevK_succ {l : List (ByteArray × ByteArray)} {i : Nat} {k v : ByteArray} (h : l[i]? = some (k, v)) : prevK l (i + 1) = some k := by simp [prevK, h]
theorem prevK_pos {l : List (ByteArray × ByteArray)} {i : Nat} {k v : ByteArray} (h0 : 0 < i) (h : l[i - 1]? = some (k, v)) : prevK l i = some k := by
  cases i with
  | zero => omega
  | succ j => exact prevK_succ (by simpa using h)
theorem attrsOk_1 {p : Option ByteArray} {k v : ByteArray} {r : List (ByteArray × ByteArray)} (h : keyOk k = false) : attrsOk p ((k, v) :: r) = false := by cases p <;> simp [attrsOk, h]
theorem attrsOk_2 {p : Option ByteArray} {k v : ByteArray} {r : List (ByteArray × ByteArray)} (h : 256 < v.size) : attrsOk p ((k, v) :: r) = false := by have h' : decide (v.size ≤ 256) = false := decide_eq_false (by omega); cases p <;> simp [attrsOk, h']
theorem attrsOk_3 {q : ByteArray} {k v : ByteArray} {r : List (ByteArray × ByteArray)} (h : strLe k q = true) : attrsOk (some q) ((k, v) :: r) = false := by simp [attrsOk, h]
theorem attrsOk_n {k v : ByteArray} {r : List (ByteArray × ByteArray)} (h : keyOk k = true) (h2 : v.size ≤ 256) : attrsOk none ((k, v) :: r) = attrsOk (some k) r := by rw [attrsOk, h, decide_eq_true h2]; simp
theorem attrsOk_s {q : ByteArray} {k v : ByteArray} {r : List (ByteArray × ByteArray)} (h : keyOk k = true) (h2 : v.size ≤ 256) (h3 : strLe k q = false) : attrsOk (some q) ((k, v) :: r) = attrsOk (some k) r := by rw [attrsOk, h, decide_eq_true h2, h3]; simp
end Go.Proofs.Ytdnjkffmgmbfmaa.Bw
namespace Go.Proofs.Ytdnjkffmgmbfmaa.Bw
open Go.RowKit Go.Shelf
theorem Nd.rightAll_no {t : Nd} (h : t.right1 = false) : t.rightAll = false := by rw [Nd.rightAll_eq, h]; rfl
theorem Nd.rightAll_yes {t : Nd} (h : t.right1 = true) : t.rightAll = rightK t.kids := by rw [Nd.rightAll_eq, h]; rfl
theorem rightK_no {k : Nd} {r : List Nd} (h : k.rightAll = false) : rightK (k :: r) = false := by rw [rightK, h]; rfl
theorem rightK_yes {k : Nd} {r : List Nd} (h : k.rightAll = true) : rightK (k :: r) = rightK r := by rw [rightK, h]; rfl
set_option maxRecDepth 100000 in
set_option maxHeartbeats 2000000 in
theorem rright_any (N : Nat) : ∀ (t : Nd) (v : Value) (w : World), t.cnt ≤ N → t.rd w v → Calls Try.prog 69 #[v] w (Ret w fun r _ => r = .bool t.rightAll) := by
 induction N with
 | zero => intro t v w h; rw [Nd.cnt_eq] at h; omega
 | succ N ih =>
  intro t v w hN hr
  obtain ⟨av, kv, rfl, i0, i1, hl, ht, ⟨aA, ac, rfl, a1, a2, a3⟩, ⟨kA, kc, rfl, k1, k2, k3⟩⟩ := Nd.rd_open hr
  obtain ⟨id, lf, lb, ats, tx, ks⟩ := t
  simp only [Nd.id, Nd.leaf, Nd.label, Nd.text, Nd.attrs, Nd.kids] at *
  unfold maxLen at hl ht a2 k2
  rcases Nat.lt_or_ge 64 lb.size with b1 | b1
  · have HF := Lib.hid (Nd.rightAll_no (Nd.shape_a (id := id) (lf := lf) (tx := tx) (ats := ats) (ks := ks) b1))
    go_enter Try.func69, Try.ntmps69
    go_wp2_with fail
    go_ret
    exact ret_bool HF.out.symm ((Ext.refl w).alloc _)
  have hcase : (lf = true ∧ 0 < ks.length) ∨ (lf = false ∧ 0 < tx.size) ∨ (lf = true ∧ ks.length = 0) ∨ (lf = false ∧ tx.size = 0) := by
    cases lf
    · rcases Nat.eq_zero_or_pos tx.size with h | h <;> simp [h]
    · rcases Nat.eq_zero_or_pos ks.length with h | h <;> simp [h]
  rcases hcase with ⟨rfl, b2⟩ | ⟨rfl, b2⟩ | ⟨rfl, b2⟩ | ⟨rfl, b2⟩
  · have HF := Lib.hid (Nd.rightAll_no (Nd.shape_b (id := id) (lb := lb) (tx := tx) (ats := ats) (ks := ks) b2))
    go_enter Try.func69, Try.ntmps69
    go_wp2_with fail
    go_ret
    exact ret_bool HF.out.symm ((Ext.refl w).alloc _)
  · have HF := Lib.hid (Nd.rightAll_no (Nd.shape_c (id := id) (lb := lb) (tx := tx) (ats := ats) (ks := ks) b2))
    have hs := str_some b2
    go_enter Try.func69, Try.ntmps69
    go_wp2_with fail
    go_ret
    exact ret_bool HF.out.symm ((Ext.refl w).alloc _)
  case' inr.inr.inl =>
    have HF := Lib.hid (Nd.shape_ok (id := id) (lf := true) (lb := lb) (tx := tx) (ats := ats) (ks := ks) b1 (fun _ => b2) (fun h => by cases h))
    have b3 : ks.length ≤ 0 := by omega
  case' inr.inr.inr =>
    have HF := Lib.hid (Nd.shape_ok (id := id) (lf := false) (lb := lb) (tx := tx) (ats := ats) (ks := ks) b1 (fun h => by cases h) (fun _ => b2))
    have b3 := str_empty b2
  all_goals
    clear b2
    go_enter Try.func69, Try.ntmps69
    go_wp2_with fail
    generalize hw0 : w.alloc (.cells #[.int .u64 id, .bool _, .string lb, .slice aA ats.length ac, .string tx, .slice kA ks.length kc] 42) = w0
    have hE0 : Ext w w0 := by rw [← hw0]; exact (Ext.refl w).alloc _
    have c5 : w0.cell? ⟨w.heap.size, 5, none⟩ = some (.slice kA ks.length kc) := by rw [← hw0]; simp
    have c3 : w0.cell? ⟨w.heap.size, 3, none⟩ = some (.slice aA ats.length ac) := by rw [← hw0]; simp
    clear hw0
    go_loopw [3] (fun s32 wr => ∃ i : Nat, s32 = .int .i64 i ∧ i ≤ ats.length ∧ Hid (attrsOk (prevK ats i) (ats.drop i) = attrsOk none ats) ∧ Ext w0 wr) (fun i _ => ats.length - (intOf i).toNat)
    case atStart => exact ⟨0, rfl, Nat.zero_le _, rfl, Ext.refl _⟩
    case round =>
      obtain ⟨i, rfl, hi, HW, hE⟩ := hrel
      have d3 := hE.cell c3
      rcases Nat.lt_or_ge i ats.length with hlt | hlt
      · obtain ⟨⟨key, val⟩, hx⟩ : ∃ x, ats[i]? = some x := ⟨_, List.getElem?_eq_getElem hlt⟩
        obtain ⟨b, off, rfl, hrd⟩ := a3 (by intro h; rw [h] at hlt; simp at hlt)
        have hrd' := rdAttrs_ext (hE0.trans hE) hrd
        obtain ⟨e1, e2, e3, e4⟩ := rdAttrs_at hrd' hx
        have HD := Lib.hid (drop_at hx)
        have hx := Lib.hid hx
        clear hrd a3
        have q1 : (0 : Int) ≤ (i : Int) := by omega
        have q2 : (i : Int) < (ats.length : Int) := by omega
        rcases hko : keyOk key with _ | _
        · have HG : Hid (attrsOk none ats = false) := by rw [← HW.out, HD.out, attrsOk_1 hko]; rfl
          replace HF := Lib.hid (Nd.rightAll_no (HF.out.trans HG.out))
          have HK := Lib.hid hko
          clear HW HG HD hko
          go_wp2_with fail
          go_quiet ((go_at_call 68; exact Calls.quiet_of_same (rkey_no key _ e3 HK.out)))
          go_wp2_with fail
          go_ret
          exact ret_bool HF.out.symm ((hE0.trans hE).drewN _)
        have HK := Lib.hid hko
        rcases Nat.lt_or_ge 256 val.size with hv | hv
        · have HG : Hid (attrsOk none ats = false) := by rw [← HW.out, HD.out, attrsOk_2 hv]; rfl
          replace HF := Lib.hid (Nd.rightAll_no (HF.out.trans HG.out))
          clear HW HG HD hko
          have hvd : decide ((256 : Int) < val.size) = true := by simp; omega
          go_wp2_with fail
          go_quiet ((go_at_call 68; exact Calls.quiet_of_same (rkey_yes key _ e3 HK.out)))
          go_wp2_with fail
          go_ret
          exact ret_bool HF.out.symm ((hE0.trans hE).drewN _)
        have hvd : decide ((256 : Int) < val.size) = false := by simp; omega
        rcases Nat.eq_zero_or_pos i with hi0 | hi0
        · have HN : Hid (attrsOk (prevK ats (i + 1)) (ats.drop (i + 1)) = attrsOk none ats) := by
            rw [← HW.out, HD.out, prevK_succ hx.out]
            subst hi0
            simp only [prevK, Hid]; rw [attrsOk_n hko hv]
          have hid : decide (0 < i) = false := by simp; omega
          clear HW HD hko hi0
          go_wp2_with fail
          go_quiet ((go_at_call 68; exact Calls.quiet_of_same (rkey_yes key _ e3 HK.out)))
          go_wp2_with fail
          go_roundw
          case rel => exact ⟨i + 1, by go_num, by omega, HN, hE.drewN _⟩
          case measure => simp [intOf]; omega
        · obtain ⟨⟨pk, pv⟩, hy⟩ : ∃ x, ats[i - 1]? = some x := ⟨_, List.getElem?_eq_getElem (by omega)⟩
          obtain ⟨f1, f2, f3, f4⟩ := rdAttrs_at hrd' hy
          have q3 : (1 : Int) ≤ (i : Int) := by omega
          have q4 : (0 : Int) ≤ (i : Int) - 1 := by omega
          have q5 : (i : Int) - 1 < (ats.length : Int) := by omega
          have hid : decide (0 < i) = true := by simp; omega
          have hp := Lib.hid (prevK_pos hi0 hy)
          clear hy hi0
          rcases hs1 : Op.bytesLess key.toList pk.toList with _ | _
          · rcases hs2 : (key.toList == pk.toList) with _ | _
            · have HN : Hid (attrsOk (prevK ats (i + 1)) (ats.drop (i + 1)) = attrsOk none ats) := by
                rw [← HW.out, HD.out, prevK_succ hx.out, hp.out, attrsOk_s hko hv (by simp [strLe, hs1, hs2])]; rfl
              clear HW HD hko
              have hwr : IntKind.i64.wrap ((i : Int) - 1) = (i : Int) - 1 := IntWalk.i64_in _ (by omega)
              have htn : ((i : Int) - 1).toNat = i - 1 := by omega
              go_wp2_with fail
              go_quiet ((go_at_call 68; exact Calls.quiet_of_same (rkey_yes key _ e3 HK.out)))
              clear hwr htn
              go_wp2_with fail
              go_roundw
              case rel => exact ⟨i + 1, by go_num, by omega, HN, hE.drewN _⟩
              case measure => simp [intOf]; omega
            · have HG : Hid (attrsOk none ats = false) := by rw [← HW.out, HD.out, hp.out, attrsOk_3 (by simp [strLe, hs2])]; rfl
              replace HF := Lib.hid (Nd.rightAll_no (HF.out.trans HG.out))
              clear HW HG HD hko
              have hwr : IntKind.i64.wrap ((i : Int) - 1) = (i : Int) - 1 := IntWalk.i64_in _ (by omega)
              have htn : ((i : Int) - 1).toNat = i - 1 := by omega
              go_wp2_with fail
              go_quiet ((go_at_call 68; exact Calls.quiet_of_same (rkey_yes key _ e3 HK.out)))
              clear hwr htn
              go_wp2_with fail
              go_ret
              exact ret_bool HF.out.symm ((hE0.trans hE).drewN _)
          · have HG : Hid (attrsOk none ats = false) := by rw [← HW.out, HD.out, hp.out, attrsOk_3 (by simp [strLe, hs1])]; rfl
            replace HF := Lib.hid (Nd.rightAll_no (HF.out.trans HG.out))
            clear HW HG HD hko
            have hwr : IntKind.i64.wrap ((i : Int) - 1) = (i : Int) - 1 := IntWalk.i64_in _ (by omega)
            have htn : ((i : Int) - 1).toNat = i - 1 := by omega
            go_wp2_with fail
            go_quiet ((go_at_call 68; exact Calls.quiet_of_same (rkey_yes key _ e3 HK.out)))
            clear hwr htn
            go_wp2_with fail
            go_ret
            exact ret_bool HF.out.symm ((hE0.trans hE).drewN _)
      · have HG : Hid (attrsOk none ats = true) := by rw [← HW.out, List.drop_eq_nil_of_le hlt]; cases prevK ats i <;> rfl
        replace HF := Lib.hid (Nd.rightAll_yes (HF.out.trans HG.out))
        have hld : decide (i < ats.length) = false := by simp; omega
        clear HW HG a3 hlt
        go_wp2_with fail
        go_loopw [4] (fun s4 wr => ∃ k : Nat, s4 = .int .i64 k ∧ k ≤ ks.length ∧ Hid (rightK (ks.drop k) = rightK ks) ∧ Ext w0 wr) (fun i _ => ks.length - (intOf i).toNat)
        case atStart => exact ⟨0, rfl, Nat.zero_le _, rfl, hE⟩
        case round =>
          clear hE d3
          obtain ⟨k, rfl, hk, HW, hE⟩ := hrel
          have d5 := hE.cell c5
          rcases Nat.lt_or_ge k ks.length with hlt2 | hlt2
          · try (exfalso; omega)
            all_goals
              obtain ⟨kid, hx⟩ : ∃ x, ks[k]? = some x := ⟨_, List.getElem?_eq_getElem hlt2⟩
              obtain ⟨b, off, rfl, hrd⟩ := k3 (by intro h; rw [h] at hlt2; simp at hlt2)
              obtain ⟨aA', ac', kA', kc', e0, e1, e2, e3, e4, e5, hkid⟩ := rdKids_get (rdKids_ext (hE0.trans hE) hrd) hx
              have HD := Lib.hid (drop_at hx)
              have hcnt : kid.cnt ≤ N := by have := cntK_mem (List.mem_of_getElem? hx); rw [Nd.cnt] at hN; omega
              clear hx hrd k3
              rcases hkr : kid.rightAll with _ | _
              · have HG : Hid (rightK ks = false) := by rw [← HW.out, HD.out, rightK_no hkr]; rfl
                have ih1 := ih kid _ wr hcnt hkid
                rw [hkr] at ih1
                replace HF := Lib.hid (HF.out.trans HG.out)
                clear HW HD HG hkr
                go_wp2_with (go_at_call 69; refine ih1.mono ?_; rintro e w1 ⟨r, rfl, rfl, hE1⟩)
                go_ret
                exact ret_bool HF.out.symm (hE0.trans (hE.trans hE1))
              · have HN : Hid (rightK (ks.drop (k + 1)) = rightK ks) := by rw [← HW.out, HD.out, rightK_yes hkr]; rfl
                have ih1 := ih kid _ wr hcnt hkid
                rw [hkr] at ih1
                clear HW HD hkr
                go_wp2_with (go_at_call 69; refine ih1.mono ?_; rintro e w1 ⟨r, rfl, rfl, hE1⟩)
                go_roundw
                case rel => exact ⟨k + 1, by go_num, by omega, HN, hE.trans hE1⟩
                case measure => simp [intOf]; omega
          · have HG : Hid (rightK ks = true) := by rw [← HW.out, List.drop_eq_nil_of_le hlt2, rightK]; rfl
            replace HF := Lib.hid (HF.out.trans HG.out)
            clear HW HG
            go_wp2_with fail
            go_ret
            exact ret_bool HF.out.symm (hE0.trans hE)
end Go.Proofs.Ytdnjkffmgmbfmaa.Bw
