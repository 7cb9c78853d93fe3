/- Chapter 07: how often each number is seen; slices.ContainsFunc (40) at a row of ones. -/
import Derived.Test.YtobbdeakocgdcaaArNew
import Derived.Deep.OwnRows
namespace Go.Proofs.Ytobbdeakocgdcaa.Ar
open Go.RowKit Go.Proofs.Ytobbdeakocgdcaa.Bw

/-- How often each number below N stands in a row. -/
def cntL (l : List Nat) (N : Nat) : List Nat := (List.range N).map (fun x => l.count x)
theorem cntL_len (l : List Nat) (N : Nat) : (cntL l N).length = N := by simp [cntL]
theorem cntL_at {l : List Nat} {N x : Nat} (h : x < N) : (cntL l N)[x]? = some (l.count x) := by simp [cntL, h]
theorem cntL_nil (N : Nat) : cntL [] N = List.replicate N 0 := by
  unfold cntL
  apply List.ext_getElem?
  intro i
  rcases Nat.lt_or_ge i N with h | h
  · simp [h]
  · rw [List.getElem?_eq_none (by simpa using h), List.getElem?_eq_none (by simpa using h)]
theorem cntL_set {l : List Nat} {N x : Nat} : (cntL l N).set x (l.count x + 1) = cntL (l ++ [x]) N := by
  apply List.ext_getElem?
  intro i
  rw [List.getElem?_set]
  by_cases h : x = i
  · subst h
    rw [if_pos rfl, cntL_len]
    split
    · rename_i hx
      rw [cntL_at hx]
      simp
    · rw [List.getElem?_eq_none (by rw [cntL_len]; omega)]
  · rw [if_neg h]
    rcases Nat.lt_or_ge i N with h1 | h1
    · rw [cntL_at h1, cntL_at h1, List.count_append, List.count_singleton]
      simp [h]
    · rw [List.getElem?_eq_none (by rw [cntL_len]; omega), List.getElem?_eq_none (by rw [cntL_len]; omega)]
theorem owns_set {W : World} {base e size g n cap : Nat} {xs : List Value} (h : W.ownsRow base e size (.slice (some ⟨g, 0, none⟩) n cap) n xs) (i : Nat) (u : Value) : (W.setCell ⟨g, i, none⟩ u).ownsRow base e size (.slice (some ⟨g, 0, none⟩) n cap) n (xs.set i u) := by
  rcases owns_form h with ⟨h1, _⟩ | ⟨g', cap', cs, hv, hb, hbx, h4, h5, h6, h7, h8⟩
  · cases h1
  · cases hv
    refine owns_mk hb (hbx.set i u) h4 h5 (by simpa using h6) (by simpa using h7) (fun j v hv => ?_)
    rw [List.getElem?_set] at hv
    rw [Array.getElem?_setIfInBounds]
    have hcs : n * size ≤ cs.size := by rw [h6]; exact Nat.mul_le_mul_right _ h4
    by_cases hij : i = j
    · subst hij
      rw [if_pos rfl] at hv
      split at hv
      · rename_i hlt
        rw [if_pos rfl, if_pos (by omega)]; exact hv
      · cases hv
    · rw [if_neg hij] at hv
      rw [if_neg hij]; exact h8 j v hv
theorem owns_at {W : World} {base e size g n cap : Nat} {xs : List Value} (h : W.ownsRow base e size (.slice (some ⟨g, 0, none⟩) n cap) n xs) {i : Nat} {u : Value} (hu : xs[i]? = some u) : W.cell? ⟨g, i, none⟩ = some u ∧ W.frozen? ⟨g, i, none⟩ = false := by
  rcases owns_form h with ⟨h1, _⟩ | ⟨g', cap', cs, hv, hb, hbx, h4, h5, h6, h7, h8⟩
  · cases h1
  · cases hv
    exact ⟨by rw [hbx.cell]; exact h8 i u hu, hbx.frozen i⟩
theorem f41_one (w : World) : Calls Try.prog 41 #[.int .i64 1] w fun e w' => e = .returned (.bool false) ∧ w' = w := by
  go_enter Try.func41, Try.ntmps41
  go_wp2_with fail
  go_ret
  exact ⟨rfl, rfl⟩
set_option maxRecDepth 100000 in
set_option maxHeartbeats 1000000 in
theorem idx_ones (v : Value) (l : List Nat) (base : Nat) (w : World) (hr : w.ownsRow base 3 1 v l.length (ints l)) (h1 : ∀ x ∈ l, x = 1) (hn : l.length ≤ 1000000) :
    Calls Try.prog 55 #[v, .func (.func 41) #[] #[]] w fun e w' => e = .returned (.int .i64 (-1)) ∧ w' = w := by
  obtain ⟨A, c, rfl, -, -⟩ := owns_slice hr
  have hfn : ∀ args W, (callFunc 41 args).run Try.prog W = .ok (.enter 41 args) W := enters_of Try.func41 (by kernel_rfl) rfl
  go_enter Try.func55, Try.ntmps55
  go_wp2_with fail
  go_loopw [8] (fun s8 wr => ∃ k : Nat, s8 = .int .i64 (k : Int) ∧ k ≤ l.length ∧ Hid (wr = w)) (fun s8 _ => l.length - (intOf s8).toNat)
  case atStart => exact ⟨0, rfl, Nat.zero_le _, Lib.hid rfl⟩
  case round =>
    obtain ⟨k, rfl, hk, HR⟩ := hrel
    obtain rfl := HR.out
    clear HR
    rcases Nat.lt_or_ge k l.length with hlt | hlt
    · obtain ⟨x, hx⟩ : ∃ x, l[k]? = some x := ⟨_, List.getElem?_eq_getElem hlt⟩
      obtain rfl := h1 x (List.mem_of_getElem? hx)
      obtain ⟨g, hA⟩ : ∃ g, A = some ⟨g, 0, none⟩ := by
        rcases owns_form hr with ⟨_, q, _⟩ | ⟨g, _, _, q, _⟩
        · omega
        · exact ⟨g, by cases q; rfl⟩
      subst hA
      obtain ⟨ck, -⟩ := owns_at hr (ints_at hx)
      clear hr h1 hx
      go_wp2_with (go_at_call 41; refine (f41_one _).mono ?_; rintro e u ⟨rfl, rfl⟩)
      go_roundw
      case rel => exact ⟨k + 1, by go_num, by omega, Lib.hid trivial⟩
      case measure => simp [intOf]; omega
    · clear hr h1
      go_wp2_with fail
      go_ret
      exact ⟨rfl, rfl⟩
theorem contains_ones (v : Value) (l : List Nat) (base : Nat) (w : World) (hr : w.ownsRow base 3 1 v l.length (ints l)) (h1 : ∀ x ∈ l, x = 1) (hn : l.length ≤ 1000000) :
    Calls Try.prog 40 #[v, .func (.func 41) #[] #[]] w fun e w' => e = .returned (.bool false) ∧ w' = w := by
  have hc := idx_ones v l base w hr h1 hn
  obtain ⟨A, c, rfl, -, -⟩ := owns_slice hr
  clear hr
  go_enter Try.func40, Try.ntmps40
  go_wp2_with (go_at_call 55; refine hc.mono ?_; rintro e u ⟨rfl, rfl⟩)
  go_ret
  exact ⟨rfl, rfl⟩
end Go.Proofs.Ytobbdeakocgdcaa.Ar
