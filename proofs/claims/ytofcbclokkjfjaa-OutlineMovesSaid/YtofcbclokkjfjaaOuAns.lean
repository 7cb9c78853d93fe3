/- Chapter 24: answers of ask as two values; same (13) of two answers that are alike. -/
import Derived.Test.YtofcbclokkjfjaaOuWorks
namespace Go.Proofs.Ytofcbclokkjfjaa.Wi
open Go.RowKit Go.Proofs.Ytofcbclokkjfjaa.Bw Go.Proofs.Ytofcbclokkjfjaa.Bs

theorem AskR.an {w W' : World} {p : List Int} {o : Except Int (List Int × Int)} {e : Ending} (h : AskR w p o e W') : Ext w W' ∧ ∃ A n c k, e = .returned (.tuple #[.slice A n c, .int .i64 k]) ∧ AnV w.heap.size W' p o (.slice A n c) (.int .i64 k) := by
  obtain ⟨hE, h⟩ := h
  refine ⟨hE, ?_⟩
  cases o with
  | error k => exact ⟨none, 0, 0, k, h, rfl, rfl⟩
  | ok x =>
    obtain ⟨v, rfl, hv⟩ := h
    have hv0 := hv
    obtain ⟨g, pA, pc, tA, tc, rfl, -⟩ := hv0
    exact ⟨some ⟨g, 0, none⟩, 1, 1, 0, rfl, hv, rfl⟩
theorem AnV.ext {lo : Nat} {W W' : World} {p : List Int} {o : Except Int (List Int × Int)} {lv ev : Value} (h : AnV lo W p o lv ev) (X : Ext W W') : AnV lo W' p o lv ev := by
  cases o with
  | error k => exact h
  | ok x => exact ⟨h.1.ext X, h.2⟩
theorem AnV.low {lo lo' : Nat} {W : World} {p : List Int} {o : Except Int (List Int × Int)} {lv ev : Value} (h : AnV lo W p o lv ev) (hl : lo' ≤ lo) : AnV lo' W p o lv ev := by
  cases o with
  | error k => exact h
  | ok x => exact ⟨h.1.low hl, h.2⟩
theorem same13_an {lo lo' : Nat} {W : World} {p : List Int} {o : Except Int (List Int × Int)} {u v : Value} {j k : Int} (hu : AnV lo W p o u (.int .i64 j)) (hv : AnV lo' W p o v (.int .i64 k)) (hp : p.length ≤ 100000) (ho : ∀ x, o = .ok x → x.1.length ≤ 100000) :
    Calls Try.prog 13 #[u, v, .int .i64 j, .int .i64 k] W (Ret W fun r _ => r = .bool true) := by
  cases o with
  | error q =>
    obtain ⟨rfl, h1⟩ := hu
    obtain ⟨rfl, h2⟩ := hv
    cases h1
    cases h2
    exact same13_nil _ W
  | ok x =>
    obtain ⟨hu, h1⟩ := hu
    obtain ⟨hv, h2⟩ := hv
    cases h1
    cases h2
    exact same13_mv p x.1 x.2 u v lo lo' W hu hv hp (ho x rfl)
theorem askP_len {t : Nd} {p : List Int} {res : SpD → Except Int (List Int × Int)} (hr : ∀ s x, res s = .ok x → x.1.length ≤ s.up.length + 1) (hp : p.length ≤ 1000) : ∀ x, askP t p res = .ok x → x.1.length ≤ 100000 := by
  intro x hx
  unfold askP at hx
  split at hx
  · cases hx
  next s hs =>
    have h1 := hr s x hx
    have h2 : s.up = p.dropLast := by
      unfold spotP at hs
      split at hs
      · cases hs
      · split at hs
        · cases hs
        · split at hs
          · cases hs
          · cases hs; rfl
    rw [h2, List.length_dropLast] at h1
    omega
theorem ind_len : ∀ s x, indP s = .ok x → x.1.length ≤ s.up.length + 1 := by
  intro s x h
  unfold indP at h
  split at h
  · split at h
    · cases h
    · split at h
      · cases h
      · cases h; simp
  · cases h
theorem out_len : ∀ s x, outP s = .ok x → x.1.length ≤ s.up.length + 1 := by
  intro s x h
  unfold outP at h
  split at h
  · cases h
  · cases h; simp only [List.length_dropLast]; omega
theorem up_len : ∀ s x, upP s = .ok x → x.1.length ≤ s.up.length + 1 := by
  intro s x h
  unfold upP at h
  split at h
  · cases h; exact Nat.le_succ _
  · cases h
theorem down_len : ∀ s x, downP s = .ok x → x.1.length ≤ s.up.length + 1 := by
  intro s x h
  unfold downP at h
  split at h
  · cases h; exact Nat.le_succ _
  · cases h
end Go.Proofs.Ytofcbclokkjfjaa.Wi
