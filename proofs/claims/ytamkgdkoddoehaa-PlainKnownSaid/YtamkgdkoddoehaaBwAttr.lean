/- Lemmas and walks for the claims of chapter 06: Attr. No conditions beside those that stand in each lemma. -/
import Derived.Test.YtamkgdkoddoehaaBwSpec
import Derived.BigQuiet
import Derived.Deep.QuietTactic
namespace Go.Proofs.Ytamkgdkoddoehaa.Bw
open Go.RowKit

/-- The place of the first attribute of a key; none: -1. -/
def idxA (key : ByteArray) : List (ByteArray × ByteArray) → Nat → Int
  | [], _ => -1
  | (k, _) :: r, i => if k = key then i else idxA key r (i + 1)

theorem ret_str2 {w w' : World} {F x : ByteArray} {b c : Bool} (h : x = F) (hb : b = c) (he : Ext w w') : Ret w (fun r _ => r = .tuple #[.string F, .bool c]) (.returned (.tuple #[.string x, .bool b])) w' := ⟨_, rfl, by rw [h, hb], he⟩

/-- What an attribute's look-up answers. -/
def attrRes (key : ByteArray) (l : List (ByteArray × ByteArray)) : ByteArray × Bool := match getA key l with | some v => (v, true) | none => (ByteArray.empty, false)
theorem attrRes_here {key k v : ByteArray} {r : List (ByteArray × ByteArray)} (h : k = key) : attrRes key ((k, v) :: r) = (v, true) := by simp [attrRes, getA, h]
theorem attrRes_not {key k v : ByteArray} {r : List (ByteArray × ByteArray)} (h : k ≠ key) : attrRes key ((k, v) :: r) = attrRes key r := by simp [attrRes, getA, h]
theorem attrRes_nil {key : ByteArray} : attrRes key [] = (ByteArray.empty, false) := rfl

set_option maxRecDepth 100000 in
set_option maxHeartbeats 1000000 in
theorem rattr_any (t : Nd) (v : Value) (key : ByteArray) (w : World) (hr : t.rd w v) : Calls Try.prog 25 #[v, .string key] w (Ret w fun r _ => r = .tuple #[.string (attrRes key t.attrs).1, .bool (attrRes key t.attrs).2]) := by
  obtain ⟨av, kv, rfl, i0, i1, hl, ht, ⟨aA, ac, rfl, a1, a2, a3⟩, ⟨kA, kc, rfl, _⟩⟩ := Nd.rd_open hr
  unfold maxLen at a2
  obtain ⟨w0, hw0⟩ : ∃ w0, w.alloc (.cells #[.int .u64 t.id, .bool t.leaf, .string t.label, .slice aA t.attrs.length ac, .string t.text, .slice kA t.kids.length kc] 26) = w0 := ⟨_, rfl⟩
  have hE0 : Ext w w0 := by rw [← hw0]; exact (Ext.refl w).alloc _
  have c3 : w0.cell? ⟨w.heap.size, 3, none⟩ = some (.slice aA t.attrs.length ac) := by rw [← hw0]; simp
  have H0 := Lib.hid hw0
  clear hw0
  go_enter Try.func25, Try.ntmps25
  go_wp2_with fail
  rw [H0.out]
  go_loopw [6] (fun s6 wr => ∃ i : Nat, s6 = .int .i64 i ∧ i ≤ t.attrs.length ∧ Hid (attrRes key (t.attrs.drop i) = attrRes key t.attrs) ∧ Ext w0 wr) (fun i _ => t.attrs.length - (intOf i).toNat)
  case atStart => exact ⟨0, rfl, Nat.zero_le _, rfl, Ext.refl _⟩
  case round =>
    obtain ⟨i, rfl, hi, HW, hE⟩ := hrel
    have d3 := hE.cell c3
    rcases Nat.lt_or_ge i t.attrs.length with hlt | hlt
    · obtain ⟨⟨k, x⟩, hx⟩ : ∃ x, t.attrs[i]? = some x := ⟨_, List.getElem?_eq_getElem hlt⟩
      obtain ⟨ba, oa, rfl, ra⟩ := a3 (by intro h; rw [h] at hlt; simp at hlt)
      obtain ⟨e1, e2, e3, e4⟩ := rdAttrs_at (rdAttrs_ext (hE0.trans hE) ra) hx
      have HD := Lib.hid (drop_at hx)
      clear hx ra a3
      by_cases hk : k = key
      · have HG : Hid (attrRes key t.attrs = (x, true)) := by rw [← HW.out, HD.out, attrRes_here hk]; rfl
        have hc := beq_str_yes hk
        clear HW HD hk
        go_wp2_with fail
        go_ret2
        exact ret_str2 (by rw [HG.out]) (by rw [HG.out]) (hE0.trans hE)
      · have HN : Hid (attrRes key (t.attrs.drop (i + 1)) = attrRes key t.attrs) := by rw [← HW.out, HD.out, attrRes_not hk]; rfl
        have hc := beq_str_no hk
        clear HW HD hk
        go_wp2_with fail
        go_roundw
        case rel => exact ⟨i + 1, by go_num, by omega, HN, hE⟩
        case measure => simp [intOf]; omega
    · have HG : Hid (attrRes key t.attrs = (ByteArray.empty, false)) := by rw [← HW.out, List.drop_eq_nil_of_le hlt, attrRes_nil]; rfl
      clear HW
      go_wp2_with fail
      go_ret2
      exact ret_str2 (by rw [HG.out]; rfl) (by rw [HG.out]) (hE0.trans hE)
end Go.Proofs.Ytamkgdkoddoehaa.Bw
