/- Lemmas and walks for the claims of chapter 06: Attr2. No conditions beside those that stand in each lemma. -/
import Derived.Test.YtamkgdkoddoehaaBwAttr
import Derived.Test.YtamkgdkoddoehaaBwSame2
namespace Go.Proofs.Ytamkgdkoddoehaa.Bw
open Go.RowKit

theorem idxA_here {key k v : ByteArray} {r : List (ByteArray × ByteArray)} {i : Nat} (h : k = key) : idxA key ((k, v) :: r) i = i := by simp [idxA, h]
theorem idxA_not {key k v : ByteArray} {r : List (ByteArray × ByteArray)} {i : Nat} (h : k ≠ key) : idxA key ((k, v) :: r) i = idxA key r (i + 1) := by simp [idxA, h]
theorem idxA_spec (key : ByteArray) : ∀ (l : List (ByteArray × ByteArray)) (i : Nat), (idxA key l i = -1 ∧ attrRes key l = (ByteArray.empty, false)) ∨ ∃ (j : Nat) (k v : ByteArray), idxA key l i = ((i + j : Nat) : Int) ∧ l[j]? = some (k, v) ∧ attrRes key l = (v, true)
  | [], i => .inl ⟨rfl, rfl⟩
  | (k, v) :: r, i => by
    by_cases h : k = key
    · exact .inr ⟨0, k, v, idxA_here h, rfl, attrRes_here h⟩
    · rw [idxA_not h, attrRes_not h]
      rcases idxA_spec key r (i + 1) with h1 | ⟨j, k', v', h1, h2, h3⟩
      · exact .inl h1
      · exact .inr ⟨j + 1, k', v', by rw [h1]; congr 1; omega, by simpa using h2, h3⟩

set_option maxRecDepth 100000 in
set_option maxHeartbeats 1000000 in
theorem idx_any (l : List (ByteArray × ByteArray)) (u : Value) (key : ByteArray) (w : World) (B : Nat) (ha : RdA w l u) (hB : w.cell? ⟨B, 0, none⟩ = some (.string key)) :
    Calls Try.prog 39 #[u, .func (.func 40) #[] #[.pointer (some ⟨B, 0, none⟩)]] w (Ret w fun r _ => r = .int .i64 (idxA key l 0)) := by
  obtain ⟨aA, ac, rfl, a1, a2, a3⟩ := ha
  unfold maxLen at a2
  go_enter Try.func39, Try.ntmps39
  go_wp2_with fail
  go_loopw [8] (fun s8 wr => ∃ i : Nat, s8 = .int .i64 i ∧ i ≤ l.length ∧ Hid (idxA key (l.drop i) i = idxA key l 0) ∧ Ext w wr) (fun i _ => l.length - (intOf i).toNat)
  case atStart => exact ⟨0, rfl, Nat.zero_le _, rfl, Ext.refl _⟩
  case round =>
    obtain ⟨i, rfl, hi, HW, hE⟩ := hrel
    have hb := hE.cell hB
    rcases Nat.lt_or_ge i l.length with hlt | hlt
    · obtain ⟨⟨k, x⟩, hx⟩ : ∃ x, l[i]? = some x := ⟨_, List.getElem?_eq_getElem hlt⟩
      obtain ⟨ba, oa, rfl, ra⟩ := a3 (by intro h; rw [h] at hlt; simp at hlt)
      obtain ⟨e1, e2, e3, e4⟩ := rdAttrs_at (rdAttrs_ext hE ra) hx
      have HD := Lib.hid (drop_at hx)
      have hb2 := ((Ext.refl wr).alloc (.cells #[.string k, .string x] 48)).cell hb
      clear hx ra a3
      by_cases hk : k = key
      · have HG : Hid (idxA key l 0 = i) := by rw [← HW.out, HD.out, idxA_here hk]; rfl
        have hc := beq_str_yes hk
        clear HW HD hk
        go_wp2
        go_ret
        exact ret_int HG.out.symm (hE.alloc _)
      · have HN : Hid (idxA key (l.drop (i + 1)) (i + 1) = idxA key l 0) := by rw [← HW.out, HD.out, idxA_not hk]; rfl
        have hc := beq_str_no hk
        clear HW HD hk
        go_wp2
        go_roundw
        case rel => exact ⟨i + 1, by go_num, by omega, HN, hE.alloc _⟩
        case measure => simp [intOf]; omega
    · have HG : Hid (idxA key l 0 = -1) := by rw [← HW.out, List.drop_eq_nil_of_le hlt]; rfl
      clear HW
      go_wp2_with fail
      go_ret
      exact ret_int HG.out.symm hE

set_option maxRecDepth 100000 in
set_option maxHeartbeats 1000000 in
theorem attr_any (t : Nd) (v : Value) (key : ByteArray) (w : World) (hr : t.rd w v) : Calls Try.prog 24 #[v, .string key] w (Ret w fun r _ => r = .tuple #[.string (attrRes key t.attrs).1, .bool (attrRes key t.attrs).2]) := by
  obtain ⟨av, kv, rfl, i0, i1, hl, ht, ⟨aA, ac, rfl, a1, a2, a3⟩, ⟨kA, kc, rfl, _⟩⟩ := Nd.rd_open hr
  obtain ⟨w0, hw0⟩ : ∃ w0, (w.alloc (.cells #[.int .u64 t.id, .bool t.leaf, .string t.label, .slice aA t.attrs.length ac, .string t.text, .slice kA t.kids.length kc] 26)).alloc (.cells #[.string key] 9) = w0 := ⟨_, rfl⟩
  have hE0 : Ext w w0 := by rw [← hw0]; exact ((Ext.refl w).alloc _).alloc _
  have c3 : w0.cell? ⟨w.heap.size, 3, none⟩ = some (.slice aA t.attrs.length ac) := by rw [← hw0]; exact Ext.cell ((Ext.refl _).alloc _) (cells_new w _ _ 3 _ rfl)
  have cB : w0.cell? ⟨w.heap.size + 1, 0, none⟩ = some (.string key) := by rw [← hw0]; have := Boxed.new2 w (.cells #[.int .u64 t.id, .bool t.leaf, .string t.label, .slice aA t.attrs.length ac, .string t.text, .slice kA t.kids.length kc] 26) 9 (.string key); exact this.cell
  have hc := idx_any t.attrs _ key w0 (w.heap.size + 1) (RdA.ext hE0 ⟨aA, ac, rfl, a1, a2, a3⟩) cB
  have H0 := Lib.hid hw0
  clear hw0
  unfold maxLen at a2
  rcases idxA_spec key t.attrs 0 with ⟨h1, h2⟩ | ⟨j, k, x, h1, h2, h3⟩
  · rw [h1] at hc
    have HG := Lib.hid h2
    clear h1 h2
    go_enter Try.func24, Try.ntmps24
    go_wp2_with (rw [H0.out]; go_at_call 39; refine hc.mono ?_; rintro e w1 ⟨r, rfl, rfl, hE1⟩)
    go_ret2
    exact ret_str2 (by rw [HG.out]; rfl) (by rw [HG.out]) (hE0.trans hE1)
  · rw [h1, Nat.zero_add] at hc
    have HG := Lib.hid h3
    have hj := (List.getElem?_eq_some_iff.1 h2).1
    obtain ⟨ba, oa, rfl, ra⟩ := a3 (by intro h; rw [h] at hj; simp at hj)
    obtain ⟨e1, e2, e3, e4⟩ := rdAttrs_at ra h2
    have hj0 : ¬ ((j : Int) < 0) := by omega
    have hd0 : decide ((j : Int) < 0) = false := by simp
    clear h1 h2 h3 ra a3
    go_enter Try.func24, Try.ntmps24
    go_wp2_with (rw [H0.out]; go_at_call 39; refine hc.mono ?_; rintro e w1 ⟨r, rfl, rfl, hE1⟩; have c31 := hE1.cell c3; have g2 := (hE0.trans hE1).cell e2)
    go_ret2
    exact ret_str2 (by rw [HG.out]) (by rw [HG.out]) (hE0.trans hE1)
end Go.Proofs.Ytamkgdkoddoehaa.Bw
