/- Lemmas and walks for the claims of chapter 06: LawAttr. No conditions beside those that stand in each lemma. -/
import Derived.Test.YtamkgdkoddoehaaBwWorks2
import Derived.Test.YtamkgdkoddoehaaBwWeighWalk
import Derived.Test.YtamkgdkoddoehaaBwAttr2
namespace Go.Proofs.Ytamkgdkoddoehaa.Bw
open Go.RowKit

set_option maxRecDepth 100000 in
set_option maxHeartbeats 1000000 in
theorem lawAttr (t : Nd) (v : Value) (s : ByteArray) (w : World) (hr : t.rd w v) (hs : s.size ≤ maxLen) : Calls Try.prog 5 #[v, .string s] w (Ret w fun r _ => r = .bool true) := by
  obtain ⟨av, kv, rfl, i0, i1, hl, ht, ⟨aA, ac, rfl, _⟩, ⟨kA, kc, rfl, _⟩⟩ := Nd.rd_open hr
  obtain ⟨w1, hw1⟩ : ∃ w1, w.alloc (.cells #[.int .u64 t.id, .bool t.leaf, .string t.label, .slice aA t.attrs.length ac, .string t.text, .slice kA t.kids.length kc] 26) = w1 := ⟨_, rfl⟩
  have hE1 : Ext w w1 := by rw [← hw1]; exact (Ext.refl w).alloc _
  have hbx : NBox w1 w.heap.size 26 #[.int .u64 t.id, .bool t.leaf, .string t.label, .slice aA t.attrs.length ac, .string t.text, .slice kA t.kids.length kc] := by rw [← hw1]; exact NBox.new _ _ _
  have hwg := weigh_any t.cnt t _ 1000 w1 (Nat.le_refl _) (Nd.rd_ext hE1 hr) (by omega) (by omega)
  have hle := Nd.weigh_le t 1000 (by omega)
  have H1 := Lib.hid hw1
  clear hw1
  have hs' := hs
  unfold maxLen at hs'
  rcases Int.lt_or_le 1000 (t.weigh 1000) with h1 | h1
  · go_enter Try.func5, Try.ntmps5
    go_wp2_with fail
    rw [H1.out]
    refine hwg.mono ?_
    clear hwg
    rintro e w2 ⟨r, rfl, rfl, hE2⟩
    go_wp2_with fail
    refine (works_any w2).mono ?_
    rintro e w3 ⟨r, rfl, rfl, hE3⟩
    go_wp2_with fail
    go_ret
    exact ret_bool (by rfl) ((hE1.trans hE2).trans hE3)
  · rcases Nat.lt_or_ge 100 s.size with h2 | h2
    · go_enter Try.func5, Try.ntmps5
      go_wp2_with fail
      rw [H1.out]
      refine hwg.mono ?_
      clear hwg
      rintro e w2 ⟨r, rfl, rfl, hE2⟩
      go_wp2_with fail
      refine (works_any w2).mono ?_
      rintro e w3 ⟨r, rfl, rfl, hE3⟩
      go_wp2_with fail
      go_ret
      exact ret_bool (by rfl) ((hE1.trans hE2).trans hE3)
    · obtain ⟨⟨a1, a2⟩, ha⟩ : ∃ a, attrRes s t.attrs = a := ⟨_, rfl⟩
      go_enter Try.func5, Try.ntmps5
      go_wp2_with fail
      rw [H1.out]
      refine hwg.mono ?_
      clear hwg
      rintro e w2 ⟨r, rfl, rfl, hE2⟩
      replace hbx := hbx.ext hE2
      replace hr := Nd.rd_ext (hE1.trans hE2) hr
      have HE := hE1.trans hE2
      clear H1 hE1 hE2
      have hk1 := attr_any t _ s w2 hr
      rw [ha] at hk1
      obtain ⟨e10, e11, e12, e13, e14, e15⟩ := NBox.six hbx
      go_wp2_with fail
      refine hk1.mono ?_
      clear hk1 e10 e11 e12 e13 e14 e15
      rintro e w3 ⟨r, rfl, rfl, hE3⟩
      replace hbx := hbx.ext hE3
      replace hr := Nd.rd_ext hE3 hr
      replace HE := HE.trans hE3
      clear hE3
      have hk2 := rattr_any t _ s w3 hr
      rw [ha] at hk2
      obtain ⟨e20, e21, e22, e23, e24, e25⟩ := NBox.six hbx
      go_wp2_with fail
      refine hk2.mono ?_
      clear hk2 e20 e21 e22 e23 e24 e25 ha
      rintro e w4 ⟨r, rfl, rfl, hE4⟩
      replace HE := HE.trans hE4
      have b1 : (a1.toList == a1.toList) = true := beq_str_yes rfl
      have b2 : (a2 == a2) = true := by cases a2 <;> rfl
      go_wp2_with fail
      refine (works_any w4).mono ?_
      rintro e w5 ⟨r, rfl, rfl, hE5⟩
      go_wp2_with fail
      go_ret
      exact ret_bool (by rfl) (HE.trans hE5)
end Go.Proofs.Ytamkgdkoddoehaa.Bw
