/- Chapter 10: OuOps turned to this seat. (Printed by gsyport.py.) -/
import Derived.Test.YtkimbpeapolcbaaSyWiLate
import Derived.Test.YtkimbpeapolcbaaSyLxApply
import Derived.Test.YtkimbpeapolcbaaSyLxFrame
import Derived.Test.YtkimbpeapolcbaaSyLxLast
import Derived.Test.YtkimbpeapolcbaaSyOuInts
import Derived.Test.YtkimbpeapolcbaaSyLxRows
import Derived.Test.YtkimbpeapolcbaaSyWiMem
namespace Go.Proofs.Ytkimbpeapolcbaa.Sy
open Go.RowKit Go.Proofs.Ytkimbpeapolcbaa.Bw Go.Proofs.Ytkimbpeapolcbaa.Bs

theorem rdPcs_of {w : World} {b : Nat} : ∀ {l : List Pc} {off : Nat}, (∀ p ∈ l, okStr p.put) → (∀ j u, (pcVals l)[j]? = some u → w.cell? ⟨b, off + j, none⟩ = some u) → rdPcs w b off l
  | [], _, _, _ => trivial
  | p :: r, off, hs, hc => by
    have he : pcVals (p :: r) = [.int .i64 p.keep, .int .i64 p.drop, .string p.put] ++ pcVals r := rfl
    rw [he] at hc
    refine ⟨hc 0 _ rfl, hc 1 _ rfl, hc 2 _ rfl, hs p (List.mem_cons_self ..), rdPcs_of (fun q hq => hs q (List.mem_cons_of_mem _ hq)) (fun j u hu => ?_)⟩
    have := hc (3 + j) u (by simpa [Nat.add_comm] using hu)
    rw [show off + 3 + j = off + (3 + j) by omega]
    exact this
theorem RdP.of_owned {W : World} {base e : Nat} {l : List Pc} {v : Value} (h : W.ownsRow base e 3 v l.length (pcVals l)) (hs : ∀ p ∈ l, okStr p.put) : RdP W l v := by
  obtain ⟨A, c, rfl, a0, a1, a2, a3⟩ := RdS.of_owns h
  refine ⟨A, c, rfl, a1, a2, fun h0 => ?_⟩
  obtain ⟨b, off, rfl, hr⟩ := a3 h0
  exact ⟨b, off, rfl, rdPcs_of hs hr⟩
/-- An operation whose parts memory can hold. -/
structure OkO (o : OpD) : Prop where
  label : okStr o.label
  key : okStr o.key
  value : okStr o.value
  pcs : ∀ p ∈ o.pcs, okStr p.put
  id : 0 ≤ o.id ∧ o.id ≤ 18446744073709551615
  kind : 0 ≤ o.kind ∧ o.kind ≤ 255
theorem OpD.rd_ok {w : World} {o : OpD} {v : Value} (h : o.rd w v) : OkO o := by
  obtain ⟨pv, tv, cv, rfl, h1, h2, h3, h4, h5, h6, h7, h8⟩ := h
  exact ⟨h4, h5, h6, h3.okp, h7, h8⟩
/-- What Bare makes of an operation. -/
def bareD (o : OpD) : OpD :=
  if o.kind = 1 then ⟨1, o.path, o.at_, [], o.id, o.leaf, o.label, ⟨#[]⟩, ⟨#[]⟩, false, []⟩
  else if o.kind = 2 then ⟨2, o.path, 0, [], 0, false, ⟨#[]⟩, ⟨#[]⟩, ⟨#[]⟩, false, []⟩
  else if o.kind = 3 then ⟨3, o.path, o.at_, o.to, 0, false, ⟨#[]⟩, ⟨#[]⟩, ⟨#[]⟩, false, []⟩
  else if o.kind = 4 then ⟨4, o.path, 0, [], 0, false, ⟨#[]⟩, o.key, if o.gone then ⟨#[]⟩ else o.value, o.gone, []⟩
  else if o.kind = 5 then ⟨5, o.path, 0, [], 0, false, o.label, ⟨#[]⟩, ⟨#[]⟩, false, []⟩
  else if o.kind = 6 then ⟨6, o.path, 0, [], 0, false, ⟨#[]⟩, ⟨#[]⟩, ⟨#[]⟩, false, o.pcs⟩
  else ⟨o.kind, [], 0, [], 0, false, ⟨#[]⟩, ⟨#[]⟩, ⟨#[]⟩, false, []⟩
theorem okStr_nil : okStr ⟨#[]⟩ := Nat.zero_le _
theorem bareD_ok {o : OpD} (h : OkO o) : OkO (bareD o) := by
  have e := okStr_nil
  have hk := h.kind
  unfold bareD
  repeat' split
  all_goals refine ⟨?_, ?_, ?_, ?_, ?_, ?_⟩
  all_goals first | exact e | exact h.label | exact h.key | exact h.value | exact h.pcs | exact h.id | exact h.kind | (intro p hp; exact absurd hp List.not_mem_nil) | (dsimp only; omega) | (dsimp only; split <;> first | exact e | exact h.value)
theorem bareD_len (o : OpD) : (bareD o).path.length ≤ o.path.length ∧ (bareD o).to.length ≤ o.to.length ∧ (bareD o).pcs.length ≤ o.pcs.length := by
  unfold bareD
  repeat' split
  all_goals exact ⟨by simp, by simp, by simp⟩
theorem bareD_bare (o : OpD) : bareD (bareD o) = bareD o := by
  unfold bareD
  by_cases h1 : o.kind = 1
  · simp [h1]
  by_cases h2 : o.kind = 2
  · simp [h2]
  by_cases h3 : o.kind = 3
  · simp [h3]
  by_cases h4 : o.kind = 4
  · simp only [h4]; cases o.gone <;> simp
  by_cases h5 : o.kind = 5
  · simp [h5]
  by_cases h6 : o.kind = 6
  · simp [h6]
  simp [h1, h2, h3, h4, h5, h6]
/-- A value that is an operation whose rows lie in new memory (of the piece's type tp). -/
def OpO (tp lo : Nat) (W : World) (o : OpD) (v : Value) : Prop := ∃ pA pc tA tc cA cc, v = .agg #[.int .u8 o.kind, .slice pA o.path.length pc, .int .i64 o.at_, .slice tA o.to.length tc, .int .u64 o.id, .bool o.leaf, .string o.label, .string o.key, .string o.value, .bool o.gone, .slice cA o.pcs.length cc] ∧
  W.ownsRow lo 3 1 (.slice pA o.path.length pc) o.path.length (o.path.map (Value.int .i64)) ∧ W.ownsRow lo 3 1 (.slice tA o.to.length tc) o.to.length (o.to.map (Value.int .i64)) ∧ W.ownsRow lo tp 3 (.slice cA o.pcs.length cc) o.pcs.length (pcVals o.pcs)
theorem OpO.rd {tp lo : Nat} {W : World} {o : OpD} {v : Value} (h : OpO tp lo W o v) (k : OkO o) : o.rd W v := by
  obtain ⟨pA, pc, tA, tc, cA, cc, rfl, h1, h2, h3⟩ := h
  exact ⟨_, _, _, rfl, RdS.of_owns h1, RdS.of_owns h2, RdP.of_owned h3 k.pcs, k.label, k.key, k.value, k.id, k.kind⟩
theorem OpO.ext {tp lo : Nat} {W W' : World} {o : OpD} {v : Value} (h : OpO tp lo W o v) (X : Ext W W') : OpO tp lo W' o v := by
  obtain ⟨pA, pc, tA, tc, cA, cc, rfl, h1, h2, h3⟩ := h
  exact ⟨_, _, _, _, _, _, rfl, owns_ext X h1, owns_ext X h2, owns_ext X h3⟩
theorem owns_low {W : World} {a b e sz n : Nat} {v : Value} {xs : List Value} (h : W.ownsRow a e sz v n xs) (hab : b ≤ a) : W.ownsRow b e sz v n xs := by
  refine ⟨h.1, h.2.imp id ?_⟩
  rintro ⟨g, cap, cur, h1, h2, h3⟩
  exact ⟨g, cap, cur, h1, Nat.le_trans hab h2, h3⟩
theorem OpO.low {tp lo lo' : Nat} {W : World} {o : OpD} {v : Value} (h : OpO tp lo W o v) (hl : lo' ≤ lo) : OpO tp lo' W o v := by
  obtain ⟨pA, pc, tA, tc, cA, cc, rfl, h1, h2, h3⟩ := h
  exact ⟨_, _, _, _, _, _, rfl, owns_low h1 hl, owns_low h2 hl, owns_low h3 hl⟩
/-- A change at blocks that hold neither numbers nor pieces. -/
theorem OpO.fr {tp lo t : Nat} {W W' : World} {o : OpD} {v : Value} {B : Nat} {cs : Array Value} (h : OpO tp lo W o v) (F : Fr W W' (fun k => k = B)) (hB : NBox W B t cs) (h3 : t ≠ 3) (ht : t ≠ tp) : OpO tp lo W' o v := by
  obtain ⟨pA, pc, tA, tc, cA, cc, rfl, k1, k2, k3⟩ := h
  exact ⟨_, _, _, _, _, _, rfl, owns_fr F k1 (fun g hg hk => hB.not_own k1 h3 (by rw [hg, show g = B from hk])), owns_fr F k2 (fun g hg hk => hB.not_own k2 h3 (by rw [hg, show g = B from hk])), owns_fr F k3 (fun g hg hk => hB.not_own k3 ht (by rw [hg, show g = B from hk]))⟩
/-- What one has in the middle of Bare: the operation's box, the answer's, the one that grows, the rows. -/
structure BSt (t tp : Nat) (w W : World) (X Y Z : Nat) (ov cs : Array Value) (p tq : List Int) (ps : List Pc) (pv tv cv : Value) : Prop where
  ext : Ext w W
  bx : NBox W X t ov
  byy : NBox W Y t #[.int .u8 0, .slice none 0 0, .int .i64 0, .slice none 0 0, .int .u64 0, .bool false, .string ⟨#[]⟩, .string ⟨#[]⟩, .string ⟨#[]⟩, .bool false, .slice none 0 0]
  bz : NBox W Z t cs
  lo : w.heap.size ≤ X ∧ w.heap.size ≤ Y ∧ w.heap.size ≤ Z ∧ X ≠ Z ∧ Y ≠ Z
  op : W.ownsRow w.heap.size 3 1 pv p.length (p.map (Value.int .i64))
  ot : W.ownsRow w.heap.size 3 1 tv tq.length (tq.map (Value.int .i64))
  oc : W.ownsRow w.heap.size tp 3 cv ps.length (pcVals ps)
theorem BSt.st {t tp : Nat} {w W : World} {X Y Z : Nat} {ov cs : Array Value} {p tq : List Int} {ps : List Pc} {pv tv cv : Value} (h : BSt t tp w W X Y Z ov cs p tq ps pv tv cv) (h3 : t ≠ 3) (ht : t ≠ tp) (i : Nat) (u : Value) : BSt t tp w (W.setCell ⟨Z, i, none⟩ u) X Y Z ov (cs.setIfInBounds i u) p tq ps pv tv cv := by
  obtain ⟨l1, l2, l3, l4, l5⟩ := h.lo
  have F := Fr.setCell W Z i u
  exact ⟨Fr.ext h.ext F (fun q hq => by rw [show q = Z from hq]; exact l3), h.bx.fr F l4, h.byy.fr F l5, h.bz.set i u, h.lo,
    owns_fr F h.op (fun g hg hk => h.bz.not_own h.op h3 (by rw [hg, show g = Z from hk])), owns_fr F h.ot (fun g hg hk => h.bz.not_own h.ot h3 (by rw [hg, show g = Z from hk])), owns_fr F h.oc (fun g hg hk => h.bz.not_own h.oc ht (by rw [hg, show g = Z from hk]))⟩
theorem BSt.to {t tp : Nat} {w W : World} {X Y Z : Nat} {ov cs cs' : Array Value} {p tq : List Int} {ps : List Pc} {pv tv cv : Value} (h : BSt t tp w W X Y Z ov cs p tq ps pv tv cv) (e : cs = cs') : BSt t tp w W X Y Z ov cs' p tq ps pv tv cv := e ▸ h
end Go.Proofs.Ytkimbpeapolcbaa.Sy
