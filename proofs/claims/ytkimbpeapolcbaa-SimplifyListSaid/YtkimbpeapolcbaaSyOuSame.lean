/- Chapter 10: OuOps turned to this seat. (Printed by gsyport.py.) -/
import Derived.Test.YtkimbpeapolcbaaSyWiLate
import Derived.Test.YtkimbpeapolcbaaSyLxApply
import Derived.Test.YtkimbpeapolcbaaSyLxFrame
import Derived.Test.YtkimbpeapolcbaaSyLxLast
import Derived.Test.YtkimbpeapolcbaaSyOuInts
import Derived.Test.YtkimbpeapolcbaaSyLxRun
import Derived.Test.YtkimbpeapolcbaaSyIdle
import Derived.Test.YtkimbpeapolcbaaSyLxComp
import Derived.Test.YtkimbpeapolcbaaBwWeighPlain
import Derived.Test.YtkimbpeapolcbaaSyBsPcs2
namespace Go.Proofs.Ytkimbpeapolcbaa.Sy
open Go.RowKit Go.Proofs.Ytkimbpeapolcbaa.Bw Go.Proofs.Ytkimbpeapolcbaa.Bs

theorem rdPcs_of {w : World} {b : Nat} : ∀ {l : List Pc} {off : Nat}, (∀ p ∈ l, okStr p.put) → (∀ j u, (pcVals l)[j]? = some u → w.cell? ⟨b, off + j, none⟩ = some u) → rdPcs w b off l
  | [], _, _, _ => trivial
  | p :: r, off, hs, hc => by
    have he : pcVals (p :: r) = [.int .i64 p.keep, .int .i64 p.drop, .string p.put] ++ pcVals r := rfl
    rw [he] at hc
    refine ⟨hc 0 _ rfl, hc 1 _ rfl, hc 2 _ rfl, hs p (List.mem_cons_self ..), rdPcs_of (fun q hq => hs q (List.mem_cons_of_mem _ hq)) (fun j u hu => ?_)⟩
    have := hc (3 + j) u (by simpa [Nat.add_comm] using hu)
    rw [show off + 3 + j = off + (3 + j) by omega]
    exact this
theorem RdP.of_owned {W : World} {base e : Nat} {l : List Pc} {v : Value} (h : W.ownsRow base e 3 v l.length (pcVals l)) (hs : ∀ p ∈ l, okStr p.put) : RdP W l v := by
  obtain ⟨A, c, rfl, a0, a1, a2, a3⟩ := RdS.of_owns h
  refine ⟨A, c, rfl, a1, a2, fun h0 => ?_⟩
  obtain ⟨b, off, rfl, hr⟩ := a3 h0
  exact ⟨b, off, rfl, rdPcs_of hs hr⟩
/-- An operation whose parts memory can hold. -/
structure OkO (o : OpD) : Prop where
  label : okStr o.label
  key : okStr o.key
  value : okStr o.value
  pcs : ∀ p ∈ o.pcs, okStr p.put
  id : 0 ≤ o.id ∧ o.id ≤ 18446744073709551615
  kind : 0 ≤ o.kind ∧ o.kind ≤ 255
theorem OpD.rd_ok {w : World} {o : OpD} {v : Value} (h : o.rd w v) : OkO o := by
  obtain ⟨pv, tv, cv, rfl, h1, h2, h3, h4, h5, h6, h7, h8⟩ := h
  exact ⟨h4, h5, h6, h3.okp, h7, h8⟩
/-- What Bare makes of an operation. -/
def bareD (o : OpD) : OpD :=
  if o.kind = 1 then ⟨1, o.path, o.at_, [], o.id, o.leaf, o.label, ⟨#[]⟩, ⟨#[]⟩, false, []⟩
  else if o.kind = 2 then ⟨2, o.path, 0, [], 0, false, ⟨#[]⟩, ⟨#[]⟩, ⟨#[]⟩, false, []⟩
  else if o.kind = 3 then ⟨3, o.path, o.at_, o.to, 0, false, ⟨#[]⟩, ⟨#[]⟩, ⟨#[]⟩, false, []⟩
  else if o.kind = 4 then ⟨4, o.path, 0, [], 0, false, ⟨#[]⟩, o.key, if o.gone then ⟨#[]⟩ else o.value, o.gone, []⟩
  else if o.kind = 5 then ⟨5, o.path, 0, [], 0, false, o.label, ⟨#[]⟩, ⟨#[]⟩, false, []⟩
  else if o.kind = 6 then ⟨6, o.path, 0, [], 0, false, ⟨#[]⟩, ⟨#[]⟩, ⟨#[]⟩, false, o.pcs⟩
  else ⟨o.kind, [], 0, [], 0, false, ⟨#[]⟩, ⟨#[]⟩, ⟨#[]⟩, false, []⟩
theorem okStr_nil : okStr ⟨#[]⟩ := Nat.zero_le _
theorem bareD_ok {o : OpD} (h : OkO o) : OkO (bareD o) := by
  have e := okStr_nil
  have hk := h.kind
  unfold bareD
  repeat' split
  all_goals refine ⟨?_, ?_, ?_, ?_, ?_, ?_⟩
  all_goals first | exact e | exact h.label | exact h.key | exact h.value | exact h.pcs | exact h.id | exact h.kind | (intro p hp; exact absurd hp List.not_mem_nil) | (dsimp only; omega) | (dsimp only; split <;> first | exact e | exact h.value)
theorem bareD_len (o : OpD) : (bareD o).path.length ≤ o.path.length ∧ (bareD o).to.length ≤ o.to.length ∧ (bareD o).pcs.length ≤ o.pcs.length := by
  unfold bareD
  repeat' split
  all_goals exact ⟨by simp, by simp, by simp⟩
theorem bareD_bare (o : OpD) : bareD (bareD o) = bareD o := by
  unfold bareD
  by_cases h1 : o.kind = 1
  · simp [h1]
  by_cases h2 : o.kind = 2
  · simp [h2]
  by_cases h3 : o.kind = 3
  · simp [h3]
  by_cases h4 : o.kind = 4
  · simp only [h4]; cases o.gone <;> simp
  by_cases h5 : o.kind = 5
  · simp [h5]
  by_cases h6 : o.kind = 6
  · simp [h6]
  simp [h1, h2, h3, h4, h5, h6]
/-- A value that is an operation whose rows lie in new memory (of the piece's type tp). -/
def OpO (tp lo : Nat) (W : World) (o : OpD) (v : Value) : Prop := ∃ pA pc tA tc cA cc, v = .agg #[.int .u8 o.kind, .slice pA o.path.length pc, .int .i64 o.at_, .slice tA o.to.length tc, .int .u64 o.id, .bool o.leaf, .string o.label, .string o.key, .string o.value, .bool o.gone, .slice cA o.pcs.length cc] ∧
  W.ownsRow lo 3 1 (.slice pA o.path.length pc) o.path.length (o.path.map (Value.int .i64)) ∧ W.ownsRow lo 3 1 (.slice tA o.to.length tc) o.to.length (o.to.map (Value.int .i64)) ∧ W.ownsRow lo tp 3 (.slice cA o.pcs.length cc) o.pcs.length (pcVals o.pcs)
theorem OpO.rd {tp lo : Nat} {W : World} {o : OpD} {v : Value} (h : OpO tp lo W o v) (k : OkO o) : o.rd W v := by
  obtain ⟨pA, pc, tA, tc, cA, cc, rfl, h1, h2, h3⟩ := h
  exact ⟨_, _, _, rfl, RdS.of_owns h1, RdS.of_owns h2, RdP.of_owned h3 k.pcs, k.label, k.key, k.value, k.id, k.kind⟩
theorem OpO.ext {tp lo : Nat} {W W' : World} {o : OpD} {v : Value} (h : OpO tp lo W o v) (X : Ext W W') : OpO tp lo W' o v := by
  obtain ⟨pA, pc, tA, tc, cA, cc, rfl, h1, h2, h3⟩ := h
  exact ⟨_, _, _, _, _, _, rfl, owns_ext X h1, owns_ext X h2, owns_ext X h3⟩
theorem owns_low {W : World} {a b e sz n : Nat} {v : Value} {xs : List Value} (h : W.ownsRow a e sz v n xs) (hab : b ≤ a) : W.ownsRow b e sz v n xs := by
  refine ⟨h.1, h.2.imp id ?_⟩
  rintro ⟨g, cap, cur, h1, h2, h3⟩
  exact ⟨g, cap, cur, h1, Nat.le_trans hab h2, h3⟩
theorem OpO.low {tp lo lo' : Nat} {W : World} {o : OpD} {v : Value} (h : OpO tp lo W o v) (hl : lo' ≤ lo) : OpO tp lo' W o v := by
  obtain ⟨pA, pc, tA, tc, cA, cc, rfl, h1, h2, h3⟩ := h
  exact ⟨_, _, _, _, _, _, rfl, owns_low h1 hl, owns_low h2 hl, owns_low h3 hl⟩
/-- A change at blocks that hold neither numbers nor pieces. -/
theorem OpO.fr {tp lo t : Nat} {W W' : World} {o : OpD} {v : Value} {B : Nat} {cs : Array Value} (h : OpO tp lo W o v) (F : Fr W W' (fun k => k = B)) (hB : NBox W B t cs) (h3 : t ≠ 3) (ht : t ≠ tp) : OpO tp lo W' o v := by
  obtain ⟨pA, pc, tA, tc, cA, cc, rfl, k1, k2, k3⟩ := h
  exact ⟨_, _, _, _, _, _, rfl, owns_fr F k1 (fun g hg hk => hB.not_own k1 h3 (by rw [hg, show g = B from hk])), owns_fr F k2 (fun g hg hk => hB.not_own k2 h3 (by rw [hg, show g = B from hk])), owns_fr F k3 (fun g hg hk => hB.not_own k3 ht (by rw [hg, show g = B from hk]))⟩
/-- What one has in the middle of Bare: the operation's box, the answer's, the one that grows, the rows. -/
structure BSt (t tp : Nat) (w W : World) (X Y Z : Nat) (ov cs : Array Value) (p tq : List Int) (ps : List Pc) (pv tv cv : Value) : Prop where
  ext : Ext w W
  bx : NBox W X t ov
  byy : NBox W Y t #[.int .u8 0, .slice none 0 0, .int .i64 0, .slice none 0 0, .int .u64 0, .bool false, .string ⟨#[]⟩, .string ⟨#[]⟩, .string ⟨#[]⟩, .bool false, .slice none 0 0]
  bz : NBox W Z t cs
  lo : w.heap.size ≤ X ∧ w.heap.size ≤ Y ∧ w.heap.size ≤ Z ∧ X ≠ Z ∧ Y ≠ Z
  op : W.ownsRow w.heap.size 3 1 pv p.length (p.map (Value.int .i64))
  ot : W.ownsRow w.heap.size 3 1 tv tq.length (tq.map (Value.int .i64))
  oc : W.ownsRow w.heap.size tp 3 cv ps.length (pcVals ps)
theorem BSt.st {t tp : Nat} {w W : World} {X Y Z : Nat} {ov cs : Array Value} {p tq : List Int} {ps : List Pc} {pv tv cv : Value} (h : BSt t tp w W X Y Z ov cs p tq ps pv tv cv) (h3 : t ≠ 3) (ht : t ≠ tp) (i : Nat) (u : Value) : BSt t tp w (W.setCell ⟨Z, i, none⟩ u) X Y Z ov (cs.setIfInBounds i u) p tq ps pv tv cv := by
  obtain ⟨l1, l2, l3, l4, l5⟩ := h.lo
  have F := Fr.setCell W Z i u
  exact ⟨Fr.ext h.ext F (fun q hq => by rw [show q = Z from hq]; exact l3), h.bx.fr F l4, h.byy.fr F l5, h.bz.set i u, h.lo,
    owns_fr F h.op (fun g hg hk => h.bz.not_own h.op h3 (by rw [hg, show g = Z from hk])), owns_fr F h.ot (fun g hg hk => h.bz.not_own h.ot h3 (by rw [hg, show g = Z from hk])), owns_fr F h.oc (fun g hg hk => h.bz.not_own h.oc ht (by rw [hg, show g = Z from hk]))⟩
theorem BSt.to {t tp : Nat} {w W : World} {X Y Z : Nat} {ov cs cs' : Array Value} {p tq : List Int} {ps : List Pc} {pv tv cv : Value} (h : BSt t tp w W X Y Z ov cs p tq ps pv tv cv) (e : cs = cs') : BSt t tp w W X Y Z ov cs' p tq ps pv tv cv := e ▸ h
end Go.Proofs.Ytkimbpeapolcbaa.Sy
namespace Go.Proofs.Ytkimbpeapolcbaa.Sy
open Go.RowKit Go.Proofs.Ytkimbpeapolcbaa.Bw Go.Proofs.Ytkimbpeapolcbaa.Bs

def OkLen (o : OpD) : Prop := o.path.length ≤ 100000 ∧ o.to.length ≤ 100000 ∧ o.pcs.length ≤ 100000
def busyD (o : OpD) : Bool := o.formed && !idleD o
def insHit (a b : OpD) : Prop := a.kind = 1 ∧ a.path ++ [a.at_] = b.path
instance (a b : OpD) : Decidable (insHit a b) := inferInstanceAs (Decidable (_ ∧ _))
/-- Two of one kind at one path. -/
def pairS (a b : OpD) : Option (List OpD) :=
  if a.kind = 5 then some [bareD b]
  else if a.kind = 4 then (if a.key = b.key then some [bareD b] else none)
  else if a.kind = 6 then (if coE a.pcs b.pcs = 0 then (if (coL a.pcs b.pcs).length = 0 then some [] else some [bareD { b with pcs := coL a.pcs b.pcs }]) else none)
  else none
def pairT (a b : OpD) : Option (List OpD) :=
  if insHit a b ∧ b.kind = 2 then some []
  else if insHit a b ∧ b.kind = 5 then some [bareD { a with label := b.label }]
  else if a.kind = b.kind ∧ a.path = b.path then pairS a b
  else none
/-- What stands instead of two. -/
def pairD (a b : OpD) : Option (List OpD) := if busyD a && busyD b then pairT a b else none
/-- What Pair tells. -/
def PrR (w : World) (o : Option (List OpD)) (e : Ending) (W' : World) : Prop := Ext w W' ∧ match o with
  | none => e = .returned (.tuple #[.slice none 0 0, .bool false])
  | some l => ∃ v, e = .returned (.tuple #[v, .bool true]) ∧ lsV w.heap.size l v W'
/-- A list of no operation or of one, in new memory of its own. -/
def lsO (lo : Nat) (l : List OpD) (v : Value) (W : World) : Prop := (l = [] ∧ v = .slice none 0 0) ∨ ∃ B g eA ec fA fc sA sc, l = [B] ∧ v = .slice (some ⟨g, 0, none⟩) 1 1 ∧ lo ≤ g ∧ OkO B ∧ NBox W g 26 #[.int .u8 B.kind, .slice eA B.path.length ec, .int .i64 B.at_, .slice fA B.to.length fc, .int .u64 B.id, .bool B.leaf, .string B.label, .string B.key, .string B.value, .bool B.gone, .slice sA B.pcs.length sc] ∧
  OpO 35 lo W B (.agg #[.int .u8 B.kind, .slice eA B.path.length ec, .int .i64 B.at_, .slice fA B.to.length fc, .int .u64 B.id, .bool B.leaf, .string B.label, .string B.key, .string B.value, .bool B.gone, .slice sA B.pcs.length sc])
/-- What Pair tells, and where it lies. -/
def PrO (w : World) (o : Option (List OpD)) (e : Ending) (W' : World) : Prop := Ext w W' ∧ match o with
  | none => e = .returned (.tuple #[.slice none 0 0, .bool false])
  | some l => ∃ v, e = .returned (.tuple #[v, .bool true]) ∧ lsO w.heap.size l v W'
theorem OpO.late {t lo g : Nat} {W : World} {o : OpD} {v : Value} {cs : Array Value} (h : OpO 35 lo W o v) (k : OkO o) (hg : NBox W g t cs) (h3 : t ≠ 3) (ht : t ≠ 35) : Late (fun k => k < lo ∨ k = g) (fun W => o.rd W v) W := by
  intro W2 F
  obtain ⟨pA, pc, tA, tc, cA, cc, rfl, k1, k2, k3⟩ := h
  refine OpO.rd (tp := 35) (lo := lo) ⟨_, _, _, _, _, _, rfl, owns_fr F k1 (fun b hb hk => ?_), owns_fr F k2 (fun b hb hk => ?_), owns_fr F k3 (fun b hb hk => ?_)⟩ k
  · exact hk.elim (fun hl => absurd (owns_base k1 b hb) (Nat.not_le.2 hl)) (fun e => hg.not_own k1 h3 (by rw [hb, e]))
  · exact hk.elim (fun hl => absurd (owns_base k2 b hb) (Nat.not_le.2 hl)) (fun e => hg.not_own k2 h3 (by rw [hb, e]))
  · exact hk.elim (fun hl => absurd (owns_base k3 b hb) (Nat.not_le.2 hl)) (fun e => hg.not_own k3 ht (by rw [hb, e]))
theorem lsO.ls {lo : Nat} {l : List OpD} {v : Value} {W : World} (h : lsO lo l v W) : lsV lo l v W := by
  rcases h with ⟨rfl, rfl⟩ | ⟨B, g, eA, ec, fA, fc, sA, sc, rfl, rfl, hl, hok, hb, ho⟩
  · exact lsV.none_ _ _
  · exact lsV.one hb hl (OpO.late ho hok hb (by decide) (by decide))
theorem PrO.pr {w : World} {o : Option (List OpD)} {e : Ending} {W' : World} (h : PrO w o e W') : PrR w o e W' := by
  obtain ⟨hE, h⟩ := h
  refine ⟨hE, ?_⟩
  cases o with
  | none => exact h
  | some l =>
    obtain ⟨v, rfl, hv⟩ := h
    exact ⟨v, rfl, hv.ls⟩
theorem wipe_ok {o : OpD} (h : OkO o) {lb : ByteArray} (hl : okStr lb) : OkO { o with label := lb } := ⟨hl, h.key, h.value, h.pcs, h.id, h.kind⟩
theorem swap_ok {o : OpD} (h : OkO o) {l : List Pc} (hl : ∀ p ∈ l, okStr p.put) : OkO { o with pcs := l } := ⟨h.label, h.key, h.value, hl, h.id, h.kind⟩
theorem coL_len (a b : List Pc) : (coL a b).length ≤ 100000 := by
  unfold coL
  split
  · next h =>
    unfold coE at h
    split at h
    · split at h
      next hr =>
        unfold pcsRight at hr
        rw [Bool.and_eq_true, decide_eq_true_eq] at hr
        omega
      · cases h
    · cases h
  · simp
end Go.Proofs.Ytkimbpeapolcbaa.Sy
namespace Go.Proofs.Ytkimbpeapolcbaa.Sy
open Go.RowKit Go.Proofs.Ytkimbpeapolcbaa.Bw Go.Proofs.Ytkimbpeapolcbaa.Bs

/-- What a light operation has. -/
structure LightD (o : OpD) : Prop where
  path : o.path.length ≤ 200
  tto : o.to.length ≤ 200
  pcs : o.pcs.length ≤ 200
  sum : sumP o.pcs ≤ 300
theorem LightD.ok {o : OpD} (h : LightD o) : OkLen o := ⟨by have := h.path; omega, by have := h.tto; omega, by have := h.pcs; omega⟩
theorem light_lens {o : OpD} (h : o.light 200 = true) : o.path.length ≤ 200 ∧ o.to.length ≤ 200 ∧ o.pcs.length ≤ 200 := by
  unfold OpD.light at h
  simp only [Bool.and_eq_true, decide_eq_true_eq] at h
  omega
set_option maxRecDepth 100000 in
set_option maxHeartbeats 2000000 in
theorem light8_any (o : OpD) (v : Value) (w : World) (h : o.rd w v) : Calls Try.prog 8 #[v] w (Ret w fun r _ => ∃ b, r = .bool b ∧ (b = true → LightD o)) := by
  have HRD := Lib.hid h
  obtain ⟨pA, pc, tA, tc, cA, cc, rfl, hP, hT, hC⟩ := rdO_cells h
  obtain ⟨w1, hw1⟩ : ∃ W, w.alloc (.cells #[.int .u8 o.kind, .slice pA o.path.length pc, .int .i64 o.at_, .slice tA o.to.length tc, .int .u64 o.id, .bool o.leaf, .string o.label, .string o.key, .string o.value, .bool o.gone, .slice cA o.pcs.length cc] 26) = W := ⟨_, rfl⟩
  obtain ⟨X, hX⟩ : ∃ X, w.heap.size = X := ⟨_, rfl⟩
  have E1 : Ext w w1 := by rw [← hw1]; exact (Ext.refl w).alloc _
  have HE := Lib.hid E1
  have HB := Lib.hid (show NBox w1 X 26 #[.int .u8 o.kind, .slice pA o.path.length pc, .int .i64 o.at_, .slice tA o.to.length tc, .int .u64 o.id, .bool o.leaf, .string o.label, .string o.key, .string o.value, .bool o.gone, .slice cA o.pcs.length cc] from by rw [← hw1, ← hX]; exact NBox.new _ _ _)
  have HC := Lib.hid hC
  have HW := Lib.hid hw1
  have HXX := Lib.hid hX
  have hc := light_any o _ 200 w1 (OpD.rd_ext E1 h) (by omega)
  have HLL := Lib.hid (fun (h : o.light 200 = true) => light_lens h)
  obtain ⟨f, hf⟩ : ∃ f, o.light 200 = f := ⟨_, rfl⟩
  rw [hf] at hc HLL
  have k0 := HB.out.cell 0
  have k1 := HB.out.cell 1
  have k2 := HB.out.cell 2
  have k3 := HB.out.cell 3
  have k4 := HB.out.cell 4
  have k5 := HB.out.cell 5
  have k6 := HB.out.cell 6
  have k7 := HB.out.cell 7
  have k8 := HB.out.cell 8
  have k9 := HB.out.cell 9
  have k10 := HB.out.cell 10
  clear hw1 hX E1 h hf hP hT hC
  go_enter Try.func8, Try.ntmps8
  go_upto_region 1 with fail
  rw [HW.out, HXX.out]
  clear HW HXX
  go_wp2_with fail
  refine hc.mono ?_
  clear hc k0 k1 k2 k3 k4 k5 k6 k7 k8 k9 k10
  rintro e w2 ⟨r, rfl, rfl, hE⟩
  have HE' := Lib.hid (HE.out.trans hE)
  have HB' := Lib.hid (HB.out.ext hE)
  clear hE HE HB
  cases f with
  | false =>
    go_wp2_with fail
    go_ret
    exact ⟨_, rfl, ⟨false, rfl, fun h => Bool.noConfusion h⟩, HE'.out⟩
  | true =>
  obtain ⟨h1, h2, h3⟩ := HLL.out rfl
  have H123 := Lib.hid (show o.path.length ≤ 200 ∧ o.to.length ≤ 200 ∧ o.pcs.length ≤ 200 from ⟨h1, h2, h3⟩)
  clear HLL h1 h2 h3
  have k10 := HB'.out.cell 10
  have hc := small_any o.pcs _ 300 w2 (RdP.ext HE'.out HC.out) (by decide) (by decide)
  go_wp2_with fail
  refine hc.mono ?_
  clear hc k10
  rintro e w3 ⟨r, rfl, ⟨b, rfl, hb⟩, hE⟩
  have HE2 := Lib.hid (HE'.out.trans hE)
  clear hE HE' HB'
  cases b with
  | false =>
    clear hb
    go_wp2_with fail
    go_ret
    exact ⟨_, rfl, ⟨false, rfl, fun h => Bool.noConfusion h⟩, HE2.out⟩
  | true =>
    have HBB := Lib.hid (hb rfl)
    clear hb
    go_wp2_with fail
    go_ret
    exact ⟨_, rfl, ⟨true, rfl, fun _ => ⟨H123.out.1, H123.out.2.1, H123.out.2.2, HBB.out.2⟩⟩, HE2.out⟩
end Go.Proofs.Ytkimbpeapolcbaa.Sy
namespace Go.Proofs.Ytkimbpeapolcbaa.Sy
open Go.RowKit Go.Proofs.Ytkimbpeapolcbaa.Bw Go.Proofs.Ytkimbpeapolcbaa.Bs

theorem NBox.s11 {W : World} {B : Nat} {t : TypeId} {x0 x1 x2 x3 x4 x5 x6 x7 x8 x9 x10 : Value} (h : NBox W B t #[x0, x1, x2, x3, x4, x5, x6, x7, x8, x9, x10]) (a0 a1 a2 a3 a4 a5 a6 a7 a8 a9 a10 : Value) : NBox (World.setCell (World.setCell (World.setCell (World.setCell (World.setCell (World.setCell (World.setCell (World.setCell (World.setCell (World.setCell (World.setCell W ⟨B, 0, none⟩ a0) ⟨B, 1, none⟩ a1) ⟨B, 2, none⟩ a2) ⟨B, 3, none⟩ a3) ⟨B, 4, none⟩ a4) ⟨B, 5, none⟩ a5) ⟨B, 6, none⟩ a6) ⟨B, 7, none⟩ a7) ⟨B, 8, none⟩ a8) ⟨B, 9, none⟩ a9) ⟨B, 10, none⟩ a10) B t #[a0, a1, a2, a3, a4, a5, a6, a7, a8, a9, a10] := by
  have := (NBox.set (NBox.set (NBox.set (NBox.set (NBox.set (NBox.set (NBox.set (NBox.set (NBox.set (NBox.set (NBox.set h 0 a0) 1 a1) 2 a2) 3 a3) 4 a4) 5 a5) 6 a6) 7 a7) 8 a8) 9 a9) 10 a10)
  simpa using this
theorem Fr.s11 (W : World) (B : Nat) (a0 a1 a2 a3 a4 a5 a6 a7 a8 a9 a10 : Value) : Fr W (World.setCell (World.setCell (World.setCell (World.setCell (World.setCell (World.setCell (World.setCell (World.setCell (World.setCell (World.setCell (World.setCell W ⟨B, 0, none⟩ a0) ⟨B, 1, none⟩ a1) ⟨B, 2, none⟩ a2) ⟨B, 3, none⟩ a3) ⟨B, 4, none⟩ a4) ⟨B, 5, none⟩ a5) ⟨B, 6, none⟩ a6) ⟨B, 7, none⟩ a7) ⟨B, 8, none⟩ a8) ⟨B, 9, none⟩ a9) ⟨B, 10, none⟩ a10) (fun k => k = B) :=
  (Fr.trans (Fr.trans (Fr.trans (Fr.trans (Fr.trans (Fr.trans (Fr.trans (Fr.trans (Fr.trans (Fr.trans (Fr.setCell _ _ _ _) (Fr.setCell _ _ _ _)) (Fr.setCell _ _ _ _)) (Fr.setCell _ _ _ _)) (Fr.setCell _ _ _ _)) (Fr.setCell _ _ _ _)) (Fr.setCell _ _ _ _)) (Fr.setCell _ _ _ _)) (Fr.setCell _ _ _ _)) (Fr.setCell _ _ _ _)) (Fr.setCell _ _ _ _))
theorem info26 : (Try.prog.info? 26).map (·.size) = some 11 := by kernel_rfl
end Go.Proofs.Ytkimbpeapolcbaa.Sy
