/- Chapter 10: OuOps turned to this seat. (Printed by gsyport.py.) -/
import Derived.Test.YtkimbpeapolcbaaSyWiLate
import Derived.Test.YtkimbpeapolcbaaBwWeighPlain
import Derived.Test.YtkimbpeapolcbaaSyLxFrame
import Derived.Test.YtkimbpeapolcbaaSyLxLast
import Derived.Test.YtkimbpeapolcbaaSyIdle
import Derived.Test.YtkimbpeapolcbaaSyLxRun
import Derived.Test.YtkimbpeapolcbaaSyLxComp
namespace Go.Proofs.Ytkimbpeapolcbaa.Sy
open Go.RowKit Go.Proofs.Ytkimbpeapolcbaa.Bw Go.Proofs.Ytkimbpeapolcbaa.Bs

theorem rdPcs_of {w : World} {b : Nat} : ∀ {l : List Pc} {off : Nat}, (∀ p ∈ l, okStr p.put) → (∀ j u, (pcVals l)[j]? = some u → w.cell? ⟨b, off + j, none⟩ = some u) → rdPcs w b off l
 | [], _, _, _ => trivial
 | p :: r, off, hs, hc => by
  have he : pcVals (p :: r) = [.int .i64 p.keep, .int .i64 p.drop, .string p.put] ++ pcVals r := rfl
  rw [he] at hc
  refine ⟨hc 0 _ rfl, hc 1 _ rfl, hc 2 _ rfl, hs p (List.mem_cons_self ..), rdPcs_of (fun q hq => hs q (List.mem_cons_of_mem _ hq)) (fun j u hu => ?_)⟩
  have := hc (3 + j) u (by simpa [Nat.add_comm] using hu)
  rw [show off + 3 + j = off + (3 + j) by omega]
  exact this
theorem RdP.of_owned {W : World} {base e : Nat} {l : List Pc} {v : Value} (h : W.ownsRow base e 3 v l.length (pcVals l)) (hs : ∀ p ∈ l, okStr p.put) : RdP W l v := by
 obtain ⟨A, c, rfl, a0, a1, a2, a3⟩ := RdS.of_owns h
 refine ⟨A, c, rfl, a1, a2, fun h0 => ?_⟩
 obtain ⟨b, off, rfl, hr⟩ := a3 h0
 exact ⟨b, off, rfl, rdPcs_of hs hr⟩
/-- An operation whose parts memory can hold. -/
structure OkO (o : OpD) : Prop where
 label : okStr o.label
 key : okStr o.key
 value : okStr o.value
 pcs : ∀ p ∈ o.pcs, okStr p.put
 id : 0 ≤ o.id ∧ o.id ≤ 18446744073709551615
 kind : 0 ≤ o.kind ∧ o.kind ≤ 255
theorem OpD.rd_ok {w : World} {o : OpD} {v : Value} (h : o.rd w v) : OkO o := by
 obtain ⟨pv, tv, cv, rfl, h1, h2, h3, h4, h5, h6, h7, h8⟩ := h
 exact ⟨h4, h5, h6, h3.okp, h7, h8⟩
/-- What Bare makes of an operation. -/
def bareD (o : OpD) : OpD :=
 if o.kind = 1 then ⟨1, o.path, o.at_, [], o.id, o.leaf, o.label, ⟨#[]⟩, ⟨#[]⟩, false, []⟩
 else if o.kind = 2 then ⟨2, o.path, 0, [], 0, false, ⟨#[]⟩, ⟨#[]⟩, ⟨#[]⟩, false, []⟩
 else if o.kind = 3 then ⟨3, o.path, o.at_, o.to, 0, false, ⟨#[]⟩, ⟨#[]⟩, ⟨#[]⟩, false, []⟩
 else if o.kind = 4 then ⟨4, o.path, 0, [], 0, false, ⟨#[]⟩, o.key, if o.gone then ⟨#[]⟩ else o.value, o.gone, []⟩
 else if o.kind = 5 then ⟨5, o.path, 0, [], 0, false, o.label, ⟨#[]⟩, ⟨#[]⟩, false, []⟩
 else if o.kind = 6 then ⟨6, o.path, 0, [], 0, false, ⟨#[]⟩, ⟨#[]⟩, ⟨#[]⟩, false, o.pcs⟩
 else ⟨o.kind, [], 0, [], 0, false, ⟨#[]⟩, ⟨#[]⟩, ⟨#[]⟩, false, []⟩
theorem okStr_nil : okStr ⟨#[]⟩ := Nat.zero_le _
theorem bareD_ok {o : OpD} (h : OkO o) : OkO (bareD o) := by
 have e := okStr_nil
 have hk := h.kind
 unfold bareD
 repeat' split
 all_goals refine ⟨?_, ?_, ?_, ?_, ?_, ?_⟩
 all_goals first | exact e | exact h.label | exact h.key | exact h.value | exact h.pcs | exact h.id | exact h.kind | (intro p hp; exact absurd hp List.not_mem_nil) | (dsimp only; omega) | (dsimp only; split <;> first | exact e | exact h.value)
theorem bareD_len (o : OpD) : (bareD o).path.length ≤ o.path.length ∧ (bareD o).to.length ≤ o.to.length ∧ (bareD o).pcs.length ≤ o.pcs.length := by
 unfold bareD
 repeat' split
 all_goals exact ⟨by simp, by simp, by simp⟩
theorem bareD_bare (o : OpD) : bareD (bareD o) = bareD o := by
 unfold bareD
 by_cases h1 : o.kind = 1
 ·simp [h1]
 by_cases h2 : o.kind = 2
 ·simp [h2]
 by_cases h3 : o.kind = 3
 ·simp [h3]
 by_cases h4 : o.kind = 4
 ·simp only [h4]; cases o.gone <;> simp
 by_cases h5 : o.kind = 5
 ·simp [h5]
 by_cases h6 : o.kind = 6
 ·simp [h6]
 simp [h1, h2, h3, h4, h5, h6]
/-- A value that is an operation whose rows lie in new memory (of the piece's type tp). -/
def OpO (tp lo : Nat) (W : World) (o : OpD) (v : Value) : Prop := ∃ pA pc tA tc cA cc, v = .agg #[.int .u8 o.kind, .slice pA o.path.length pc, .int .i64 o.at_, .slice tA o.to.length tc, .int .u64 o.id, .bool o.leaf, .string o.label, .string o.key, .string o.value, .bool o.gone, .slice cA o.pcs.length cc] ∧
 W.ownsRow lo 3 1 (.slice pA o.path.length pc) o.path.length (o.path.map (Value.int .i64)) ∧ W.ownsRow lo 3 1 (.slice tA o.to.length tc) o.to.length (o.to.map (Value.int .i64)) ∧ W.ownsRow lo tp 3 (.slice cA o.pcs.length cc) o.pcs.length (pcVals o.pcs)
theorem OpO.rd {tp lo : Nat} {W : World} {o : OpD} {v : Value} (h : OpO tp lo W o v) (k : OkO o) : o.rd W v := by
 obtain ⟨pA, pc, tA, tc, cA, cc, rfl, h1, h2, h3⟩ := h
 exact ⟨_, _, _, rfl, RdS.of_owns h1, RdS.of_owns h2, RdP.of_owned h3 k.pcs, k.label, k.key, k.value, k.id, k.kind⟩
theorem OpO.ext {tp lo : Nat} {W W' : World} {o : OpD} {v : Value} (h : OpO tp lo W o v) (X : Ext W W') : OpO tp lo W' o v := by
 obtain ⟨pA, pc, tA, tc, cA, cc, rfl, h1, h2, h3⟩ := h
 exact ⟨_, _, _, _, _, _, rfl, owns_ext X h1, owns_ext X h2, owns_ext X h3⟩
theorem owns_low {W : World} {a b e sz n : Nat} {v : Value} {xs : List Value} (h : W.ownsRow a e sz v n xs) (hab : b ≤ a) : W.ownsRow b e sz v n xs := by
 refine ⟨h.1, h.2.imp id ?_⟩
 rintro ⟨g, cap, cur, h1, h2, h3⟩
 exact ⟨g, cap, cur, h1, Nat.le_trans hab h2, h3⟩
theorem OpO.low {tp lo lo' : Nat} {W : World} {o : OpD} {v : Value} (h : OpO tp lo W o v) (hl : lo' ≤ lo) : OpO tp lo' W o v := by
 obtain ⟨pA, pc, tA, tc, cA, cc, rfl, h1, h2, h3⟩ := h
 exact ⟨_, _, _, _, _, _, rfl, owns_low h1 hl, owns_low h2 hl, owns_low h3 hl⟩
/-- A change at blocks that hold neither numbers nor pieces. -/
theorem OpO.fr {tp lo t : Nat} {W W' : World} {o : OpD} {v : Value} {B : Nat} {cs : Array Value} (h : OpO tp lo W o v) (F : Fr W W' (fun k => k = B)) (hB : NBox W B t cs) (h3 : t ≠ 3) (ht : t ≠ tp) : OpO tp lo W' o v := by
 obtain ⟨pA, pc, tA, tc, cA, cc, rfl, k1, k2, k3⟩ := h
 exact ⟨_, _, _, _, _, _, rfl, owns_fr F k1 (fun g hg hk => hB.not_own k1 h3 (by rw [hg, show g = B from hk])), owns_fr F k2 (fun g hg hk => hB.not_own k2 h3 (by rw [hg, show g = B from hk])), owns_fr F k3 (fun g hg hk => hB.not_own k3 ht (by rw [hg, show g = B from hk]))⟩
/-- What one has in the middle of Bare: the operation's box, the answer's, the one that grows, the rows. -/
structure BSt (t tp : Nat) (w W : World) (X Y Z : Nat) (ov cs : Array Value) (p tq : List Int) (ps : List Pc) (pv tv cv : Value) : Prop where
 ext : Ext w W
 bx : NBox W X t ov
 byy : NBox W Y t #[.int .u8 0, .slice none 0 0, .int .i64 0, .slice none 0 0, .int .u64 0, .bool false, .string ⟨#[]⟩, .string ⟨#[]⟩, .string ⟨#[]⟩, .bool false, .slice none 0 0]
 bz : NBox W Z t cs
 lo : w.heap.size ≤ X ∧ w.heap.size ≤ Y ∧ w.heap.size ≤ Z ∧ X ≠ Z ∧ Y ≠ Z
 op : W.ownsRow w.heap.size 3 1 pv p.length (p.map (Value.int .i64))
 ot : W.ownsRow w.heap.size 3 1 tv tq.length (tq.map (Value.int .i64))
 oc : W.ownsRow w.heap.size tp 3 cv ps.length (pcVals ps)
theorem BSt.st {t tp : Nat} {w W : World} {X Y Z : Nat} {ov cs : Array Value} {p tq : List Int} {ps : List Pc} {pv tv cv : Value} (h : BSt t tp w W X Y Z ov cs p tq ps pv tv cv) (h3 : t ≠ 3) (ht : t ≠ tp) (i : Nat) (u : Value) : BSt t tp w (W.setCell ⟨Z, i, none⟩ u) X Y Z ov (cs.setIfInBounds i u) p tq ps pv tv cv := by
 obtain ⟨l1, l2, l3, l4, l5⟩ := h.lo
 have F := Fr.setCell W Z i u
 exact ⟨Fr.ext h.ext F (fun q hq => by rw [show q = Z from hq]; exact l3), h.bx.fr F l4, h.byy.fr F l5, h.bz.set i u, h.lo,
  owns_fr F h.op (fun g hg hk => h.bz.not_own h.op h3 (by rw [hg, show g = Z from hk])), owns_fr F h.ot (fun g hg hk => h.bz.not_own h.ot h3 (by rw [hg, show g = Z from hk])), owns_fr F h.oc (fun g hg hk => h.bz.not_own h.oc ht (by rw [hg, show g = Z from hk]))⟩
theorem BSt.to {t tp : Nat} {w W : World} {X Y Z : Nat} {ov cs cs' : Array Value} {p tq : List Int} {ps : List Pc} {pv tv cv : Value} (h : BSt t tp w W X Y Z ov cs p tq ps pv tv cv) (e : cs = cs') : BSt t tp w W X Y Z ov cs' p tq ps pv tv cv := e ▸ h
end Go.Proofs.Ytkimbpeapolcbaa.Sy
namespace Go.Proofs.Ytkimbpeapolcbaa.Sy
open Go.RowKit Go.Proofs.Ytkimbpeapolcbaa.Bw Go.Proofs.Ytkimbpeapolcbaa.Bs

def OkLen (o : OpD) : Prop := o.path.length ≤ 100000 ∧ o.to.length ≤ 100000 ∧ o.pcs.length ≤ 100000
def busyD (o : OpD) : Bool := o.formed && !idleD o
def insHit (a b : OpD) : Prop := a.kind = 1 ∧ a.path ++ [a.at_] = b.path
instance (a b : OpD) : Decidable (insHit a b) := inferInstanceAs (Decidable (_ ∧ _))
/-- Two of one kind at one path. -/
def pairS (a b : OpD) : Option (List OpD) :=
 if a.kind = 5 then some [bareD b]
 else if a.kind = 4 then (if a.key = b.key then some [bareD b] else none)
 else if a.kind = 6 then (if coE a.pcs b.pcs = 0 then (if (coL a.pcs b.pcs).length = 0 then some [] else some [bareD { b with pcs := coL a.pcs b.pcs }]) else none)
 else none
def pairT (a b : OpD) : Option (List OpD) :=
 if insHit a b ∧ b.kind = 2 then some []
 else if insHit a b ∧ b.kind = 5 then some [bareD { a with label := b.label }]
 else if a.kind = b.kind ∧ a.path = b.path then pairS a b
 else none
/-- What stands instead of two. -/
def pairD (a b : OpD) : Option (List OpD) := if busyD a && busyD b then pairT a b else none
/-- What Pair tells. -/
def PrR (w : World) (o : Option (List OpD)) (e : Ending) (W' : World) : Prop := Ext w W' ∧ match o with
 | none => e = .returned (.tuple #[.slice none 0 0, .bool false])
 | some l => ∃ v, e = .returned (.tuple #[v, .bool true]) ∧ lsV w.heap.size l v W'
/-- A list of no operation or of one, in new memory of its own. -/
def lsO (lo : Nat) (l : List OpD) (v : Value) (W : World) : Prop := (l = [] ∧ v = .slice none 0 0) ∨ ∃ B g eA ec fA fc sA sc, l = [B] ∧ v = .slice (some ⟨g, 0, none⟩) 1 1 ∧ lo ≤ g ∧ OkO B ∧ NBox W g 26 #[.int .u8 B.kind, .slice eA B.path.length ec, .int .i64 B.at_, .slice fA B.to.length fc, .int .u64 B.id, .bool B.leaf, .string B.label, .string B.key, .string B.value, .bool B.gone, .slice sA B.pcs.length sc] ∧
 OpO 35 lo W B (.agg #[.int .u8 B.kind, .slice eA B.path.length ec, .int .i64 B.at_, .slice fA B.to.length fc, .int .u64 B.id, .bool B.leaf, .string B.label, .string B.key, .string B.value, .bool B.gone, .slice sA B.pcs.length sc])
/-- What Pair tells, and where it lies. -/
def PrO (w : World) (o : Option (List OpD)) (e : Ending) (W' : World) : Prop := Ext w W' ∧ match o with
 | none => e = .returned (.tuple #[.slice none 0 0, .bool false])
 | some l => ∃ v, e = .returned (.tuple #[v, .bool true]) ∧ lsO w.heap.size l v W'
theorem OpO.late {t lo g : Nat} {W : World} {o : OpD} {v : Value} {cs : Array Value} (h : OpO 35 lo W o v) (k : OkO o) (hg : NBox W g t cs) (h3 : t ≠ 3) (ht : t ≠ 35) : Late (fun k => k < lo ∨ k = g) (fun W => o.rd W v) W := by
 intro W2 F
 obtain ⟨pA, pc, tA, tc, cA, cc, rfl, k1, k2, k3⟩ := h
 refine OpO.rd (tp := 35) (lo := lo) ⟨_, _, _, _, _, _, rfl, owns_fr F k1 (fun b hb hk => ?_), owns_fr F k2 (fun b hb hk => ?_), owns_fr F k3 (fun b hb hk => ?_)⟩ k
 ·exact hk.elim (fun hl => absurd (owns_base k1 b hb) (Nat.not_le.2 hl)) (fun e => hg.not_own k1 h3 (by rw [hb, e]))
 ·exact hk.elim (fun hl => absurd (owns_base k2 b hb) (Nat.not_le.2 hl)) (fun e => hg.not_own k2 h3 (by rw [hb, e]))
 ·exact hk.elim (fun hl => absurd (owns_base k3 b hb) (Nat.not_le.2 hl)) (fun e => hg.not_own k3 ht (by rw [hb, e]))
theorem lsO.ls {lo : Nat} {l : List OpD} {v : Value} {W : World} (h : lsO lo l v W) : lsV lo l v W := by
 rcases h with ⟨rfl, rfl⟩ | ⟨B, g, eA, ec, fA, fc, sA, sc, rfl, rfl, hl, hok, hb, ho⟩
 ·exact lsV.none_ _ _
 ·exact lsV.one hb hl (OpO.late ho hok hb (by decide) (by decide))
theorem PrO.pr {w : World} {o : Option (List OpD)} {e : Ending} {W' : World} (h : PrO w o e W') : PrR w o e W' := by
 obtain ⟨hE, h⟩ := h
 refine ⟨hE, ?_⟩
 cases o with
 | none => exact h
 | some l =>
  obtain ⟨v, rfl, hv⟩ := h
  exact ⟨v, rfl, hv.ls⟩
theorem wipe_ok {o : OpD} (h : OkO o) {lb : ByteArray} (hl : okStr lb) : OkO { o with label := lb } := ⟨hl, h.key, h.value, h.pcs, h.id, h.kind⟩
theorem swap_ok {o : OpD} (h : OkO o) {l : List Pc} (hl : ∀ p ∈ l, okStr p.put) : OkO { o with pcs := l } := ⟨h.label, h.key, h.value, hl, h.id, h.kind⟩
theorem coL_len (a b : List Pc) : (coL a b).length ≤ 100000 := by
 unfold coL
 split
 ·next h =>
  unfold coE at h
  split at h
  ·split at h
   next hr =>
    unfold pcsRight at hr
    rw [Bool.and_eq_true, decide_eq_true_eq] at hr
    omega
   ·cases h
  ·cases h
 ·simp
end Go.Proofs.Ytkimbpeapolcbaa.Sy
namespace Go.Proofs.Ytkimbpeapolcbaa.Sy
open Go.RowKit Go.Proofs.Ytkimbpeapolcbaa.Bw Go.Proofs.Ytkimbpeapolcbaa.Bs

/-- A list, the last one first: its last two are made fewer as long as they can be. -/
def redF : Nat → List OpD → List OpD
 | k + 1, y :: x :: r => match pairD x y with
  | none => y :: x :: r
  | some l => redF k (l.reverse ++ r)
 | _, s => s
def stepD (s : List OpD) (o : OpD) : List OpD := if idleD o then s else redF (s.length + 1) (bareD o :: s)
def stepsD (s l : List OpD) : List OpD := l.foldl stepD s
/-- A list, simplified. -/
def listD (l : List OpD) : List OpD := (stepsD [] l).reverse
def lenOf : Value → Nat
 | .slice _ n _ => n
 | _ => 0
theorem redF_small (k : Nat) {s : List OpD} (h : s.length ≤ 1) : redF k s = s := by
 match k, s, h with
 | 0, s, _ => unfold redF; rfl
 | k + 1, [], _ => rfl
 | k + 1, [y], _ => rfl
 | k + 1, y :: x :: r, h => exact absurd h (by simp)
def redO (k : Nat) (x y : OpD) (r : List OpD) : Option (List OpD) → List OpD
 | none => y :: x :: r
 | some l => redF k (l.reverse ++ r)
theorem redF_two (k : Nat) (x y : OpD) (r : List OpD) : redF (k + 1) (y :: x :: r) = redO k x y r (pairD x y) := by
 unfold redF
 cases pairD x y <;> rfl
theorem stepsD_cons (s : List OpD) (o : OpD) (l : List OpD) : stepsD s (o :: l) = stepsD (stepD s o) l := rfl
theorem bareD_len2 {o : OpD} (h : OkLen o) : OkLen (bareD o) := by
 obtain ⟨h1, h2, h3⟩ := h
 obtain ⟨k1, k2, k3⟩ := bareD_len o
 exact ⟨Nat.le_trans k1 h1, Nat.le_trans k2 h2, Nat.le_trans k3 h3⟩
theorem pairD_ok {a b : OpD} {l : List OpD} (h : pairD a b = some l) (ha : OkLen a) (hb : OkLen b) : l.length ≤ 1 ∧ ∀ o ∈ l, OkLen o := by
 unfold pairD at h
 split at h
 ·unfold pairT at h
  split at h
  ·cases h; exact ⟨Nat.zero_le _, fun o ho => absurd ho List.not_mem_nil⟩
  ·split at h
   ·cases h
    exact ⟨Nat.le_refl _, fun o ho => by rw [List.mem_singleton] at ho; subst ho; exact bareD_len2 ha⟩
   ·split at h
    ·unfold pairS at h
     split at h
     ·cases h; exact ⟨Nat.le_refl _, fun o ho => by rw [List.mem_singleton] at ho; subst ho; exact bareD_len2 hb⟩
     ·split at h
      ·split at h
       ·cases h; exact ⟨Nat.le_refl _, fun o ho => by rw [List.mem_singleton] at ho; subst ho; exact bareD_len2 hb⟩
       ·cases h
      ·split at h
       ·split at h
        ·split at h
         ·cases h; exact ⟨Nat.zero_le _, fun o ho => absurd ho List.not_mem_nil⟩
         ·cases h; exact ⟨Nat.le_refl _, fun o ho => by rw [List.mem_singleton] at ho; subst ho; exact bareD_len2 ⟨hb.1, hb.2.1, coL_len _ _⟩⟩
        ·cases h
       ·cases h
    ·cases h
 ·cases h
theorem last_two {L : List OpD} {x y : OpD} {r : List OpD} (h : L.reverse = y :: x :: r) : L = r.reverse ++ [x, y] := by
 have := congrArg List.reverse h
 rw [List.reverse_reverse] at this
 rw [this]
 simp
theorem take_rowCells {α : Type} {R : World → α → Value → Prop} {sz : Nat} {W : World} : ∀ (l m : List α) (us : List Value), rowCells R sz W (l ++ m) us → rowCells R sz W l (us.take (l.length * sz))
 | [], m, us, _ => by simp [rowCells]
 | x :: l, m, us, h => by
  obtain ⟨cs, us', h1, h2, rfl, h4⟩ := h
  have ih := take_rowCells l m us' h4
  refine ⟨cs, us'.take (l.length * sz), h1, h2, ?_, ih⟩
  rw [List.length_cons, Nat.succ_mul, List.take_append, h1, Nat.add_sub_cancel, List.take_of_length_le (by omega)]
/-- The first ones of an owned list. -/
theorem rowV2.front {α : Type} {R : World → α → Value → Prop} {t sz lo : Nat} {l m : List α} {A : Option Addr} {c n : Nat} {W : World} (h : rowV2 R t sz lo (l ++ m) (.slice A n c) W) : ∃ us, W.ownsRow lo t sz (.slice A l.length c) l.length us ∧ Late (rowS lo (.slice A l.length c)) (fun W => rowCells R sz W l us) W := by
 obtain ⟨us, h1, h2⟩ := h
 refine ⟨us.take (l.length * sz), ?_, ?_⟩
 ·have hl := h1.1
  refine ⟨?_, ?_⟩
  ·rw [List.length_take, hl, List.length_append, Nat.add_mul]
   omega
  ·rcases h1.2 with ⟨k1, k2⟩ | ⟨g, cap, cur, k1, k2, k3, k4, k5, k6, k7⟩
   ·rw [List.length_append] at k2
    have hz : l.length = 0 := by omega
    cases k1
    exact .inl ⟨by rw [hz], hz⟩
   ·cases k1
    refine .inr ⟨g, c, cur, rfl, k2, k3, ?_, k5, k6, ?_⟩
    ·rw [List.length_append] at k4; omega
    ·rw [← k7, List.take_take]
     congr 1
     rw [List.length_append, Nat.add_mul]
     omega
 ·refine (h2.sub (fun k hk => ?_)).imp fun W2 h => take_rowCells l m us h
  rcases hk with hk | hk
  ·exact .inl hk
  ·refine .inr ?_
   cases A with
   | none => cases hk
   | some a => exact hk
theorem OpO.lateRow {lo lo' n : Nat} {W : World} {o : OpD} {u v : Value} {us : List Value} (h : OpO 35 lo' W o u) (k : OkO o) (hr : W.ownsRow lo 26 11 v n us) (hl : lo ≤ lo') : Late (rowS lo v) (fun W => o.rd W u) W := by
 intro W2 F
 obtain ⟨pA, pc, tA, tc, cA, cc, rfl, k1, k2, k3⟩ := h
 refine OpO.rd (tp := 35) (lo := lo') ⟨_, _, _, _, _, _, rfl, owns_fr F k1 (fun b hb hk => ?_), owns_fr F k2 (fun b hb hk => ?_), owns_fr F k3 (fun b hb hk => ?_)⟩ k
 ·exact hk.elim (fun h => absurd (owns_base k1 b hb) (Nat.not_le.2 (Nat.lt_of_lt_of_le h hl))) (fun h => owns_apart hr k1 (by decide) h hb)
 ·exact hk.elim (fun h => absurd (owns_base k2 b hb) (Nat.not_le.2 (Nat.lt_of_lt_of_le h hl))) (fun h => owns_apart hr k2 (by decide) h hb)
 ·exact hk.elim (fun h => absurd (owns_base k3 b hb) (Nat.not_le.2 (Nat.lt_of_lt_of_le h hl))) (fun h => owns_apart hr k3 (by decide) h hb)
theorem rowV2.push {lo : Nat} {l : List OpD} {o : OpD} {v v4 : Value} {us cs : List Value} {w w4 : World} (h2 : Late (rowS lo v) (fun W => rowCells RdO 11 W l us) w) (hcs : cs.length = 11)
  (hx : Late (rowS lo v) (fun W => o.rd W (.agg cs.toArray)) w) (hg : w.grownBy w4 v.ownBlock) (hat : v4.ownBlock = v.ownBlock ∨ v4.ownBlock = some w.heap.size)
  (h4 : w4.ownsRow lo 26 11 v4 (l.length + 1) (us ++ cs)) : rowV2 RdO 26 11 lo (l ++ [o]) v4 w4 :=
 rowV2.app h2 (m := [o]) (hx.imp fun _ h => ⟨cs, [], hcs, h, (List.append_nil _).symm, rfl⟩) hg hat h4
end Go.Proofs.Ytkimbpeapolcbaa.Sy
