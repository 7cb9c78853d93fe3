/- Chapter 10: how much a list, simplified, has. Plain. -/
import Derived.Test.YtkimbpeapolcbaaSyGrd
import Derived.Test.YtkimbpeapolcbaaSyAll
import Derived.Test.YtkimbpeapolcbaaSyListP
import Derived.Test.YtkimbpeapolcbaaSyOuAt
import Derived.Test.YtkimbpeapolcbaaBwWeighPlain
import Derived.Test.YtkimbpeapolcbaaSyWiLate
import Derived.Test.YtkimbpeapolcbaaSyListD
import Derived.Test.YtkimbpeapolcbaaSyBsInts
import Derived.Test.YtkimbpeapolcbaaSyLxLast
import Derived.Test.YtkimbpeapolcbaaSyIdle
namespace Go.Proofs.Ytkimbpeapolcbaa.Sy
open Go.RowKit Go.Proofs.Ytkimbpeapolcbaa.Bw Go.Proofs.Ytkimbpeapolcbaa.Bs

def opV (o : OpD) : Int := 1 + o.label.size + o.key.size + o.value.size + sumP o.pcs
def totV : List OpD → Int
 | [] => 0
 | o :: r => opV o + totV r
theorem opV_nn (o : OpD) : 0 ≤ opV o := by have := sumP_nn o.pcs; unfold opV; omega
theorem totV_app : ∀ a b, totV (a ++ b) = totV a + totV b
 | [], b => by simp [totV]
 | o :: r, b => by simp only [List.cons_append, totV, totV_app r b]; omega
theorem totV_rev : ∀ a, totV a.reverse = totV a
 | [] => rfl
 | o :: r => by rw [List.reverse_cons, totV_app, totV_rev r]; simp only [totV]; omega
theorem put_sum : ∀ l : List Pc, (putLen l : Int) ≤ sumP l
 | [] => Int.le_refl _
 | p :: r => by
  have := put_sum r
  show ((p.put.size + putLen r : Nat) : Int) ≤ max 0 p.keep + max 0 p.drop + p.put.size + sumP r
  omega
theorem totW_V : ∀ l : List OpD, (totW l : Int) ≤ totV l
 | [] => Int.le_refl _
 | o :: r => by
  have h1 := totW_V r
  have h2 := put_sum o.pcs
  show ((opW o + totW r : Nat) : Int) ≤ opV o + totV r
  unfold opW opV
  omega
theorem bare_V (o : OpD) : opV (bareD o) ≤ opV o := by
 have h := bare_sum o
 have h1 : (bareD o).label.size ≤ o.label.size ∧ (bareD o).key.size ≤ o.key.size ∧ (bareD o).value.size ≤ o.value.size := by
  have h0 : (⟨#[]⟩ : ByteArray).size = 0 := rfl
  unfold bareD
  repeat' split
  all_goals exact ⟨by first | exact Nat.le_refl _ | exact Nat.zero_le _, by first | exact Nat.le_refl _ | exact Nat.zero_le _, by first | exact Nat.le_refl _ | exact Nat.zero_le _ | (split <;> first | exact Nat.le_refl _ | exact Nat.zero_le _)⟩
 unfold opV
 omega
/-- What stands instead of two is one of them, or one of both. -/
theorem pairD_form {a b : OpD} {l : List OpD} (h : pairD a b = some l) : l = [] ∨ ∃ o, l = [bareD o] ∧ (o.path = a.path ∨ o.path = b.path) ∧ (o.to = a.to ∨ o.to = b.to) ∧ opV o ≤ opV a + opV b := by
 have na := opV_nn a
 have nb := opV_nn b
 unfold pairD at h
 split at h
 ·unfold pairT at h
  split at h
  ·cases h; exact .inl rfl
  ·split at h
   ·cases h
    refine .inr ⟨_, rfl, .inl rfl, .inl rfl, ?_⟩
    have h1 := sumP_nn b.pcs
    show 1 + (b.label.size : Int) + a.key.size + a.value.size + sumP a.pcs ≤ _
    unfold opV
    omega
   ·split at h
    ·unfold pairS at h
     split at h
     ·cases h; exact .inr ⟨_, rfl, .inr rfl, .inr rfl, by omega⟩
     ·split at h
      ·split at h
       ·cases h; exact .inr ⟨_, rfl, .inr rfl, .inr rfl, by omega⟩
       ·cases h
      ·split at h
       ·split at h
        ·next he =>
         split at h
         ·cases h; exact .inl rfl
         ·cases h
          refine .inr ⟨_, rfl, .inr rfl, .inr rfl, ?_⟩
          have h2 := (coL_facts he).1
          show 1 + (b.label.size : Int) + b.key.size + b.value.size + sumP (coL a.pcs b.pcs) ≤ _
          unfold opV
          omega
        ·cases h
       ·cases h
    ·cases h
 ·cases h
def Brief (o : OpD) : Prop := o.path.length ≤ 200 ∧ o.to.length ≤ 200
theorem bare_brief {o : OpD} (h : Brief o) : Brief (bareD o) := ⟨Nat.le_trans (bareD_len o).1 h.1, Nat.le_trans (bareD_len o).2.1 h.2⟩
theorem redF_brief : ∀ (k : Nat) (s : List OpD), (∀ o ∈ s, Brief o) → (∀ o ∈ redF k s, Brief o) ∧ totV (redF k s) ≤ totV s
 | 0, s, h => by unfold redF; exact ⟨h, Int.le_refl _⟩
 | k + 1, [], h => by rw [redF_small _ (by simp)]; exact ⟨h, Int.le_refl _⟩
 | k + 1, [y], h => by rw [redF_small _ (by simp)]; exact ⟨h, Int.le_refl _⟩
 | k + 1, y :: x :: r, h => by
  rw [redF_two]
  cases hp : pairD x y with
  | none => exact ⟨h, Int.le_refl _⟩
  | some l =>
   have hx := h x (List.mem_cons_of_mem _ (List.mem_cons_self ..))
   have hy := h y (List.mem_cons_self ..)
   have nx := opV_nn x
   have ny := opV_nn y
   rcases pairD_form hp with rfl | ⟨o, rfl, h1, h2, h3⟩
   ·obtain ⟨k1, k2⟩ := redF_brief k r (fun o ho => h o (List.mem_cons_of_mem _ (List.mem_cons_of_mem _ ho)))
    refine ⟨k1, ?_⟩
    show totV (redF k r) ≤ opV y + (opV x + totV r)
    omega
   ·have ho : Brief o := ⟨h1.elim (fun e => by rw [e]; exact hx.1) (fun e => by rw [e]; exact hy.1), h2.elim (fun e => by rw [e]; exact hx.2) (fun e => by rw [e]; exact hy.2)⟩
    obtain ⟨k1, k2⟩ := redF_brief k (bareD o :: r) (fun q hq => by
     rcases List.mem_cons.1 hq with rfl | hq
     ·exact bare_brief ho
     ·exact h q (List.mem_cons_of_mem _ (List.mem_cons_of_mem _ hq)))
    refine ⟨k1, ?_⟩
    have hb := bare_V o
    have k2' : totV (redF k (bareD o :: r)) ≤ opV (bareD o) + totV r := k2
    show totV (redF k (bareD o :: r)) ≤ opV y + (opV x + totV r)
    omega
theorem steps_brief : ∀ (l s : List OpD), (∀ o ∈ s, Brief o) → (∀ o ∈ l, Brief o) → (∀ o ∈ stepsD s l, Brief o) ∧ totV (stepsD s l) ≤ totV s + totV l
 | [], s, h, _ => ⟨h, by show totV s ≤ totV s + 0; omega⟩
 | o :: l, s, h, hl => by
  rw [stepsD_cons]
  have no := opV_nn o
  have hb := bare_V o
  have hs : (∀ q ∈ stepD s o, Brief q) ∧ totV (stepD s o) ≤ totV s + opV o := by
   unfold stepD
   cases hi : idleD o with
   | true => exact ⟨h, by show totV s ≤ _; omega⟩
   | false =>
    obtain ⟨k1, k2⟩ := redF_brief (s.length + 1) (bareD o :: s) (fun q hq => by
     rcases List.mem_cons.1 hq with rfl | hq
     ·exact bare_brief (hl o (List.mem_cons_self ..))
     ·exact h q hq)
    refine ⟨k1, ?_⟩
    have k2' : totV (redF (s.length + 1) (bareD o :: s)) ≤ opV (bareD o) + totV s := k2
    show totV (redF (s.length + 1) (bareD o :: s)) ≤ _
    omega
  obtain ⟨k1, k2⟩ := steps_brief l _ hs.1 (fun q hq => hl q (List.mem_cons_of_mem _ hq))
  refine ⟨k1, ?_⟩
  have := hs.2
  show _ ≤ totV s + (opV o + totV l)
  omega
theorem light_V : ∀ (l : List OpD), (∀ o ∈ l, LightD o) → totV l ≤ 901 * (l.length : Int)
 | [], _ => by simp [totV]
 | o :: r, h => by
  have h1 := light_V r (fun q hq => h q (List.mem_cons_of_mem _ hq))
  have h2 := h o (List.mem_cons_self ..)
  have h3 := h2.sum
  obtain ⟨h4, h5, h6⟩ := h2.strs
  rw [List.length_cons]
  simp only [totV, opV]
  omega
/-- A short list of light operations, and the same list simplified, can be handed to the document's ApplyAll. -/
theorem light_few {l : List OpD} (hl : l.length ≤ 30) (h : ∀ o ∈ l, LightD o) : (totW l ≤ 30000 ∧ ∀ o ∈ l, o.path.length ≤ 1000 ∧ o.to.length ≤ 1000) ∧ totW (listD l) ≤ 30000 ∧ ∀ o ∈ listD l, o.path.length ≤ 1000 ∧ o.to.length ≤ 1000 := by
 have h1 := light_V l h
 have h2 := totW_V l
 obtain ⟨h3, h4⟩ := steps_brief l [] (fun o ho => absurd ho List.not_mem_nil) (fun o ho => ⟨(h o ho).path, (h o ho).tto⟩)
 have h5 := totW_V (listD l)
 have h6 : totV (listD l) = totV (stepsD [] l) := totV_rev _
 have h7 : totV ([] : List OpD) = 0 := rfl
 refine ⟨⟨by omega, fun o ho => ⟨by have := (h o ho).path; omega, by have := (h o ho).tto; omega⟩⟩, by omega, fun o ho => ?_⟩
 obtain ⟨k1, k2⟩ := h3 o (List.mem_reverse.1 ho)
 exact ⟨by omega, by omega⟩
end Go.Proofs.Ytkimbpeapolcbaa.Sy
namespace Go.Proofs.Ytkimbpeapolcbaa.Sy
open Go.RowKit Go.Proofs.Ytkimbpeapolcbaa.Bw Go.Proofs.Ytkimbpeapolcbaa.Bs

theorem redF_okl : ∀ (k : Nat) (s : List OpD), (∀ o ∈ s, OkLen o) → ∀ o ∈ redF k s, OkLen o
 | 0, s, h => by unfold redF; exact h
 | k + 1, [], h => by rw [redF_small _ (by simp)]; exact h
 | k + 1, [y], h => by rw [redF_small _ (by simp)]; exact h
 | k + 1, y :: x :: r, h => by
  rw [redF_two]
  cases hp : pairD x y with
  | none => exact h
  | some l =>
   refine redF_okl k _ (fun o ho => ?_)
   rcases List.mem_append.1 ho with ho | ho
   ·exact (pairD_ok hp (h x (List.mem_cons_of_mem _ (List.mem_cons_self ..))) (h y (List.mem_cons_self ..))).2 o (List.mem_reverse.1 ho)
   ·exact h o (List.mem_cons_of_mem _ (List.mem_cons_of_mem _ ho))
theorem steps_okl : ∀ (l s : List OpD), (∀ o ∈ s, OkLen o) → (∀ o ∈ l, OkLen o) → ∀ o ∈ stepsD s l, OkLen o
 | [], s, h, _ => h
 | o :: l, s, h, hl => by
  rw [stepsD_cons]
  refine steps_okl l _ ?_ (fun q hq => hl q (List.mem_cons_of_mem _ hq))
  unfold stepD
  cases hi : idleD o with
  | true => exact h
  | false =>
   refine redF_okl _ _ (fun q hq => ?_)
   rcases List.mem_cons.1 hq with rfl | hq
   ·exact bareD_len2 (hl o (List.mem_cons_self ..))
   ·exact h q hq
theorem list_okl {l : List OpD} (h : ∀ o ∈ l, OkLen o) : ∀ o ∈ listD l, OkLen o := fun o ho => steps_okl l [] (fun _ ho => absurd ho List.not_mem_nil) h o (List.mem_reverse.1 ho)
theorem tot_light : ∀ (l : List OpD), (∀ o ∈ l, LightD o) → totD l ≤ 300 * (l.length : Int)
 | [], _ => by simp [totD]
 | o :: r, h => by
  have h1 := tot_light r (fun q hq => h q (List.mem_cons_of_mem _ hq))
  have h2 := (h o (List.mem_cons_self ..)).sum
  rw [List.length_cons]
  simp only [totD]
  omega
set_option maxRecDepth 100000 in
set_option maxHeartbeats 4000000 in
theorem few_any (l : List OpD) (v : Value) (w : World) (h : RdL w l v) : Calls Try.prog 17 #[v] w (Ret w fun r _ => ∃ b, r = .bool b ∧ (b = true → l.length ≤ 30 ∧ ∀ o ∈ l, LightD o)) := by
 obtain ⟨A, ac, rfl, a1, a2, -⟩ := id h
 have HU := Lib.hid h
 unfold maxLen at a2
 clear h
 rcases Nat.lt_or_ge 30 l.length with h1 | h1
 ·have t1 : decide ((30 : Int) < (l.length : Int)) = true := decide_eq_true (by omega)
  go_enter Try.func17, Try.ntmps17
  go_wp2_with fail
  go_ret
  exact ⟨_, rfl, ⟨false, rfl, fun h => Bool.noConfusion h⟩, Ext.refl w⟩
 have t1 : decide ((30 : Int) < (l.length : Int)) = false := decide_eq_false (by omega)
 go_enter Try.func17, Try.ntmps17
 go_wp2_with fail
 go_loopw [3] (fun s3 wr => ∃ i : Nat, s3 = .int .i64 (i : Int) ∧ i ≤ l.length ∧ Hid (Ext w wr) ∧ Hid (∀ o ∈ l.take i, LightD o)) (fun s3 _ => l.length - (intOf s3).toNat)
 case atStart => exact ⟨0, rfl, by omega, Lib.hid (Ext.refl w), Lib.hid (fun o ho => absurd ho (by simp))⟩
 case round =>
  obtain ⟨i, rfl, hi, HE, HF⟩ := hrel
  rcases Nat.lt_or_ge i l.length with hlt | hlt
  ·obtain ⟨o, ho⟩ : ∃ o, l[i]? = some o := ⟨_, List.getElem?_eq_getElem hlt⟩
   obtain ⟨ba, oa, pv, tv, cv, rfl, r1, c0, c1, c2, c3, c4, c5, c6, c7, c8, c9, c10⟩ := lsame_at (HU.out.ext HE.out) ho
   have hc := light8_any o _ wr r1
   obtain ⟨pA, pc, tA, tc, cA, cc, he, -, -, -⟩ := rdO_cells r1
   simp only [Value.agg.injEq, Array.mk.injEq, List.cons.injEq, true_and, and_true] at he
   obtain ⟨rfl, rfl, rfl⟩ := he
   have HTK := Lib.hid (show l.take (i + 1) = l.take i ++ [o] from by rw [List.take_add_one, ho]; rfl)
   have q1 : (0 : Int) ≤ (i : Int) := by omega
   have q2 : (i : Int) < (l.length : Int) := by omega
   clear r1 ho
   go_wp2_with fail
   refine hc.mono ?_
   clear hc c0 c1 c2 c3 c4 c5 c6 c7 c8 c9 c10
   rintro e w4 ⟨r, rfl, ⟨b, rfl, hb⟩, hE⟩
   have HE' := Lib.hid (HE.out.trans hE)
   clear hE
   cases b with
   | false =>
    clear hb
    go_wp2_with fail
    go_ret
    exact ⟨_, rfl, ⟨false, rfl, fun h => Bool.noConfusion h⟩, HE'.out⟩
   | true =>
    have HB := Lib.hid (hb rfl)
    clear hb
    have HF' : Hid (∀ q ∈ l.take (i + 1), LightD q) := Lib.hid (by
     rw [HTK.out]
     intro q hq
     rcases List.mem_append.1 hq with hq | hq
     ·exact HF.out q hq
     ·rw [List.mem_singleton] at hq; subst hq; exact HB.out)
    go_wp2_with fail
    go_roundw
    case rel => exact ⟨i + 1, by go_num, by omega, HE', HF'⟩
    case measure => simp [intOf]; omega
  ·have HA : Hid (∀ o ∈ l, LightD o) := Lib.hid (by have := HF.out; rw [List.take_of_length_le hlt] at this; exact this)
   go_wp2_with fail
   go_ret
   exact ⟨_, rfl, ⟨true, rfl, fun _ => ⟨h1, HA.out⟩⟩, HE.out⟩
end Go.Proofs.Ytkimbpeapolcbaa.Sy
namespace Go.Proofs.Ytkimbpeapolcbaa.Sy
open Go.RowKit Go.Proofs.Ytkimbpeapolcbaa.Bw Go.Proofs.Ytkimbpeapolcbaa.Bs

theorem NBox.s11 {W : World} {B : Nat} {t : TypeId} {x0 x1 x2 x3 x4 x5 x6 x7 x8 x9 x10 : Value} (h : NBox W B t #[x0, x1, x2, x3, x4, x5, x6, x7, x8, x9, x10]) (a0 a1 a2 a3 a4 a5 a6 a7 a8 a9 a10 : Value) : NBox (World.setCell (World.setCell (World.setCell (World.setCell (World.setCell (World.setCell (World.setCell (World.setCell (World.setCell (World.setCell (World.setCell W ⟨B, 0, none⟩ a0) ⟨B, 1, none⟩ a1) ⟨B, 2, none⟩ a2) ⟨B, 3, none⟩ a3) ⟨B, 4, none⟩ a4) ⟨B, 5, none⟩ a5) ⟨B, 6, none⟩ a6) ⟨B, 7, none⟩ a7) ⟨B, 8, none⟩ a8) ⟨B, 9, none⟩ a9) ⟨B, 10, none⟩ a10) B t #[a0, a1, a2, a3, a4, a5, a6, a7, a8, a9, a10] := by
 have := (NBox.set (NBox.set (NBox.set (NBox.set (NBox.set (NBox.set (NBox.set (NBox.set (NBox.set (NBox.set (NBox.set h 0 a0) 1 a1) 2 a2) 3 a3) 4 a4) 5 a5) 6 a6) 7 a7) 8 a8) 9 a9) 10 a10)
 simpa using this
theorem Fr.s11 (W : World) (B : Nat) (a0 a1 a2 a3 a4 a5 a6 a7 a8 a9 a10 : Value) : Fr W (World.setCell (World.setCell (World.setCell (World.setCell (World.setCell (World.setCell (World.setCell (World.setCell (World.setCell (World.setCell (World.setCell W ⟨B, 0, none⟩ a0) ⟨B, 1, none⟩ a1) ⟨B, 2, none⟩ a2) ⟨B, 3, none⟩ a3) ⟨B, 4, none⟩ a4) ⟨B, 5, none⟩ a5) ⟨B, 6, none⟩ a6) ⟨B, 7, none⟩ a7) ⟨B, 8, none⟩ a8) ⟨B, 9, none⟩ a9) ⟨B, 10, none⟩ a10) (fun k => k = B) :=
 (Fr.trans (Fr.trans (Fr.trans (Fr.trans (Fr.trans (Fr.trans (Fr.trans (Fr.trans (Fr.trans (Fr.trans (Fr.setCell _ _ _ _) (Fr.setCell _ _ _ _)) (Fr.setCell _ _ _ _)) (Fr.setCell _ _ _ _)) (Fr.setCell _ _ _ _)) (Fr.setCell _ _ _ _)) (Fr.setCell _ _ _ _)) (Fr.setCell _ _ _ _)) (Fr.setCell _ _ _ _)) (Fr.setCell _ _ _ _)) (Fr.setCell _ _ _ _))
theorem info26 : (Try.prog.info? 26).map (·.size) = some 11 := by kernel_rfl
end Go.Proofs.Ytkimbpeapolcbaa.Sy
namespace Go.Proofs.Ytkimbpeapolcbaa.Sy
open Go.RowKit Go.Proofs.Ytkimbpeapolcbaa.Bw Go.Proofs.Ytkimbpeapolcbaa.Bs

theorem noRow (W : World) (lo e sz : Nat) : W.ownsRow lo e sz (.slice none 0 0) 0 [] := ⟨by simp, .inl ⟨rfl, rfl⟩⟩
/-- Behind the last store: the answer's box is written. -/
theorem bare_fin {w W : World} {X Y Z : Nat} {ov cs : Array Value} {p tq : List Int} {ps : List Pc} {pv tv cv : Value} (h : BSt 26 35 w W X Y Z ov cs p tq ps pv tv cv) (o : OpD) {pA tA cA : Option Addr} {pc tc cc : Nat}
  (o1 : W.ownsRow w.heap.size 3 1 (.slice pA o.path.length pc) o.path.length (o.path.map (Value.int .i64))) (o2 : W.ownsRow w.heap.size 3 1 (.slice tA o.to.length tc) o.to.length (o.to.map (Value.int .i64))) (o3 : W.ownsRow w.heap.size 35 3 (.slice cA o.pcs.length cc) o.pcs.length (pcVals o.pcs)) :
  Ext w (World.setCell (World.setCell (World.setCell (World.setCell (World.setCell (World.setCell (World.setCell (World.setCell (World.setCell (World.setCell (World.setCell W ⟨Y, 0, none⟩ (.int .u8 o.kind)) ⟨Y, 1, none⟩ (.slice pA o.path.length pc)) ⟨Y, 2, none⟩ (.int .i64 o.at_)) ⟨Y, 3, none⟩ (.slice tA o.to.length tc)) ⟨Y, 4, none⟩ (.int .u64 o.id)) ⟨Y, 5, none⟩ (.bool o.leaf)) ⟨Y, 6, none⟩ (.string o.label)) ⟨Y, 7, none⟩ (.string o.key)) ⟨Y, 8, none⟩ (.string o.value)) ⟨Y, 9, none⟩ (.bool o.gone)) ⟨Y, 10, none⟩ (.slice cA o.pcs.length cc)) ∧ ∃ u, Ending.returned (.agg #[.int .u8 o.kind, .slice pA o.path.length pc, .int .i64 o.at_, .slice tA o.to.length tc, .int .u64 o.id, .bool o.leaf, .string o.label, .string o.key, .string o.value, .bool o.gone, .slice cA o.pcs.length cc]) = .returned u ∧ OpO 35 w.heap.size (World.setCell (World.setCell (World.setCell (World.setCell (World.setCell (World.setCell (World.setCell (World.setCell (World.setCell (World.setCell (World.setCell W ⟨Y, 0, none⟩ (.int .u8 o.kind)) ⟨Y, 1, none⟩ (.slice pA o.path.length pc)) ⟨Y, 2, none⟩ (.int .i64 o.at_)) ⟨Y, 3, none⟩ (.slice tA o.to.length tc)) ⟨Y, 4, none⟩ (.int .u64 o.id)) ⟨Y, 5, none⟩ (.bool o.leaf)) ⟨Y, 6, none⟩ (.string o.label)) ⟨Y, 7, none⟩ (.string o.key)) ⟨Y, 8, none⟩ (.string o.value)) ⟨Y, 9, none⟩ (.bool o.gone)) ⟨Y, 10, none⟩ (.slice cA o.pcs.length cc)) o u := by
 have F9 := Fr.s11 W Y (.int .u8 o.kind) (.slice pA o.path.length pc) (.int .i64 o.at_) (.slice tA o.to.length tc) (.int .u64 o.id) (.bool o.leaf) (.string o.label) (.string o.key) (.string o.value) (.bool o.gone) (.slice cA o.pcs.length cc)
 exact ⟨Fr.ext h.ext F9 (fun q hq => by rw [show q = Y from hq]; exact h.lo.2.1), _, rfl, OpO.fr (B := Y) (t := 26) ⟨_, _, _, _, _, _, rfl, o1, o2, o3⟩ F9 h.byy (by decide) (by decide)⟩
end Go.Proofs.Ytkimbpeapolcbaa.Sy
