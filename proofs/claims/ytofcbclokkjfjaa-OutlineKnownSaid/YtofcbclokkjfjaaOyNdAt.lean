/- SyLxPuts turned to this seat. (Printed by gport.py.) -/
import Derived.Test.YtofcbclokkjfjaaOyLxTPlain
import Derived.Test.YtofcbclokkjfjaaOyWiLate
import Derived.WalkKit
import Derived.Deep.Cut
import Derived.Deep.CutRange
import Derived.Deep.RegionHeld3
import Derived.BigQuiet
import Derived.IntWalk
import Derived.RangeFuncNested
import Derived.RangeFuncBound
import Derived.RangeFuncCalls
import Derived.RangeFuncLeaves
import Derived.Shelf.Abstract
import Derived.Shelf.RegionOpen
import Derived.OwnWalkIn
import Derived.TacticsInMore
import Derived.LoopNIn
import Derived.LoopIn
import Derived.Test.YtofcbclokkjfjaaProg
import Derived.Test.YtofcbclokkjfjaaWiTree
import Derived.Test.YtofcbclokkjfjaaOuNodes
import Derived.Test.YtofcbclokkjfjaaOuRight
import Derived.Deep.QuietTactic
import Derived.StillTailTactics
import Derived.Test.YtofcbclokkjfjaaOuRAt
namespace Go.Proofs.Ytofcbclokkjfjaa.Sy
open Go.RowKit Go.Proofs.Ytofcbclokkjfjaa.Bw Go.Proofs.Ytofcbclokkjfjaa.Bs
/-- Where the blocks lie. -/
structure TD (w0 : World) (Bo N : Nat) (Gp Gq : Option Nat) : Prop where
 b0 : w0.heap.size ≤ Bo
 bn : Bo < N
 gp : ∀ g, Gp = some g → Bo < g ∧ g < N
 gq : ∀ g, Gq = some g → Bo < g ∧ g < N
 pq : ∀ g, Gp = some g → Gq = some g → False
/-- Transform's state in memory. -/
structure TAt (W w0 : World) (Bo N : Nat) (Gp Gq : Option Nat) (prior : Bool) (s : St) (lx ly : Value) : Prop where
 rp : RowAt W N Gp s.p
 rq : RowAt W (N + 1) Gq s.q
 pr : NBox W Bo 4 #[.bool prior]
 mx : MkAt W (N + 2) (N + 4) s.x lx
 my : MkAt W (N + 3) (N + 4) s.y ly
 dis : ∀ k, lx.ownBlock = some k → ly.ownBlock = some k → False
 ext : Ext w0 W
theorem MkAt.fr {W W' : World} {S : Nat → Prop} (F : Fr W W' S) {B base : Nat} {m : Mk} {lv : Value} (h : MkAt W B base m lv) (hB : ¬ S B) (hs : ∀ g, lv.ownBlock = some g → ¬ S g) : MkAt W' B base m lv :=
 ⟨h.1.fr F hB, owns_fr F h.2.1 hs, h.2.2.1, Nat.le_trans h.2.2.2 F.size⟩
theorem MkAt.more {W : World} {B base : Nat} {m : Mk} {lv : Value} (h : MkAt W B base m lv) (n : Int) : MkAt (W.setCell ⟨B, 1, none⟩ (.int .i64 (m.keep + n))) B base (m.more n) lv := by
 refine ⟨h.1.set 1 _, owns_fr (Fr.setCell W B 1 _) h.2.1 (fun g hg h0 => ?_), h.2.2.1, Nat.le_trans h.2.2.2 (Fr.setCell W B 1 _).size⟩
 have := owns_base h.2.1 g hg
 have := h.2.2.1
 omega
theorem TAt.rows {W W' w0 : World} {Bo N : Nat} {Gp Gq : Option Nat} {prior : Bool} {s : St} {lx ly : Value} (D : TD w0 Bo N Gp Gq) (h : TAt W w0 Bo N Gp Gq prior s lx ly) {p' q' : List Pc}
  (M : RowAt W' N Gp p') (M2 : RowAt W' (N + 1) Gq q') (F : Fr W W' (fun k => k = N ∨ k = N + 1 ∨ Gp = some k ∨ Gq = some k)) : TAt W' w0 Bo N Gp Gq prior { s with p := p', q := q' } lx ly := by
 have ox : ∀ k, ly.ownBlock = some k → N + 4 ≤ k := fun k hk => owns_base h.my.2.1 k hk
 have oy : ∀ k, lx.ownBlock = some k → N + 4 ≤ k := fun k hk => owns_base h.mx.2.1 k hk
 have d1 := D.b0
 have d2 := D.bn
 refine ⟨M, M2, h.pr.fr F ?_, h.mx.fr F ?_ ?_, h.my.fr F ?_ ?_, h.dis, Fr.ext h.ext F ?_⟩
 ·rintro (e | e | e | e)
  ·omega
  ·omega
  ·have := D.gp _ e; omega
  ·have := D.gq _ e; omega
 ·rintro (e | e | e | e)
  ·omega
  ·omega
  ·have := D.gp _ e; omega
  ·have := D.gq _ e; omega
 ·rintro g hg (e | e | e | e)
  ·have := oy g hg; omega
  ·have := oy g hg; omega
  ·have := oy g hg; have := D.gp _ e; omega
  ·have := oy g hg; have := D.gq _ e; omega
 ·rintro (e | e | e | e)
  ·omega
  ·omega
  ·have := D.gp _ e; omega
  ·have := D.gq _ e; omega
 ·rintro g hg (e | e | e | e)
  ·have := ox g hg; omega
  ·have := ox g hg; omega
  ·have := ox g hg; have := D.gp _ e; omega
  ·have := ox g hg; have := D.gq _ e; omega
 ·rintro k (e | e | e | e)
  ·omega
  ·omega
  ·have := D.gp _ e; omega
  ·have := D.gq _ e; omega
end Go.Proofs.Ytofcbclokkjfjaa.Sy
namespace Go.Proofs.Ytofcbclokkjfjaa.Sy
open Go.RowKit Go.Proofs.Ytofcbclokkjfjaa.Bw Go.Proofs.Ytofcbclokkjfjaa.Bs
theorem rdPcs_of_vals {W : World} {g : Nat} : ∀ {l : List Pc} {off : Nat}, (∀ i x, (pcVals l)[i]? = some x → W.cell? ⟨g, off + i, none⟩ = some x) → (∀ p ∈ l, okStr p.put) → rdPcs W g off l
 | [], _, _, _ => trivial
 | p :: r, off, h, hs => by
  have e : pcVals (p :: r) = .int .i64 p.keep :: .int .i64 p.drop :: .string p.put :: pcVals r := rfl
  rw [e] at h
  refine ⟨h 0 _ rfl, h 1 _ rfl, h 2 _ rfl, hs p List.mem_cons_self, rdPcs_of_vals (fun i x hx => ?_) (fun q hq => hs q (List.mem_cons_of_mem _ hq))⟩
  have := h (i + 3) x (by simpa using hx)
  rwa [show off + 3 + i = off + (i + 3) by omega]
theorem RowV.of_owns {W : World} {base : Nat} {l : List Pc} {v : Value} (h : W.ownsRow base 49 3 v l.length (pcVals l)) (hs : ∀ p ∈ l, okStr p.put) : RowV W v.ownBlock l v := by
 have hc := fun g => h.cells (g := g)
 rcases h.2 with ⟨rfl, h0⟩ | ⟨g, cap, cur, rfl, hb, hg, h4, h5, h6, h7⟩
 ·exact ⟨none, 0, by rw [h0], by omega, by decide, fun h1 => by omega⟩
 ·refine ⟨_, cap, rfl, h4, h5, fun _ => ⟨g, 0, cur, rfl, rfl, hg, rdPcs_of_vals (fun i x hx => ?_) hs⟩⟩
  have := hc g rfl i x hx
  rw [Addr.add_lit] at this
  exact this
theorem RdP.of_owns {W : World} {base : Nat} {l : List Pc} {v : Value} (h : W.ownsRow base 49 3 v l.length (pcVals l)) (hs : ∀ p ∈ l, okStr p.put) : RdP W l v := (RowV.of_owns h hs).rd
theorem RdP.nil (W : World) : RdP W [] (.slice none 0 0) := ⟨none, 0, rfl, Nat.le_refl _, by decide, fun h => absurd h (by simp)⟩
end Go.Proofs.Ytofcbclokkjfjaa.Sy
namespace Go.Proofs.Ytofcbclokkjfjaa.Sy
open Go.RowKit Go.Proofs.Ytofcbclokkjfjaa.Bw Go.Proofs.Ytofcbclokkjfjaa.Bs
theorem results_st {P : Program} {fn : Func} {p : Tmp} {ty : TypeId} (h : fn.results = #[.cell p ty]) (tmps : Array Value) {w : World} {g : Nat} {cs : Array Value} {d : TypeDesc}
  (hp : tmps.getD p undef = .pointer (some ⟨g, 0, none⟩)) (hg : NBox w g ty cs) (hu : P.underlying ty = some d) (hd : (match d with | .struct _ | .array _ _ => true | _ => false) = true) (hi : (P.info? ty).map (·.size) = some cs.size) :
  (results fn tmps).run P w = .ok (.agg cs) w := results_cell_row h tmps w g ty cs (0, 0) d hp hg hu hd hi
theorem owns_lo {W : World} {a b e n : Nat} {v : Value} {xs : List Value} (h : W.ownsRow a e 1 v n xs) (hab : b ≤ a) : W.ownsRow b e 1 v n xs := by
 refine ⟨h.1, h.2.imp id ?_⟩
 rintro ⟨g, cap, cur, h1, h2, h3⟩
 exact ⟨g, cap, cur, h1, Nat.le_trans hab h2, h3⟩
theorem ints_one1 (l : List Int) : ∀ u ∈ l.map (Value.int .i64), u.oneCell' = true := by
 intro u hu
 obtain ⟨x, -, rfl⟩ := List.mem_map.1 hu
 rfl
end Go.Proofs.Ytofcbclokkjfjaa.Sy
namespace Go.Proofs.Ytofcbclokkjfjaa.Bw
open Go.RowKit Go.Shelf
attribute [local go_sem] Oper.semAt_some
end Go.Proofs.Ytofcbclokkjfjaa.Bw
namespace Go.Proofs.Ytofcbclokkjfjaa.Bw
open Go.RowKit Go.Shelf
attribute [local go_sem] Oper.semAt_some
end Go.Proofs.Ytofcbclokkjfjaa.Bw
namespace Go.Proofs.Ytofcbclokkjfjaa.Bw
open Go.RowKit
end Go.Proofs.Ytofcbclokkjfjaa.Bw
namespace Go.Proofs.Ytofcbclokkjfjaa.Bw
open Go.RowKit
end Go.Proofs.Ytofcbclokkjfjaa.Bw
namespace Go.Proofs.Ytofcbclokkjfjaa.Bw
open Go.RowKit
theorem pair_eq (k v x y : ByteArray) : decide ((k, v) = (x, y)) = ((k.toList == x.toList) && (v.toList == y.toList)) := by
  rw [beq_str, beq_str]; simp [Prod.mk.injEq, Bool.decide_and]
theorem sameA_len {a b : List (ByteArray × ByteArray)} (h : a.length ≠ b.length) : sameA a b = false := decide_eq_false (fun e => h (by rw [e]))
theorem sameA_step {a b : List (ByteArray × ByteArray)} {i : Nat} {x y : ByteArray × ByteArray} (hx : a[i]? = some x) (hy : b[i]? = some y) : sameA (a.drop i) (b.drop i) = (decide (x = y) && sameA (a.drop (i + 1)) (b.drop (i + 1))) := by
  rw [drop_at hx, drop_at hy, sameA, sameA]
  by_cases h : x = y
  · subst h; simp
  · simp [h]
theorem sameA_end {a b : List (ByteArray × ByteArray)} {i : Nat} (h : a.length = b.length) (hi : a.length ≤ i) : sameA (a.drop i) (b.drop i) = true := by
  rw [List.drop_eq_nil_of_le hi, List.drop_eq_nil_of_le (by omega)]; rfl
set_option maxRecDepth 100000 in
set_option maxHeartbeats 1000000 in
theorem reqA_any (a b : List (ByteArray × ByteArray)) (u v : Value) (w : World) (ha : RdA w a u) (hb : RdA w b v) : Calls Try.prog 54 #[u, v] w (Ret w fun r _ => r = .bool (sameA a b)) := by
  obtain ⟨aA, ac, rfl, a1, a2, a3⟩ := ha
  obtain ⟨bA, bc, rfl, b1, b2, b3⟩ := hb
  unfold maxLen at a2 b2
  rcases Nat.lt_or_ge a.length b.length with hl | hl
  · have HF := Lib.hid (sameA_len (a := a) (b := b) (by omega))
    have hd : ((a.length : Int) == (b.length : Int)) = false := by rw [beq_eq_false_iff_ne]; omega
    go_enter Try.func54, Try.ntmps54
    go_wp2_with fail
    go_ret
    exact ret_bool HF.out.symm (Ext.refl w)
  rcases Nat.lt_or_ge b.length a.length with hl2 | hl2
  · have HF := Lib.hid (sameA_len (a := a) (b := b) (by omega))
    have hd : ((a.length : Int) == (b.length : Int)) = false := by rw [beq_eq_false_iff_ne]; omega
    go_enter Try.func54, Try.ntmps54
    go_wp2_with fail
    go_ret
    exact ret_bool HF.out.symm (Ext.refl w)
  have hl3 := Lib.hid (show a.length = b.length by omega)
  have hd : ((a.length : Int) == (b.length : Int)) = true := by rw [beq_iff_eq]; omega
  go_enter Try.func54, Try.ntmps54
  go_wp2_with fail
  go_loopw [5] (fun s5 wr => ∃ i : Nat, s5 = .int .i64 i ∧ i ≤ a.length ∧ Hid (sameA (a.drop i) (b.drop i) = sameA a b) ∧ Ext w wr) (fun i _ => a.length - (intOf i).toNat)
  case atStart => exact ⟨0, rfl, Nat.zero_le _, rfl, Ext.refl _⟩
  case round =>
    obtain ⟨i, rfl, hi, HW, hE⟩ := hrel
    rcases Nat.lt_or_ge i a.length with hlt | hlt
    · obtain ⟨⟨k, x⟩, hx⟩ : ∃ x, a[i]? = some x := ⟨_, List.getElem?_eq_getElem hlt⟩
      obtain ⟨⟨k', x'⟩, hy⟩ : ∃ x, b[i]? = some x := ⟨_, List.getElem?_eq_getElem (by omega)⟩
      obtain ⟨ba, oa, rfl, ra⟩ := a3 (by intro h; rw [h] at hlt; simp at hlt)
      obtain ⟨bb, ob, rfl, rb⟩ := b3 (by intro h; have h' := congrArg List.length h; rw [List.length_nil] at h'; omega)
      obtain ⟨e1, e2, e3, e4⟩ := rdAttrs_at (rdAttrs_ext hE ra) hx
      obtain ⟨f1, f2, f3, f4⟩ := rdAttrs_at (rdAttrs_ext hE rb) hy
      have HD := Lib.hid (sameA_step hx hy)
      rw [pair_eq] at HD
      have q1 : (0 : Int) ≤ (i : Int) := by omega
      have q2 : (i : Int) < (a.length : Int) := by omega
      have q3 : (i : Int) < (b.length : Int) := by omega
      clear hx hy ra rb a3 b3
      rcases hc1 : (k.toList == k'.toList) with _ | _
      · have HG : Hid (sameA a b = false) := by rw [← HW.out, HD.out, hc1]; rfl
        clear HW HD
        go_wp2_with fail
        go_quiet (fail)
        go_wp2_with fail
        go_ret
        exact ret_bool HG.out.symm (hE.drewN _)
      · rcases hc2 : (x.toList == x'.toList) with _ | _
        · have HG : Hid (sameA a b = false) := by rw [← HW.out, HD.out, hc1, hc2]; rfl
          clear HW HD
          go_wp2_with fail
          go_quiet (fail)
          go_wp2_with fail
          go_ret
          exact ret_bool HG.out.symm (hE.drewN _)
        · have HN : Hid (sameA (a.drop (i + 1)) (b.drop (i + 1)) = sameA a b) := by rw [← HW.out, HD.out, hc1, hc2]; rfl
          clear HW HD
          go_wp2_with fail
          go_quiet (fail)
          go_wp2_with fail
          go_roundw
          case rel => exact ⟨i + 1, by go_num, by omega, HN, hE.drewN _⟩
          case measure => simp [intOf]; omega
    · have HG : Hid (sameA a b = true) := by rw [← HW.out, sameA_end hl3.out hlt]; rfl
      clear HW
      go_wp2_with fail
      go_ret
      exact ret_bool HG.out.symm hE
end Go.Proofs.Ytofcbclokkjfjaa.Bw
namespace Go.Proofs.Ytofcbclokkjfjaa.Bw
open Go.RowKit
theorem sameK_step {i : Bool} {a b : List Nd} {k : Nat} {x y : Nd} (hx : a[k]? = some x) (hy : b[k]? = some y) : sameK i (a.drop k) (b.drop k) = (x.same i y && sameK i (a.drop (k + 1)) (b.drop (k + 1))) := by
  rw [drop_at hx, drop_at hy, sameK]
theorem sameK_end {i : Bool} {a b : List Nd} {k : Nat} (h : a.length = b.length) (hk : a.length ≤ k) : sameK i (a.drop k) (b.drop k) = true := by
  rw [List.drop_eq_nil_of_le hk, List.drop_eq_nil_of_le (by omega), sameK]
end Go.Proofs.Ytofcbclokkjfjaa.Bw
namespace Go.Proofs.Ytofcbclokkjfjaa.Bw
open Go.RowKit
/-- What 'same' asks of two nodes themselves. -/
theorem same_id {a b : Nd} (h : a.id ≠ b.id) : a.same true b = false := by rw [Nd.same_eq, decide_eq_false h]; rfl
theorem same_leaf {i : Bool} {a b : Nd} (h : a.leaf ≠ b.leaf) : a.same i b = false := by rw [Nd.same_eq, decide_eq_false h]; simp
theorem same_label {i : Bool} {a b : Nd} (h : a.label ≠ b.label) : a.same i b = false := by rw [Nd.same_eq, decide_eq_false h]; simp
theorem same_text {i : Bool} {a b : Nd} (h : a.text ≠ b.text) : a.same i b = false := by rw [Nd.same_eq, decide_eq_false h]; simp
theorem same_attrs {i : Bool} {a b : Nd} (h : sameA a.attrs b.attrs = false) : a.same i b = false := by rw [Nd.same_eq, h]; simp
theorem same_kids {i : Bool} {a b : Nd} (h0 : i = true → a.id = b.id) (h1 : a.leaf = b.leaf) (h2 : a.label = b.label) (h3 : a.text = b.text) (h4 : sameA a.attrs b.attrs = true) : a.same i b = sameK i a.kids b.kids := by
  rw [Nd.same_eq, decide_eq_true h1, decide_eq_true h2, decide_eq_true h3, h4]
  cases i with
  | false => simp
  | true => rw [decide_eq_true (h0 rfl)]; simp
theorem cells_new (w : World) (cs : Array Value) (t : TypeId) (j : Nat) (v : Value) (h : cs[j]? = some v) : (w.alloc (.cells cs t)).cell? ⟨w.heap.size, j, none⟩ = some v :=
  (cell_of_blk (World.alloc_heap_new w _)).trans h
end Go.Proofs.Ytofcbclokkjfjaa.Bw
namespace Go.Proofs.Ytofcbclokkjfjaa.Bw
open Go.RowKit
end Go.Proofs.Ytofcbclokkjfjaa.Bw
namespace Go.Proofs.Ytofcbclokkjfjaa.Bw
open Go.RowKit
end Go.Proofs.Ytofcbclokkjfjaa.Bw
namespace Go.Proofs.Ytofcbclokkjfjaa.Bw
open Go.RowKit Go.Shelf
attribute [local go_sem] Oper.semAt_some
end Go.Proofs.Ytofcbclokkjfjaa.Bw
namespace Go.Proofs.Ytofcbclokkjfjaa.Bw
open Go.RowKit Go.Shelf
attribute [local go_sem] Oper.semAt_some
end Go.Proofs.Ytofcbclokkjfjaa.Bw
namespace Go.Proofs.Ytofcbclokkjfjaa.Bw
open Go.RowKit
theorem info42 : (Try.prog.info? 26).map (·.size) = some 6 := by kernel_rfl
end Go.Proofs.Ytofcbclokkjfjaa.Bw
