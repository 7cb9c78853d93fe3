/- Chapter 17: what was made in a call reads late: in every world that has the new blocks as they were. Nothing of the program is named here. -/
import Derived.Test.YtofcbclokkjfjaaBsPlain
import Derived.Test.YtofcbclokkjfjaaOuInts
import Derived.WalkKit
import Derived.RangeFuncNested
import Derived.RangeFuncBound
import Derived.RangeFuncCalls
import Derived.RangeFuncLeaves
import Derived.Shelf.Abstract
import Derived.Shelf.RegionOpen
import Derived.OwnWalkIn
import Derived.TacticsInMore
import Derived.LoopNIn
import Derived.LoopIn
import Derived.Test.YtofcbclokkjfjaaProg
import Derived.Test.YtofcbclokkjfjaaWiTree
namespace Go.Proofs.Ytofcbclokkjfjaa.Wi
open Go.RowKit Go.Proofs.Ytofcbclokkjfjaa.Bw

theorem Fr.over {A B C : World} {S T : Nat → Prop} (h : Fr A B S) (k : Fr B C T) (hT : ∀ i, S i → i < A.heap.size → T i) : Fr A C T :=
 ⟨k.os.trans h.os, k.tape.trans h.tape, k.output.trans h.output, Nat.le_trans h.size k.size, fun i hi ht => (k.block i (Nat.lt_of_lt_of_le hi h.size) ht).trans (h.block i hi (fun hs => ht (hT i hs hi)))⟩
theorem Fr.join {A B C : World} {S T U : Nat → Prop} (h : Fr A B S) (k : Fr B C T) (hU : ∀ i, i < A.heap.size → S i ∨ T i → U i) : Fr A C U :=
 ⟨k.os.trans h.os, k.tape.trans h.tape, k.output.trans h.output, Nat.le_trans h.size k.size, fun i hi hu => (k.block i (Nat.lt_of_lt_of_le hi h.size) (fun ht => hu (hU i hi (.inr ht)))).trans (h.block i hi (fun hs => hu (hU i hi (.inl hs))))⟩
/-- P holds in every world that goes on from W and has all blocks as they are there, but those of S. -/
def Late (S : Nat → Prop) (P : World → Prop) (W : World) : Prop := ∀ W2, Fr W W2 S → P W2
def old (lo : Nat) : Nat → Prop := fun k => k < lo
theorem Late.now {S : Nat → Prop} {P : World → Prop} {W : World} (h : Late S P W) : P W := h W (Fr.refl _ _)
theorem Late.to {S S' T : Nat → Prop} {P : World → Prop} {W W' : World} (h : Late S P W) (F : Fr W W' T) (hS : ∀ k, k < W.heap.size → T k ∨ S' k → S k) : Late S' P W' := fun W2 F2 => h W2 (F.join F2 hS)
theorem Late.sub {S S' : Nat → Prop} {P : World → Prop} {W : World} (h : Late S P W) (hS : ∀ k, S' k → S k) : Late S' P W := fun W2 F => h W2 (F.mono hS)
theorem Late.low {lo lo' : Nat} {P : World → Prop} {W : World} (h : Late (old lo) P W) (hl : lo' ≤ lo) : Late (old lo') P W := h.sub fun _ hk => Nat.lt_of_lt_of_le hk hl
theorem Late.imp {S : Nat → Prop} {P Q : World → Prop} {W : World} (h : Late S P W) (hpq : ∀ W, P W → Q W) : Late S Q W := fun W2 F => hpq W2 (h W2 F)
theorem Late.and {S : Nat → Prop} {P Q : World → Prop} {W : World} (h : Late S P W) (k : Late S Q W) : Late S (fun W => P W ∧ Q W) W := fun W2 F => ⟨h W2 F, k W2 F⟩
theorem Late.all {S : Nat → Prop} {P : World → Prop} {W : World} (h : ∀ W, P W) : Late S P W := fun W2 _ => h W2
theorem Late.ext {S : Nat → Prop} {P : World → Prop} {W W' : World} (h : Late S P W) (k : Ext W W') : Late S P W' := h.to (T := fun _ => False) (Fr.of_ext k _) (fun _ _ hk => hk.elim False.elim id)
/-- An owned row stays. -/
theorem Late.own {W : World} {base lo e size n : Nat} {v : Value} {xs : List Value} (h : W.ownsRow base e size v n xs) (hl : lo ≤ base) : Late (old lo) (fun W => W.ownsRow base e size v n xs) W :=
 fun W2 F => owns_fr F h (fun g hg hk => by have := owns_base h g hg; exact absurd hk (Nat.not_lt.2 (Nat.le_trans hl this)))

/-- The cells of a row of structs. -/
def rowCells {α : Type} (R : World → α → Value → Prop) (sz : Nat) (W : World) : List α → List Value → Prop
 | [], us => us = []
 | x :: l, us => ∃ cs us', cs.length = sz ∧ R W x (.agg cs.toArray) ∧ us = cs ++ us' ∧ rowCells R sz W l us'
theorem rowCells_add {α : Type} {R : World → α → Value → Prop} {sz : Nat} {W : World} {x : α} {cs : List Value} (hs : cs.length = sz) (hx : R W x (.agg cs.toArray)) : ∀ (l : List α) (us : List Value), rowCells R sz W l us → rowCells R sz W (l ++ [x]) (us ++ cs)
 | [], us, h => by
  unfold rowCells at h
  subst h
  exact ⟨cs, [], hs, hx, by simp, rfl⟩
 | y :: l, us, h => by
  obtain ⟨ds, us', h1, h2, rfl, h3⟩ := h
  exact ⟨ds, us' ++ cs, h1, h2, by rw [List.append_assoc], rowCells_add hs hx l us' h3⟩
/-- What an owned row has in its cells. -/
theorem owns_cells {W : World} {base e size n : Nat} {v : Value} {xs : List Value} (h : W.ownsRow base e size v n xs) : ∃ A c, v = .slice A n c ∧ n ≤ c ∧ c ≤ maxLen ∧ (0 < n → ∃ g, A = some ⟨g, 0, none⟩ ∧ ∀ j u, xs[j]? = some u → W.cell? ⟨g, 0 + j, none⟩ = some u) := by
 obtain ⟨A, c, h1, h2, h3, h4, h5⟩ := RdS.of_owns h
 refine ⟨A, c, h1, h3, h4, fun h0 => ?_⟩
 rcases h.2 with ⟨_, hn⟩ | ⟨g, cap, cur, rfl, _⟩
 ·omega
 ·obtain ⟨b, off, hA, hc⟩ := h5 h0
  simp only [Value.slice.injEq] at h1
  obtain ⟨h1, -⟩ := h1
  rw [hA] at h1
  simp only [Option.some.injEq, Addr.mk.injEq, and_true] at h1
  obtain ⟨rfl, rfl⟩ := h1
  exact ⟨g, hA, hc⟩
/-! ### Attributes -/
abbrev Atr := ByteArray × ByteArray
def RdAtr (_ : World) (x : Atr) (v : Value) : Prop := v = .agg #[.string x.1, .string x.2] ∧ okStr x.1 ∧ okStr x.2
theorem rdAttrs_of {W : World} {b : Nat} : ∀ (l : List Atr) (us : List Value) (off : Nat), rowCells RdAtr 2 W l us → (∀ j u, us[j]? = some u → W.cell? ⟨b, off + j, none⟩ = some u) → rdAttrs W b off l
 | [], _, _, _, _ => trivial
 | (k, v) :: l, us, off, h, hc => by
  obtain ⟨cs, us', h1, ⟨h2, h3, h4⟩, rfl, h5⟩ := h
  simp only [Value.agg.injEq] at h2
  have h2' : cs = [.string k, .string v] := by
   have := congrArg Array.toList h2
   simpa using this
  subst h2'
  refine ⟨?_, ?_, h3, h4, rdAttrs_of l us' (off + 2) h5 (fun j u hj => ?_)⟩
  ·have := hc 0 (.string k) rfl
   simpa using this
  ·exact hc 1 (.string v) rfl
  ·have := hc (2 + j) u (by simpa [Nat.add_comm] using hj)
   rw [show off + 2 + j = off + (2 + j) by omega]
   exact this
theorem RdA.of_row {W : World} {base e : Nat} {v : Value} {l : List Atr} {us : List Value} (h : W.ownsRow base e 2 v l.length us) (hr : rowCells RdAtr 2 W l us) : RdA W l v := by
 obtain ⟨A, c, rfl, h1, h2, h3⟩ := owns_cells h
 refine ⟨A, c, rfl, h1, h2, fun hl => ?_⟩
 obtain ⟨g, rfl, hc⟩ := h3 (List.length_pos_iff.2 hl)
 exact ⟨g, 0, rfl, rdAttrs_of l us 0 hr hc⟩
/-! ### Nodes -/
def RdNd (W : World) (x : Nd) (v : Value) : Prop := x.rd W v
theorem rdKids_of {W : World} {b : Nat} : ∀ (l : List Nd) (us : List Value) (off : Nat), rowCells RdNd 6 W l us → (∀ j u, us[j]? = some u → W.cell? ⟨b, off + j, none⟩ = some u) → rdKids W b off l
 | [], _, _, _, _ => by unfold rdKids; trivial
 | k :: l, us, off, h, hc => by
  obtain ⟨cs, us', h1, h2, rfl, h5⟩ := h
  match cs, h1 with
  | [c0, c1, c2, c3, c4, c5], _ =>
   unfold rdKids
   refine ⟨⟨c0, c1, c2, c3, c4, c5, ?_, hc 1 c1 rfl, hc 2 c2 rfl, hc 3 c3 rfl, hc 4 c4 rfl, hc 5 c5 rfl, h2⟩, rdKids_of l us' (off + 6) h5 (fun j u hj => ?_)⟩
   ·have := hc 0 c0 rfl
    simpa using this
   ·have := hc (6 + j) u (by simpa [Nat.add_comm] using hj)
    rw [show off + 6 + j = off + (6 + j) by omega]
    exact this
theorem RdK.of_row {W : World} {base e : Nat} {v : Value} {l : List Nd} {us : List Value} (h : W.ownsRow base e 6 v l.length us) (hr : rowCells RdNd 6 W l us) : RdK W l v := by
 obtain ⟨A, c, rfl, h1, h2, h3⟩ := owns_cells h
 refine ⟨A, c, rfl, h1, h2, fun hl => ?_⟩
 obtain ⟨g, rfl, hc⟩ := h3 (List.length_pos_iff.2 hl)
 exact ⟨g, 0, rfl, rdKids_of l us 0 hr hc⟩
/-! ### What is read: it reads late -/
def rowS (lo : Nat) (v : Value) : Nat → Prop := fun k => k < lo ∨ v.ownBlock = some k
def rowV2 {α : Type} (R : World → α → Value → Prop) (t sz lo : Nat) (l : List α) (v : Value) (W : World) : Prop := ∃ us, W.ownsRow lo t sz v l.length us ∧ Late (rowS lo v) (fun W => rowCells R sz W l us) W
def ndV (lo : Nat) (x : Nd) (v : Value) (W : World) : Prop := Late (old lo) (fun W => x.rd W v) W
theorem ndV.low {lo lo' : Nat} {x : Nd} {v : Value} {W : World} (h : ndV lo x v W) (hl : lo' ≤ lo) : ndV lo' x v W := Late.low h hl
theorem rowV2.kids {t lo : Nat} {l : List Nd} {v : Value} {W : World} (h : rowV2 RdNd t 6 lo l v W) : Late (old lo) (fun W => RdK W l v) W := by
 obtain ⟨us, h1, h2⟩ := h
 exact ((Late.own h1 (Nat.le_refl _)).and (h2.sub fun _ => .inl)).imp fun W ⟨h3, h4⟩ => RdK.of_row h3 h4
theorem rowV2.low {α : Type} {R : World → α → Value → Prop} {t sz lo lo' : Nat} {l : List α} {v : Value} {W : World} (h : rowV2 R t sz lo l v W) (hl : lo' ≤ lo) : rowV2 R t sz lo' l v W := by
 obtain ⟨us, h1, h2⟩ := h
 refine ⟨us, ?_, h2.sub fun k hk => hk.imp (fun h => Nat.lt_of_lt_of_le h hl) id⟩
 refine ⟨h1.1, h1.2.imp id ?_⟩
 rintro ⟨g, cap, cur, e1, e2, h3⟩
 exact ⟨g, cap, cur, e1, Nat.le_trans hl e2, h3⟩
/-- One more: behind an append. -/
theorem rowV2.add {α : Type} {R : World → α → Value → Prop} {t sz lo : Nat} {l : List α} {v v4 : Value} {x : α} {cs us : List Value} {wr w3 w4 : World} (h1 : wr.ownsRow lo t sz v l.length us) (h2 : Late (rowS lo v) (fun W => rowCells R sz W l us) w3)
  (hx : Late (old wr.heap.size) (fun W => R W x (.agg cs.toArray)) w3) (hs : cs.length = sz) (hlo : lo ≤ wr.heap.size) (hg : w3.grownBy w4 v.ownBlock) (hat : v4.ownBlock = v.ownBlock ∨ v4.ownBlock = some w3.heap.size)
  (h4 : w4.ownsRow lo t sz v4 (l.length + 1) (us ++ cs)) : rowV2 R t sz lo (l ++ [x]) v4 w4 := by
 have F := Fr.grown hg
 have hb : ∀ k, v.ownBlock = some k → k < wr.heap.size := fun k hk => (h1.lt k hk).2
 refine ⟨us ++ cs, by rw [List.length_append]; exact h4, ?_⟩
 have a1 : Late (rowS lo v4) (fun W => rowCells R sz W l us) w4 := h2.to F (fun k hk hh => by
  rcases hh with hh | hh | hh
  ·exact .inr hh
  ·exact .inl hh
  ·rcases hat with h | h
   ·exact .inr (h ▸ hh)
   ·rw [h] at hh
    cases hh
    exact absurd hk (Nat.lt_irrefl _))
 have a2 : Late (rowS lo v4) (fun W => R W x (.agg cs.toArray)) w4 := hx.to F (fun k hk hh => by
  rcases hh with hh | hh | hh
  ·exact hb k hh
  ·exact Nat.lt_of_lt_of_le hh hlo
  ·rcases hat with h | h
   ·exact hb k (h ▸ hh)
   ·rw [h] at hh
    cases hh
    exact absurd hk (Nat.lt_irrefl _))
 exact (a1.and a2).imp fun W ⟨b1, b2⟩ => rowCells_add hs b2 l us b1
end Go.Proofs.Ytofcbclokkjfjaa.Wi
namespace Go.Proofs.Ytofcbclokkjfjaa.Wi
open Go.RowKit Go.Proofs.Ytofcbclokkjfjaa.Bw Go.Proofs.Ytofcbclokkjfjaa.Bs

/-- What is thrown: an error's number. -/
def ER (k : Int) : List PanicEntry := [{ v := .iface 32 (.int .i64 k), recovered := false }]
theorem need_yes (k : Int) (w : World) : Calls Try.prog 28 #[.bool true, .int .i64 k] w fun e w' => e = .returned (.tuple #[]) ∧ w = w' := by
 go_enter Try.func28, Try.ntmps28
 go_wp2_with fail
 go_end0
 exact ⟨rfl, rfl⟩
theorem need_no (k : Int) (w : World) : Calls Try.prog 28 #[.bool false, .int .i64 k] w fun e w' => e = .panicked (ER k) ∧ w = w' := by
 go_enter Try.func28, Try.ntmps28
 go_wp2_with fail
 exact ⟨rfl, rfl, rfl⟩
theorem is_errno (k : Int) (W : World) : (Instr.typeAssert (.iface 32 (.int .i64 k)) 20 32 true).run Try.prog W = .ok (.tuple #[.int .i64 k, .bool true]) W := by kernel_rfl
set_option maxRecDepth 100000 in
set_option maxHeartbeats 4000000 in
theorem ask_throw (k : Int) (L E : Nat) (x y : Value) (w : World) (hL : NBox w L 31 #[x]) (hE : NBox w E 32 #[y]) :
  CallsD Try.prog 46 #[.pointer (some ⟨L, 0, none⟩), .pointer (some ⟨E, 0, none⟩)] (.panicking (ER k)) w fun e u' w' => e = .returned (.tuple #[]) ∧ u' = .panicking [{ v := .iface 32 (.int .i64 k), recovered := true }] ∧ w' = (w.setCell ⟨L, 0, none⟩ (.slice none 0 0)).setCell ⟨E, 0, none⟩ (.int .i64 k) := by
 have hLE : L ≠ E := NBox.apart hL hE (by decide)
 have c0 := hL.cell 0
 have z0 := hL.frozen 0
 have F := Fr.setCell w L 0 (.slice none 0 0)
 have hE2 := hE.fr F (fun h => hLE h.symm)
 have c1 := hE2.cell 0
 have z1 := hE2.frozen 0
 have hta := is_errno k
 clear hL hE hE2 F
 refine callsD_of_wpS Try.func46 rfl fun c₀ cs hu => ?_
 unfold ER at hu
 apply wpS_seq
 apply wpS_region
 simp [wpOpsS, go_sem, recoverD, hu, Try.ntmps46, Exit.thenS]
 refine wpS_of_wp ?_
 go_wp2_with fail
 simp [bodyPostS, results, Try.results46]
set_option maxRecDepth 100000 in
set_option maxHeartbeats 4000000 in
theorem ask_idle (L E : Nat) (w : World) :
  CallsD Try.prog 46 #[.pointer (some ⟨L, 0, none⟩), .pointer (some ⟨E, 0, none⟩)] .returning w fun e u' w' => e = .returned (.tuple #[]) ∧ u' = .returning ∧ w' = w := by
 refine callsD_of_wpS Try.func46 rfl fun c₀ cs hu => ?_
 apply wpS_seq
 apply wpS_region
 simp [wpOpsS, go_sem, recoverD, hu, Try.ntmps46, Exit.thenS]
 refine wpS_of_wp ?_
 go_wp2_with fail
 cases c₀
 simp_all [bodyPostS, results, Try.results46]
end Go.Proofs.Ytofcbclokkjfjaa.Wi
namespace Go.Proofs.Ytofcbclokkjfjaa.Bw
open Go.RowKit Go.Shelf
attribute [local go_sem] Oper.semAt_some

theorem room_of_none {F : Fence} (hd : F.depth = none) (k : Nat) : F.room k := fun d h => by rw [hd] at h; cases h
theorem RoundIn.anyDepth {F : Fence} (hd : F.depth = none) {m m' : Nat} {P : Program} {l : Nat} {f : FuncId} {tmps : Array Value} {assign body : Code} {w : World} {R : Ending → World → Prop}
  (h : RoundIn F m P l f tmps assign body w R) : RoundIn F m' P l f tmps assign body w R := ⟨h.1, fun c cs _ => h.2 c cs (room_of_none hd _)⟩
theorem YieldAt.anyDepth {F : Fence} (hd : F.depth = none) {m : Nat} (m' : Nat) {P : Program} {l : Nat} {args : Array Value} {W : World} {R : Ending → World → Prop} (h : YieldAt F m P l args W R) : YieldAt F m' P l args W R := by
 obtain ⟨fn, tmps, assign, body, hy, hR⟩ := h
 exact ⟨fn, tmps, assign, body, hy, RoundIn.anyDepth hd hR⟩

mutual
/-- A tree's nodes in the order of the document, with how deep they are. -/
def Nd.pre : Nd → Int → List (Int × Nd)
 | .mk id leaf lb ats tx ks, d => (d, .mk id leaf lb ats tx ks) :: preK ks (d + 1)
def preK : List Nd → Int → List (Int × Nd)
 | [], _ => []
 | k :: r, d => k.pre d ++ preK r d
end
theorem Nd.pre_eq (t : Nd) (d : Int) : t.pre d = (d, t) :: preK t.kids (d + 1) := by cases t; rw [Nd.pre]; rfl

/-- What the iterator hands over: a depth, a node, and a value that reads as that node in the world w₀. -/
def El (w₀ : World) : Type := { x : Int × Nd × Value // x.2.1.rd w₀ x.2.2 ∧ x.2.1.wt ≤ 1000000 }
def El.of {w₀ : World} (d : Int) (t : Nd) (v : Value) (h : t.rd w₀ v) (hw : t.wt ≤ 1000000) : El w₀ := ⟨(d, t, v), h, hw⟩
def El.args {w₀ : World} (x : El w₀) : Array Value := #[.int .i64 x.1.1, x.1.2.2]
def El.key {w₀ : World} (x : El w₀) : Int × Nd := (x.1.1, x.1.2.1)
theorem El.of_args {w₀ : World} (d : Int) (t : Nd) (v : Value) (h : t.rd w₀ v) (hw : t.wt ≤ 1000000) : (El.of d t v h hw).args = #[.int .i64 d, v] := rfl
theorem El.of_key {w₀ : World} (d : Int) (t : Nd) (v : Value) (h : t.rd w₀ v) (hw : t.wt ≤ 1000000) : (El.of d t v h hw).key = (d, t) := rfl
def keys {w₀ : World} (l : List (El w₀)) : List (Int × Nd) := l.map El.key
theorem keys_append {w₀ : World} (a b : List (El w₀)) : keys (a ++ b) = keys a ++ keys b := by simp [keys]
theorem keys_one {w₀ : World} (x : El w₀) : keys [x] = [x.key] := rfl
theorem keys_len {w₀ : World} (a : List (El w₀)) : (keys a).length = a.length := by simp [keys]

theorem Ext.trans' {a b c : World} (h : Ext a b) (k : Below a.heap.size b c) : Ext a c := Below.trans h k
/-- Old memory stays below n₀, and no block whose cells are of type T is written. -/
def KeepT (n₀ T : Nat) (W W' : World) : Prop := Below n₀ W W' ∧ ∀ (k : Nat) (c : Array Value) (fz : Nat × Nat), W.heap[k]? = some (Obj.cells c T fz) → W'.heap[k]? = some (Obj.cells c T fz)
theorem KeepT.refl (n₀ T : Nat) (W : World) : KeepT n₀ T W W := ⟨Below.refl _ _, fun _ _ _ h => h⟩
theorem KeepT.trans {n₀ T : Nat} {A B C : World} (h : KeepT n₀ T A B) (k : KeepT n₀ T B C) : KeepT n₀ T A C := ⟨h.1.trans k.1, fun j c fz hj => k.2 j c fz (h.2 j c fz hj)⟩
theorem KeepT.putObj {n₀ T : Nat} {W : World} {l : Nat} {o o' : Obj} (hl : n₀ ≤ l) (h : W.heap[l]? = some o) (hc : o.isCells = false) : KeepT n₀ T W (W.putObj l o') :=
 ⟨(Below.refl _ _).trans ⟨rfl, rfl, rfl, (grownBy_putObj' W l o').size, fun k hk => (grownBy_putObj' W l o').block k (by have := (Array.getElem?_eq_some_iff.1 h).1; omega) (fun e => by cases e; omega)⟩,
  fun k c fz hk => ((grownBy_putObj' W l o').block k (Array.getElem?_eq_some_iff.1 hk).1 (fun e => by cases e; rw [h] at hk; cases hk; cases hc)).trans hk⟩
theorem KeepT.grown {n₀ T : Nat} {W W' : World} (hB : Below n₀ W W') {row : Option Nat} (hg : W.grownBy W' row) (hr : ∀ (k : Nat) (c : Array Value) (fz : Nat × Nat), row = some k → W.heap[k]? ≠ some (Obj.cells c T fz)) : KeepT n₀ T W W' :=
 ⟨hB, fun k c fz hk => (hg.block k (Array.getElem?_eq_some_iff.1 hk).1 (fun e => hr k c fz e.symm hk)).trans hk⟩
theorem KeepT.alloc {n₀ T : Nat} {A W : World} (h : KeepT n₀ T A W) (hn : n₀ ≤ W.heap.size) (o : Obj) : KeepT n₀ T A (W.alloc o) :=
 h.trans (KeepT.grown ((Below.refl _ _).alloc hn o) (World.grownBy_alloc W o none) (fun _ _ _ e => by cases e))
theorem KeepT.drewN {n₀ T : Nat} {A W : World} (h : KeepT n₀ T A W) (n : Nat) : KeepT n₀ T A (W.drewN n) := ⟨⟨h.1.os, h.1.tape, h.1.output, h.1.size, h.1.block⟩, h.2⟩
theorem KeepT.box {n₀ T t : Nat} {A W : World} {B : Nat} {v : Value} (h : KeepT n₀ T A W) (hb : Boxed W B t v) (ht : t ≠ T) (hB : n₀ ≤ B) (u : Value) : KeepT n₀ T A (W.setCell ⟨B, 0, none⟩ u) :=
 h.trans (KeepT.grown ((Below.refl _ _).setCell (p := ⟨B, 0, none⟩) hB u) (grownBy_setCell' W B u) (fun k c fz e hk => by
  cases e; rw [show W.heap[B]? = _ from hb] at hk; cases hk; exact ht rfl))
theorem cell_of_blk {W : World} {b i : Nat} {c : Array Value} {t : TypeId} {fz : Nat × Nat} (h : W.heap[b]? = some (.cells c t fz)) : W.cell? ⟨b, i, none⟩ = c[i]? := by
 simp [World.cell?, h]

set_option maxRecDepth 100000 in
set_option maxHeartbeats 2000000 in
theorem walk_in (F : Fence) (hd : F.depth = none) (h45 : F.fn 71) (hro : F.round = none) (w₀ : World) (l N : Nat) (J Jx : List (El w₀) → World → Prop)
  (hJ : ∀ s W W', J s W → W.grownBy W' none → J s W')
  (hY : ∀ m pre x W, J pre W → pre.length < N → YieldAt F m Try.prog l x.args W fun e W' =>
   (e = .returned (.bool true) ∧ J (pre ++ [x]) W' ∧ KeepT w₀.heap.size 26 W W') ∨ (e = .returned (.bool false) ∧ Jx (pre ++ [x]) W')) (M : Nat) :
  ∀ (n : Nat) (t : Nd) (v : Value) (d : Int) (pre : List (El w₀)) (W : World), t.cnt ≤ M → t.rd w₀ v → Ext w₀ W → J pre W → pre.length + (t.pre d).length ≤ N → 0 ≤ d → d + t.cnt ≤ 2000000 → t.wt ≤ 1000000 →
   CallsIn F n Try.prog 71 #[v, .int .i64 d, .func (.yield l) #[] #[]] W fun e W' =>
    (e = .returned (.bool true) ∧ ∃ ys, keys ys = t.pre d ∧ J (pre ++ ys) W' ∧ KeepT w₀.heap.size 26 W W') ∨ (e = .returned (.bool false) ∧ ∃ q, keys q <+: t.pre d ∧ Jx (pre ++ q) W') := by
 induction M with
 | zero => intro n t v d pre W h; rw [Nd.cnt_eq] at h; omega
 | succ M ih =>
  intro n t v d pre W hM hr hE hj hN hd0 hd1 hwt
  obtain ⟨av, kv, rfl, i0, i1, hl, ht, hA, hK⟩ := Nd.rd_open hr
  obtain ⟨kA, kc, rfl, k1, k2, k3⟩ := hK
  unfold maxLen at k2
  have hdd : ∀ k : Nat, (F.depth.isSome = true → 1 ≤ k) := fun k h => by rw [hd] at h; cases h
  have hpl : 1 ≤ (t.pre d).length := by rw [Nd.pre_eq]; simp
  obtain ⟨W1, hW1⟩ : ∃ W1, W.alloc (.cells #[.int .u64 t.id, .bool t.leaf, .string t.label, av, .string t.text, .slice kA t.kids.length kc] 26) = W1 := ⟨_, rfl⟩
  have hj1 : J pre W1 := by rw [← hW1]; exact hJ _ _ _ hj (World.grownBy_alloc W _ none)
  have hE1 : Ext w₀ W1 := by rw [← hW1]; exact hE.alloc _
  have hB1 : KeepT w₀.heap.size 26 W W1 := by rw [← hW1]; exact (KeepT.refl _ _ _).alloc hE.size _
  have hbk : Hid (W1.heap[W.heap.size]? = some (.cells #[.int .u64 t.id, .bool t.leaf, .string t.label, av, .string t.text, .slice kA t.kids.length kc] 26 (0, 0))) := by rw [← hW1]; exact World.alloc_heap_new W _
  obtain ⟨fn, tmps, assign, body, hy, hR⟩ := hY (n - 1) pre (El.of d t _ hr hwt) W1 hj1 (by omega)
  have H1 := Lib.hid hW1
  clear hW1
  refine callsIn_of_wp Try.func71 rfl h45 ?_ hro
  simp only [Try.ntmps71, List.size_toArray, List.length_cons, List.length_nil, Nat.reduceAdd, Nat.reduceSub, Array.replicate_succ, Array.replicate_zero, List.push_toArray, List.append_toArray, List.nil_append, List.cons_append]
  rw [El.of_args] at hy
  gi_wp2
  rw [H1.out, hy, Oper.uponIn_round]
  refine ⟨hdd _, hR.mono ?_⟩
  clear hR hy
  rintro e W2 (⟨rfl, hj2, hb2⟩ | ⟨rfl, hx2⟩)
  ·have hE2 : Ext w₀ W2 := hE1.trans' hb2.1
   have c52 : W2.cell? ⟨W.heap.size, 5, none⟩ = some (.slice kA t.kids.length kc) := by rw [cell_of_blk (hb2.2 _ _ _ hbk.out)]; rfl
   have hbk2 := Lib.hid (hb2.2 _ _ _ hbk.out)
   clear hbk
   have hst : Hid (keys ([El.of d t _ hr hwt] : List (El w₀)) ++ preK (t.kids.drop 0) (d + 1) = t.pre d) := by rw [keys_one, El.of_key, Nd.pre_eq]; rfl
   gi_wp2
   gi_loopw [17] (fun s17 wr => ∃ (k : Nat) (ys : List (El w₀)), s17 = .int .i64 k ∧ k ≤ t.kids.length ∧ Hid (keys ys ++ preK (t.kids.drop k) (d + 1) = t.pre d) ∧ J (pre ++ ys) wr ∧ Ext w₀ wr ∧ KeepT w₀.heap.size 26 W wr) (fun i _ => t.kids.length - (intOf i).toNat)
   case atStart => exact ⟨0, _, rfl, Nat.zero_le _, hst, hj2, hE2, hB1.trans hb2⟩
   case round =>
    clear hst hj2 hE2 hb2 hj1 hB1 hE1 c52
    obtain ⟨k, ys, rfl, hk, HS, hjr, hEr, hKr⟩ := hrel
    rcases Nat.lt_or_ge k t.kids.length with hlt | hlt
    ·obtain ⟨kid, hx⟩ : ∃ x, t.kids[k]? = some x := ⟨_, List.getElem?_eq_getElem hlt⟩
     obtain ⟨b, off, rfl, hrd⟩ := k3 (by intro h; rw [h] at hlt; simp at hlt)
     obtain ⟨aA', ac', kA', kc', e0, e1, e2, e3, e4, e5, hkid⟩ := rdKids_get hrd hx
     have hHD := Lib.hid (drop_at hx)
     have hcnt : kid.cnt ≤ M := by have := Nd.cnt_kid hx; omega
     have hlk : pre.length + ys.length + (kid.pre (d + 1)).length ≤ N := by
      have := congrArg List.length HS.out
      rw [hHD.out, preK, List.length_append, List.length_append, keys_len] at this
      omega
     obtain ⟨W3, hW3⟩ : ∃ W3, wr.alloc (.cells #[.int .u64 kid.id, .bool kid.leaf, .string kid.label, .slice aA' kid.attrs.length ac', .string kid.text, .slice kA' kid.kids.length kc'] 26) = W3 := ⟨_, rfl⟩
     have hj3 : J (pre ++ ys) W3 := by rw [← hW3]; exact hJ _ _ _ hjr (World.grownBy_alloc _ _ none)
     have hE3 : Ext w₀ W3 := by rw [← hW3]; exact hEr.alloc _
     have hK3 : KeepT w₀.heap.size 26 W W3 := by rw [← hW3]; exact hKr.alloc hEr.size _
     have H3 := Lib.hid hW3
     replace e0 := hEr.cell e0; replace e1 := hEr.cell e1; replace e2 := hEr.cell e2; replace e3 := hEr.cell e3; replace e4 := hEr.cell e4; replace e5 := hEr.cell e5
     have ih1 := ih (n - 1) kid _ (d + 1) (pre ++ ys) W3 hcnt hkid hE3 hj3 (by rw [List.length_append]; exact hlk) (by omega) (by have := Nd.cnt_kid hx; omega) (by have := Nd.wt_kid hx; omega)
     clear hW3 hrd k3 hx
     gi_wp2_with (rw [H3.out]; gi_at_call 71; refine ih1.mono ?_; clear ih1; rintro e W4 (⟨rfl, zs, hz, hj4, hb4⟩ | ⟨rfl, q, hq, hx4⟩))
     ·go_roundw
      case rel => exact ⟨k + 1, ys ++ zs, by go_num, by omega, by rw [keys_append, hz, List.append_assoc, ← preK, ← hHD.out]; exact HS, by rw [← List.append_assoc]; exact hj4, hE3.trans' hb4.1, hK3.trans hb4⟩
      case measure => simp [intOf]; omega
     ·go_ret
      refine .inr ⟨rfl, ys ++ q, ?_, by rw [← List.append_assoc]; exact hx4⟩
      obtain ⟨r, hr'⟩ := hq
      rw [← HS.out, hHD.out, preK, keys_append, ← hr']
      exact ⟨r ++ preK (t.kids.drop (k + 1)) (d + 1), by simp only [List.append_assoc]⟩
    ·gi_wp2
     go_ret
     exact .inl ⟨rfl, ys, by have := HS.out; rw [List.drop_eq_nil_of_le hlt, preK, List.append_nil] at this; exact this, hjr, hKr⟩
  ·gi_wp2
   go_ret
   exact .inr ⟨rfl, [_], by rw [keys_one, El.of_key, Nd.pre_eq]; exact ⟨_, rfl⟩, hx2⟩

theorem KeepT.ext {n₀ T : Nat} {A W : World} (h : Ext A W) (hn : n₀ ≤ A.heap.size) : KeepT n₀ T A W :=
 ⟨Below.mono h hn, fun k _ _ hk => (h.block k (Array.getElem?_eq_some_iff.1 hk).1).trans hk⟩
theorem KeepsOthers.ext {A W : World} (h : Ext A W) : KeepsOthers A W := ⟨h.size, fun k _ hk _ => (h.block k (Array.getElem?_eq_some_iff.1 hk).1).trans hk⟩
/-- What a round's body owes. -/
structure Keep2 (n₀ T : Nat) (W W' : World) : Prop where
 t : KeepT n₀ T W W'
 o : KeepsOthers W W'
theorem Keep2.refl (n₀ T : Nat) (W : World) : Keep2 n₀ T W W := ⟨KeepT.refl _ _ _, KeepsOthers.refl _⟩
theorem Keep2.trans {n₀ T : Nat} {A B C : World} (h : Keep2 n₀ T A B) (k : Keep2 n₀ T B C) : Keep2 n₀ T A C := ⟨h.t.trans k.t, h.o.trans k.o⟩
theorem Keep2.ext {n₀ T : Nat} {A B C : World} (h : Keep2 n₀ T A B) (hn : n₀ ≤ B.heap.size) (k : Ext B C) : Keep2 n₀ T A C := h.trans ⟨KeepT.ext k hn, KeepsOthers.ext k⟩
theorem Keep2.box {n₀ T t : Nat} {A W : World} {B : Nat} {v : Value} (h : Keep2 n₀ T A W) (hb : Boxed W B t v) (ht : t ≠ T) (hB : n₀ ≤ B) (u : Value) : Keep2 n₀ T A (W.setCell ⟨B, 0, none⟩ u) :=
 h.trans ⟨(KeepT.refl _ _ _).box hb ht hB u, KeepsOthers.setCell _ _ _⟩

set_option maxHeartbeats 1000000 in
theorem nodes_any (v : Value) (w : World) (t : Nd) (hr : t.rd w v) :
  Calls Try.prog 60 #[v] w fun e w' => e = .returned (.func (.func 70) #[] #[.pointer (some ⟨w.heap.size, 0, none⟩)]) ∧ w' = w.alloc (.cells v.cells 26) := by
 obtain ⟨av, kv, rfl, i0, i1, hl, ht, ⟨aA, ac, rfl, _⟩, ⟨kA, kc, rfl, _⟩⟩ := Nd.rd_open hr
 go_enter Try.func60, Try.ntmps60
 go_wp2_with fail
 go_ret
 exact ⟨rfl, rfl⟩

set_option maxRecDepth 100000 in
set_option maxHeartbeats 1000000 in
theorem nodes1_stops (F : Fence) (hd : F.depth = none) (h44 : F.fn 70) (h45 : F.fn 71) (hro : F.round = none) (n : Nat) (w₀ : World) (t : Nd) (v : Value) (Bn : Nat) (w : World) (hr : t.rd w₀ v) (hE : Ext w₀ w) (hB : w.heap[Bn]? = some (.cells v.cells 26 (0, 0))) (hc : t.wt ≤ 1000000) :
  SeqStopsK F n Try.prog 70 #[.pointer (some ⟨Bn, 0, none⟩)] (El.args (w₀ := w₀)) (KeepT w₀.heap.size 26) (fun xs => keys xs = t.pre 0) (fun q => keys q <+: t.pre 0) (t.pre 0).length w := by
 intro l J Jx W hW hJ _ hY h0
 have hdd : ∀ k : Nat, (F.depth.isSome = true → 1 ≤ k) := fun k h => by rw [hd] at h; cases h
 have hJ' : ∀ s W W', J s W → W.grownBy W' none → J s W' := fun s X Y hs hg => hJ s X Y none hs hg (fun r e => by cases e)
 have hp := walk_in F hd h45 hro w₀ l (t.pre 0).length J Jx hJ' (fun m pre x W hj hl => YieldAt.anyDepth hd m (hY pre x W hj hl)) t.cnt (n - 1) t v 0 [] W (Nat.le_refl _) hr (hE.trans hW) h0 (by simp) (by omega) (by have := Nd.cnt_wt t; omega) hc
 obtain ⟨av, kv, rfl, i0, i1, hl, ht, ⟨aA, ac, rfl, _⟩, ⟨kA, kc, rfl, _⟩⟩ := Nd.rd_open hr
 have hB' := (hW.block Bn (Array.getElem?_eq_some_iff.1 hB).1).trans hB
 have c0 : W.cell? ⟨Bn, 0, none⟩ = some (.int .u64 t.id) := by rw [cell_of_blk hB']; rfl
 have c1 : W.cell? ⟨Bn, 1, none⟩ = some (.bool t.leaf) := by rw [cell_of_blk hB']; rfl
 have c2 : W.cell? ⟨Bn, 2, none⟩ = some (.string t.label) := by rw [cell_of_blk hB']; rfl
 have c3 : W.cell? ⟨Bn, 3, none⟩ = some (.slice aA t.attrs.length ac) := by rw [cell_of_blk hB']; rfl
 have c4 : W.cell? ⟨Bn, 4, none⟩ = some (.string t.text) := by rw [cell_of_blk hB']; rfl
 have c5 : W.cell? ⟨Bn, 5, none⟩ = some (.slice kA t.kids.length kc) := by rw [cell_of_blk hB']; rfl
 clear hB hB'
 refine callsIn_of_wp Try.func70 rfl h44 ?_ hro
 simp only [Try.ntmps70, List.size_toArray, List.length_cons, List.length_nil, Nat.reduceAdd, Nat.reduceSub, Array.replicate_succ, Array.replicate_zero, List.push_toArray, List.append_toArray, List.nil_append, List.cons_append]
 gi_wp2_with ((try refine ⟨hdd _, ?_⟩); gi_at_call 71; refine hp.mono ?_; clear hp; rintro e W1 (⟨rfl, ys, hys, hj1, _⟩ | ⟨rfl, q, hq, hx⟩))
 ·go_end0
  exact ⟨⟨_, rfl⟩, .inl ⟨ys, hys, hj1⟩⟩
 ·go_end0
  exact ⟨⟨_, rfl⟩, .inr ⟨q, hq, hx⟩⟩
end Go.Proofs.Ytofcbclokkjfjaa.Bw
