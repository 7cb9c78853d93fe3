/- What reads in a part of memory: reading grows with the cells. Nothing of the program is named here. -/
import Derived.Test.YtkimbpeapolcbaaBsPlain
import Derived.RangeFuncNested
import Derived.RangeFuncBound
import Derived.RangeFuncCalls
import Derived.RangeFuncLeaves
import Derived.Shelf.Abstract
import Derived.Shelf.RegionOpen
import Derived.WalkKit
import Derived.OwnWalkIn
import Derived.TacticsInMore
import Derived.LoopNIn
import Derived.LoopIn
import Derived.Test.YtkimbpeapolcbaaProg
import Derived.Test.YtkimbpeapolcbaaBwWeighPlain
import Derived.BigQuiet
import Derived.Deep.QuietTactic
namespace Go.Proofs.Ytkimbpeapolcbaa.Bw
open Go.RowKit

/-- W has each cell of wo. -/
structure Sub (wo W : World) : Prop where
 cell : ∀ {p : Addr} {v : Value}, wo.cell? p = some v → W.cell? p = some v
theorem Sub.refl (w : World) : Sub w w := ⟨fun h => h⟩
theorem Sub.trans {a b c : World} (h : Sub a b) (k : Ext b c) : Sub a c := ⟨fun hp => k.cell (h.cell hp)⟩
theorem Sub.then {a b c : World} (h : Sub a b) (k : Sub b c) : Sub a c := ⟨fun hp => k.cell (h.cell hp)⟩
theorem Ext.sub {a b : World} (h : Ext a b) : Sub a b := ⟨fun hp => h.cell hp⟩

theorem rdAttrs_sub {w w' : World} (h : Sub w w') {b : Nat} : ∀ {off : Nat} {l : List (ByteArray × ByteArray)}, rdAttrs w b off l → rdAttrs w' b off l
 | _, [], _ => trivial
 | _, (_, _) :: _, ⟨h1, h2, h3, h4, h5⟩ => ⟨h.cell h1, h.cell h2, h3, h4, rdAttrs_sub h h5⟩
theorem RdA.sub {w w' : World} (h : Sub w w') {l : List (ByteArray × ByteArray)} {v : Value} (hr : RdA w l v) : RdA w' l v := by
 obtain ⟨A, c, rfl, h1, h2, h3⟩ := hr
 refine ⟨A, c, rfl, h1, h2, fun hl => ?_⟩
 obtain ⟨b, off, rfl, h4⟩ := h3 hl
 exact ⟨b, off, rfl, rdAttrs_sub h h4⟩
mutual
theorem Nd.rd_sub {w w' : World} (h : Sub w w') : ∀ {t : Nd} {v : Value}, Nd.rd w t v → Nd.rd w' t v
 | .mk _ _ _ _ _ ks, _, hr => by
  unfold Nd.rd at hr ⊢
  obtain ⟨av, A, c, rfl, h1, h2, h3, h4, h5, h6, h7⟩ := hr
  refine ⟨av, A, c, rfl, h1, h2, h3, h4.sub h, h5, h6, fun hl => ?_⟩
  obtain ⟨b, off, rfl, h8⟩ := h7 hl
  exact ⟨b, off, rfl, rdKids_sub h h8⟩
theorem rdKids_sub {w w' : World} (h : Sub w w') {b : Nat} : ∀ {off : Nat} {l : List Nd}, rdKids w b off l → rdKids w' b off l
 | _, [], _ => by unfold rdKids; trivial
 | _, k :: r, hr => by
  unfold rdKids at hr ⊢
  obtain ⟨⟨c0, c1, c2, c3, c4, c5, h0, h1, h2, h3, h4, h5, h6⟩, h7⟩ := hr
  exact ⟨⟨c0, c1, c2, c3, c4, c5, h.cell h0, h.cell h1, h.cell h2, h.cell h3, h.cell h4, h.cell h5, Nd.rd_sub h h6⟩, rdKids_sub h h7⟩
end
theorem RdK.sub {w w' : World} (h : Sub w w') {l : List Nd} {v : Value} (hr : RdK w l v) : RdK w' l v := by
 obtain ⟨A, c, rfl, h1, h2, h3⟩ := hr
 refine ⟨A, c, rfl, h1, h2, fun hl => ?_⟩
 obtain ⟨b, off, rfl, h4⟩ := h3 hl
 exact ⟨b, off, rfl, rdKids_sub h h4⟩
theorem RdS.sub {w w' : World} (h : Sub w w') {size n : Nat} {xs : List Value} {v : Value} (hr : RdS w size n xs v) : RdS w' size n xs v := by
 obtain ⟨A, c, h1, h2, h3, h4, h5⟩ := hr
 refine ⟨A, c, h1, h2, h3, h4, fun hl => ?_⟩
 obtain ⟨b, off, h6, h7⟩ := h5 hl
 exact ⟨b, off, h6, fun j u hj => h.cell (h7 j u hj)⟩

/-- The blocks that are made from w2 to w3 stand in W as they are in w3. -/
def News (w2 w3 W : World) : Prop := ∀ k, w2.heap.size ≤ k → k < w3.heap.size → W.heap[k]? = w3.heap[k]?
theorem News.now (w2 w3 : World) : News w2 w3 w3 := fun _ _ _ => rfl
theorem cell_block {w : World} {p : Addr} {v : Value} (h : w.cell? p = some v) : p.block < w.heap.size := by
 unfold World.cell? at h
 rcases Nat.lt_or_ge p.block w.heap.size with hlt | hge
 ·exact hlt
 ·rw [Array.getElem?_eq_none hge] at h; cases h
theorem cell_same {w W : World} {p : Addr} (h : W.heap[p.block]? = w.heap[p.block]?) : W.cell? p = w.cell? p := by
 unfold World.cell?; rw [h]
def nothing : Obj := .cells #[] 0
/-- wo, and what was made from w2 to w3. -/
def glue (wo w2 w3 : World) : World := { wo with heap := Array.ofFn (n := w3.heap.size) (fun k => if k.val < w2.heap.size then (wo.heap[k.val]?).getD nothing else (w3.heap[k.val]?).getD nothing) }
theorem glue_size (wo w2 w3 : World) : (glue wo w2 w3).heap.size = w3.heap.size := by simp [glue]
theorem glue_old {wo w2 w3 : World} {k : Nat} (hk : k < w2.heap.size) (h3 : k < w3.heap.size) (ho : k < wo.heap.size) : (glue wo w2 w3).heap[k]? = wo.heap[k]? := by
 simp [glue, hk, h3, ho]
theorem glue_new {wo w2 w3 : World} {k : Nat} (hk : w2.heap.size ≤ k) (h3 : k < w3.heap.size) : (glue wo w2 w3).heap[k]? = w3.heap[k]? := by
 simp [glue, Nat.not_lt.2 hk, h3]
theorem nothing_cell (i : Nat) (e : Option Nat) (w : World) (k : Nat) (h : w.heap[k]? = some nothing) : ∀ v, w.cell? ⟨k, i, e⟩ ≠ some v := by
 intro v hv
 unfold World.cell? at hv
 rw [h] at hv
 simp [nothing] at hv
end Go.Proofs.Ytkimbpeapolcbaa.Bw
namespace Go.Proofs.Ytkimbpeapolcbaa.Bw
open Go.RowKit Go.Shelf
attribute [local go_sem] Oper.semAt_some
theorem room_of_none {F : Fence} (hd : F.depth = none) (k : Nat) : F.room k := fun d h => by rw [hd] at h; cases h
theorem RoundIn.anyDepth {F : Fence} (hd : F.depth = none) {m m' : Nat} {P : Program} {l : Nat} {f : FuncId} {tmps : Array Value} {assign body : Code} {w : World} {R : Ending → World → Prop}
    (h : RoundIn F m P l f tmps assign body w R) : RoundIn F m' P l f tmps assign body w R := ⟨h.1, fun c cs _ => h.2 c cs (room_of_none hd _)⟩
theorem YieldAt.anyDepth {F : Fence} (hd : F.depth = none) {m : Nat} (m' : Nat) {P : Program} {l : Nat} {args : Array Value} {W : World} {R : Ending → World → Prop} (h : YieldAt F m P l args W R) : YieldAt F m' P l args W R := by
  obtain ⟨fn, tmps, assign, body, hy, hR⟩ := h
  exact ⟨fn, tmps, assign, body, hy, RoundIn.anyDepth hd hR⟩
mutual
/-- A tree's nodes in the order of the document, with how deep they are. -/
def Nd.pre : Nd → Int → List (Int × Nd)
  | .mk id leaf lb ats tx ks, d => (d, .mk id leaf lb ats tx ks) :: preK ks (d + 1)
def preK : List Nd → Int → List (Int × Nd)
  | [], _ => []
  | k :: r, d => k.pre d ++ preK r d
end
theorem Nd.pre_eq (t : Nd) (d : Int) : t.pre d = (d, t) :: preK t.kids (d + 1) := by cases t; rw [Nd.pre]; rfl
/-- What the iterator hands over: a depth, a node, and a value that reads as that node in the world w₀. -/
def El (w₀ : World) : Type := { x : Int × Nd × Value // x.2.1.rd w₀ x.2.2 ∧ x.2.1.wt ≤ 1000000 }
def El.of {w₀ : World} (d : Int) (t : Nd) (v : Value) (h : t.rd w₀ v) (hw : t.wt ≤ 1000000) : El w₀ := ⟨(d, t, v), h, hw⟩
def El.args {w₀ : World} (x : El w₀) : Array Value := #[.int .i64 x.1.1, x.1.2.2]
def El.key {w₀ : World} (x : El w₀) : Int × Nd := (x.1.1, x.1.2.1)
theorem El.of_args {w₀ : World} (d : Int) (t : Nd) (v : Value) (h : t.rd w₀ v) (hw : t.wt ≤ 1000000) : (El.of d t v h hw).args = #[.int .i64 d, v] := rfl
theorem El.of_key {w₀ : World} (d : Int) (t : Nd) (v : Value) (h : t.rd w₀ v) (hw : t.wt ≤ 1000000) : (El.of d t v h hw).key = (d, t) := rfl
def keys {w₀ : World} (l : List (El w₀)) : List (Int × Nd) := l.map El.key
theorem keys_append {w₀ : World} (a b : List (El w₀)) : keys (a ++ b) = keys a ++ keys b := by simp [keys]
theorem keys_one {w₀ : World} (x : El w₀) : keys [x] = [x.key] := rfl
theorem keys_len {w₀ : World} (a : List (El w₀)) : (keys a).length = a.length := by simp [keys]
theorem Ext.trans' {a b c : World} (h : Ext a b) (k : Below a.heap.size b c) : Ext a c := Below.trans h k
/-- Old memory stays below n₀, and no block whose cells are of type T is written. -/
def KeepT (n₀ T : Nat) (W W' : World) : Prop := Below n₀ W W' ∧ ∀ (k : Nat) (c : Array Value) (fz : Nat × Nat), W.heap[k]? = some (Obj.cells c T fz) → W'.heap[k]? = some (Obj.cells c T fz)
theorem KeepT.refl (n₀ T : Nat) (W : World) : KeepT n₀ T W W := ⟨Below.refl _ _, fun _ _ _ h => h⟩
theorem KeepT.trans {n₀ T : Nat} {A B C : World} (h : KeepT n₀ T A B) (k : KeepT n₀ T B C) : KeepT n₀ T A C := ⟨h.1.trans k.1, fun j c fz hj => k.2 j c fz (h.2 j c fz hj)⟩
theorem KeepT.putObj {n₀ T : Nat} {W : World} {l : Nat} {o o' : Obj} (hl : n₀ ≤ l) (h : W.heap[l]? = some o) (hc : o.isCells = false) : KeepT n₀ T W (W.putObj l o') :=
  ⟨(Below.refl _ _).trans ⟨rfl, rfl, rfl, (grownBy_putObj' W l o').size, fun k hk => (grownBy_putObj' W l o').block k (by have := (Array.getElem?_eq_some_iff.1 h).1; omega) (fun e => by cases e; omega)⟩,
    fun k c fz hk => ((grownBy_putObj' W l o').block k (Array.getElem?_eq_some_iff.1 hk).1 (fun e => by cases e; rw [h] at hk; cases hk; cases hc)).trans hk⟩
theorem KeepT.grown {n₀ T : Nat} {W W' : World} (hB : Below n₀ W W') {row : Option Nat} (hg : W.grownBy W' row) (hr : ∀ (k : Nat) (c : Array Value) (fz : Nat × Nat), row = some k → W.heap[k]? ≠ some (Obj.cells c T fz)) : KeepT n₀ T W W' :=
  ⟨hB, fun k c fz hk => (hg.block k (Array.getElem?_eq_some_iff.1 hk).1 (fun e => hr k c fz e.symm hk)).trans hk⟩
theorem KeepT.alloc {n₀ T : Nat} {A W : World} (h : KeepT n₀ T A W) (hn : n₀ ≤ W.heap.size) (o : Obj) : KeepT n₀ T A (W.alloc o) :=
  h.trans (KeepT.grown ((Below.refl _ _).alloc hn o) (World.grownBy_alloc W o none) (fun _ _ _ e => by cases e))
theorem KeepT.drewN {n₀ T : Nat} {A W : World} (h : KeepT n₀ T A W) (n : Nat) : KeepT n₀ T A (W.drewN n) := ⟨⟨h.1.os, h.1.tape, h.1.output, h.1.size, h.1.block⟩, h.2⟩
theorem KeepT.box {n₀ T t : Nat} {A W : World} {B : Nat} {v : Value} (h : KeepT n₀ T A W) (hb : Boxed W B t v) (ht : t ≠ T) (hB : n₀ ≤ B) (u : Value) : KeepT n₀ T A (W.setCell ⟨B, 0, none⟩ u) :=
  h.trans (KeepT.grown ((Below.refl _ _).setCell (p := ⟨B, 0, none⟩) hB u) (grownBy_setCell' W B u) (fun k c fz e hk => by
    cases e; rw [show W.heap[B]? = _ from hb] at hk; cases hk; exact ht rfl))
theorem cell_of_blk {W : World} {b i : Nat} {c : Array Value} {t : TypeId} {fz : Nat × Nat} (h : W.heap[b]? = some (.cells c t fz)) : W.cell? ⟨b, i, none⟩ = c[i]? := by
  simp [World.cell?, h]
theorem KeepT.ext {n₀ T : Nat} {A W : World} (h : Ext A W) (hn : n₀ ≤ A.heap.size) : KeepT n₀ T A W :=
  ⟨Below.mono h hn, fun k _ _ hk => (h.block k (Array.getElem?_eq_some_iff.1 hk).1).trans hk⟩
theorem KeepsOthers.ext {A W : World} (h : Ext A W) : KeepsOthers A W := ⟨h.size, fun k _ hk _ => (h.block k (Array.getElem?_eq_some_iff.1 hk).1).trans hk⟩
/-- What a round's body owes. -/
structure Keep2 (n₀ T : Nat) (W W' : World) : Prop where
  t : KeepT n₀ T W W'
  o : KeepsOthers W W'
theorem Keep2.refl (n₀ T : Nat) (W : World) : Keep2 n₀ T W W := ⟨KeepT.refl _ _ _, KeepsOthers.refl _⟩
theorem Keep2.trans {n₀ T : Nat} {A B C : World} (h : Keep2 n₀ T A B) (k : Keep2 n₀ T B C) : Keep2 n₀ T A C := ⟨h.t.trans k.t, h.o.trans k.o⟩
theorem Keep2.ext {n₀ T : Nat} {A B C : World} (h : Keep2 n₀ T A B) (hn : n₀ ≤ B.heap.size) (k : Ext B C) : Keep2 n₀ T A C := h.trans ⟨KeepT.ext k hn, KeepsOthers.ext k⟩
theorem Keep2.box {n₀ T t : Nat} {A W : World} {B : Nat} {v : Value} (h : Keep2 n₀ T A W) (hb : Boxed W B t v) (ht : t ≠ T) (hB : n₀ ≤ B) (u : Value) : Keep2 n₀ T A (W.setCell ⟨B, 0, none⟩ u) :=
  h.trans ⟨(KeepT.refl _ _ _).box hb ht hB u, KeepsOthers.setCell _ _ _⟩
end Go.Proofs.Ytkimbpeapolcbaa.Bw
namespace Go.Proofs.Ytkimbpeapolcbaa.Bw
open Go.RowKit Go.Shelf
attribute [local go_sem] Oper.semAt_some
mutual
theorem Nd.pre_len : ∀ (t : Nd) (d : Int), (t.pre d).length = t.cnt
  | .mk _ _ _ _ _ ks, d => by rw [Nd.pre, Nd.cnt, List.length_cons, preK_len ks (d + 1)]; omega
theorem preK_len : ∀ (l : List Nd) (d : Int), (preK l d).length = cntK l
  | [], d => by rw [preK, cntK]; rfl
  | k :: r, d => by rw [preK, cntK, List.length_append, Nd.pre_len k d, preK_len r d]
end
theorem Boxed.new2 (W : World) (o : Obj) (t : TypeId) (v : Value) : Boxed ((W.alloc o).alloc (.cells #[v] t)) (W.heap.size + 1) t v := by
  have := Boxed.new (W.alloc o) t v
  rwa [World.size_alloc] at this
/-- Behind the function's return the block for the rounds' deferred calls is shut. -/
theorem Ext.putObj {w W : World} (h : Ext w W) {D : Nat} (hD : w.heap.size ≤ D) (o : Obj) : Ext w (W.putObj D o) :=
  h.trans' ⟨rfl, rfl, rfl, (grownBy_putObj' W D o).size, fun k hk => (grownBy_putObj' W D o).block k (Nat.lt_of_lt_of_le hk h.size) (fun e => by cases e; omega)⟩
end Go.Proofs.Ytkimbpeapolcbaa.Bw
namespace Go.Proofs.Ytkimbpeapolcbaa.Bw
open Go.RowKit
mutual
def Nd.dep : Nd → Nat
  | .mk _ _ _ _ _ ks => depK ks
def depK : List Nd → Nat
  | [] => 0
  | k :: r => max (1 + k.dep) (depK r)
end
theorem Nd.dep_eq (t : Nd) : t.dep = depK t.kids := by cases t; rw [Nd.dep]; rfl
def maxD : List (Int × Nd) → Int
  | [] => 0
  | x :: r => max x.1 (maxD r)
theorem maxD_nn : ∀ l, 0 ≤ maxD l
  | [] => by simp [maxD]
  | x :: r => by have := maxD_nn r; simp only [maxD]; omega
theorem maxD_append : ∀ a b, maxD (a ++ b) = max (maxD a) (maxD b)
  | [], b => by have := maxD_nn b; simp only [List.nil_append, maxD]; omega
  | x :: r, b => by simp only [List.cons_append, maxD, maxD_append r b]; omega
mutual
theorem Nd.maxD_pre : ∀ (t : Nd) (d : Int), 0 ≤ d → maxD (t.pre d) = d + t.dep
  | .mk _ _ _ _ _ ks, d, h => by
    rw [Nd.pre, maxD, Nd.dep]
    have := preK_maxD ks (d + 1) (by omega)
    cases ks with
    | nil => rw [preK, depK, maxD]; dsimp only; omega
    | cons k r => have := this.2 (by simp); dsimp only; omega
theorem preK_maxD : ∀ (l : List Nd) (d : Int), 1 ≤ d → (l = [] → maxD (preK l d) = 0) ∧ (l ≠ [] → maxD (preK l d) = d - 1 + depK l)
  | [], d, _ => ⟨fun _ => by rw [preK, maxD], fun h => absurd rfl h⟩
  | k :: r, d, h => by
    refine ⟨(fun h => by cases h), fun _ => ?_⟩
    rw [preK, maxD_append, Nd.maxD_pre k d (by omega), depK]
    have h1 := preK_maxD r d h
    cases r with
    | nil => rw [h1.1 rfl, depK]; omega
    | cons x s => rw [h1.2 (by simp)]; omega
end
theorem maxD_le_mem : ∀ {l : List (Int × Nd)} {x : Int × Nd}, x ∈ l → x.1 ≤ maxD l
  | y :: r, x, h => by
    rw [maxD]
    rcases List.mem_cons.1 h with rfl | h
    · omega
    · have := maxD_le_mem h; omega
def lenA : List (ByteArray × ByteArray) → Nat
  | [] => 0
  | (k, v) :: r => k.size + v.size + lenA r
def Nd.own (t : Nd) : Nat := t.text.size + lenA t.attrs
mutual
def Nd.lng : Nd → Nat
  | .mk _ _ _ ats tx ks => max (tx.size + lenA ats) (lngK ks)
def lngK : List Nd → Nat
  | [] => 0
  | k :: r => max k.lng (lngK r)
end
theorem Nd.lng_eq (t : Nd) : t.lng = max t.own (lngK t.kids) := by cases t; rw [Nd.lng]; rfl
def maxL : List (Int × Nd) → Nat
  | [] => 0
  | x :: r => max x.2.own (maxL r)
theorem maxL_append : ∀ a b, maxL (a ++ b) = max (maxL a) (maxL b)
  | [], b => by simp [maxL]
  | x :: r, b => by simp only [List.cons_append, maxL, maxL_append r b]; omega
mutual
theorem Nd.maxL_pre : ∀ (t : Nd) (d : Int), maxL (t.pre d) = t.lng
  | .mk _ _ _ _ _ ks, d => by rw [Nd.pre, maxL, preK_maxL ks (d + 1), Nd.lng]; rfl
theorem preK_maxL : ∀ (l : List Nd) (d : Int), maxL (preK l d) = lngK l
  | [], d => by rw [preK, maxL, lngK]
  | k :: r, d => by rw [preK, maxL_append, Nd.maxL_pre k d, preK_maxL r d, lngK]
end
theorem lenA_wt : ∀ l, lenA l ≤ wtA l
  | [] => Nat.le_refl _
  | (k, v) :: r => by have := lenA_wt r; simp only [lenA, wtA]; omega
theorem Nd.own_wt (t : Nd) : t.own ≤ t.wt := by have := lenA_wt t.attrs; rw [Nd.wt_eq, Nd.own]; omega
mutual
theorem Nd.lng_wt : ∀ t : Nd, t.lng ≤ t.wt
  | .mk _ _ _ ats _ ks => by have := lngK_wt ks; have := lenA_wt ats; rw [Nd.lng, Nd.wt]; omega
theorem lngK_wt : ∀ l : List Nd, lngK l ≤ wtK l
  | [] => by rw [lngK, wtK]; exact Nat.le_refl _
  | k :: r => by have := Nd.lng_wt k; have := lngK_wt r; rw [lngK, wtK]; omega
end
mutual
theorem Nd.dep_cnt : ∀ t : Nd, t.dep < t.cnt
  | .mk _ _ _ _ _ ks => by have := depK_cnt ks; rw [Nd.dep, Nd.cnt]; omega
theorem depK_cnt : ∀ l : List Nd, depK l ≤ cntK l
  | [] => by rw [depK, cntK]; exact Nat.le_refl _
  | k :: r => by have := Nd.dep_cnt k; have := depK_cnt r; rw [depK, cntK]; omega
end
mutual
def Nd.ids : Nd → List Int
  | .mk i _ _ _ _ ks => i :: idsK ks
def idsK : List Nd → List Int
  | [] => []
  | k :: r => k.ids ++ idsK r
end
theorem Nd.ids_eq (t : Nd) : t.ids = t.id :: idsK t.kids := by cases t; rw [Nd.ids]; rfl
mutual
theorem Nd.ids_pre : ∀ (t : Nd) (d : Int), (t.pre d).map (fun x => x.2.id) = t.ids
  | .mk _ _ _ _ _ ks, d => by rw [Nd.pre, List.map_cons, preK_ids ks (d + 1), Nd.ids]; rfl
theorem preK_ids : ∀ (l : List Nd) (d : Int), (preK l d).map (fun x => x.2.id) = idsK l
  | [], d => by rw [preK, idsK]; rfl
  | k :: r, d => by rw [preK, List.map_append, Nd.ids_pre k d, preK_ids r d, idsK]
end
theorem Nd.ids_len (t : Nd) : t.ids.length = t.cnt := by rw [← Nd.ids_pre t 0, List.length_map, Nd.pre_len]
def keyOk (s : ByteArray) : Bool := decide (1 ≤ s.size ∧ s.size ≤ 64)
def strLe (a b : ByteArray) : Bool := Op.bytesLess a.toList b.toList || a.toList == b.toList
def attrsOk : Option ByteArray → List (ByteArray × ByteArray) → Bool
  | _, [] => true
  | p, (k, v) :: r => keyOk k && decide (v.size ≤ 256) && (match p with | none => true | some q => !strLe k q) && attrsOk (some k) r
def Nd.shape (t : Nd) : Bool := decide (t.label.size ≤ 64) && !(t.leaf && decide (0 < t.kids.length)) && !(!t.leaf && decide (0 < t.text.size))
def Nd.right1 (t : Nd) : Bool := t.shape && attrsOk none t.attrs
mutual
def Nd.rightAll : Nd → Bool
  | .mk i lf lb ats tx ks => (Nd.mk i lf lb ats tx ks).right1 && rightK ks
def rightK : List Nd → Bool
  | [] => true
  | k :: r => k.rightAll && rightK r
end
theorem Nd.rightAll_eq (t : Nd) : t.rightAll = (t.right1 && rightK t.kids) := by cases t; rw [Nd.rightAll]; rfl
mutual
theorem Nd.right_pre : ∀ (t : Nd) (d : Int), (t.pre d).all (fun x => x.2.right1) = t.rightAll
  | .mk _ _ _ _ _ ks, d => by rw [Nd.pre, List.all_cons, preK_right ks (d + 1), Nd.rightAll]
theorem preK_right : ∀ (l : List Nd) (d : Int), (preK l d).all (fun x => x.2.right1) = rightK l
  | [], d => by rw [preK, rightK]; rfl
  | k :: r, d => by rw [preK, List.all_append, Nd.right_pre k d, preK_right r d, rightK]
end
def Nd.right (t : Nd) : Bool := !t.leaf && t.rightAll
def sameA (a b : List (ByteArray × ByteArray)) : Bool := decide (a = b)
mutual
def Nd.same (i : Bool) : Nd → Nd → Bool
  | .mk id lf lb ats tx ks, b => (!i || decide (id = b.id)) && decide (lf = b.leaf) && decide (lb = b.label) && decide (tx = b.text) && sameA ats b.attrs && sameK i ks b.kids
def sameK (i : Bool) : List Nd → List Nd → Bool
  | [], [] => true
  | x :: r, y :: s => x.same i y && sameK i r s
  | _, _ => false
end
theorem Nd.same_eq (i : Bool) (a b : Nd) : a.same i b = ((!i || decide (a.id = b.id)) && decide (a.leaf = b.leaf) && decide (a.label = b.label) && decide (a.text = b.text) && sameA a.attrs b.attrs && sameK i a.kids b.kids) := by
  cases a; rw [Nd.same]; rfl
mutual
theorem Nd.same_refl (i : Bool) : ∀ a : Nd, a.same i a = true
  | .mk _ _ _ _ _ ks => by rw [Nd.same_eq]; simp [Nd.kids, sameK_refl i ks, sameA]
theorem sameK_refl (i : Bool) : ∀ l : List Nd, sameK i l l = true
  | [] => by rw [sameK]
  | k :: r => by rw [sameK, Nd.same_refl i k, sameK_refl i r]; rfl
end
mutual
theorem Nd.same_true : ∀ (a b : Nd), a.same true b = true → a = b
  | .mk i1 l1 b1 a1 t1 k1, .mk i2 l2 b2 a2 t2 k2, h => by
    rw [Nd.same_eq] at h
    simp [Nd.id, Nd.leaf, Nd.label, Nd.text, Nd.attrs, Nd.kids, sameA] at h
    obtain ⟨⟨⟨⟨⟨h0, h1⟩, h2⟩, h3⟩, h4⟩, hk⟩ := h
    obtain rfl := of_decide_eq_true h0
    obtain rfl := of_decide_eq_true h1
    obtain rfl := of_decide_eq_true h2
    obtain rfl := of_decide_eq_true h3
    obtain rfl := of_decide_eq_true h4
    rw [sameK_true k1 k2 hk]
theorem sameK_true : ∀ (a b : List Nd), sameK true a b = true → a = b
  | [], [], _ => rfl
  | [], _ :: _, h => by simp [sameK] at h
  | _ :: _, [], h => by simp [sameK] at h
  | x :: r, y :: s, h => by
    rw [sameK, Bool.and_eq_true] at h
    rw [Nd.same_true x y h.1, sameK_true r s h.2]
end
theorem Nd.same_iff (a b : Nd) : a.same true b = true ↔ a = b := ⟨Nd.same_true a b, fun h => by rw [h]; exact Nd.same_refl _ _⟩
mutual
theorem Nd.same_weaken : ∀ (a b : Nd), a.same true b = true → a.same false b = true := fun a b h => by rw [Nd.same_true a b h]; exact Nd.same_refl _ _
end
theorem sameK_len (i : Bool) : ∀ (a b : List Nd), a.length ≠ b.length → sameK i a b = false
  | [], [], h => absurd rfl h
  | [], _ :: _, _ => by simp [sameK]
  | _ :: _, [], _ => by simp [sameK]
  | x :: r, y :: s, h => by rw [sameK, sameK_len i r s (by simpa using h), Bool.and_false]
def Nd.at? : Nd → List Int → Option Nd
  | t, [] => some t
  | t, i :: p => if i < 0 ∨ (t.kids.length : Int) ≤ i then none else match t.kids[i.toNat]? with | some k => k.at? p | none => none
def Nd.withKids (t : Nd) (ks : List Nd) : Nd := .mk t.id t.leaf t.label t.attrs t.text ks
def Nd.put : Nd → List Int → Nd → Option Nd
  | _, [], x => some x
  | t, i :: p, x => if i < 0 ∨ (t.kids.length : Int) ≤ i then none else match t.kids[i.toNat]? with
    | some k => match k.put p x with
      | some k' => some (t.withKids (t.kids.set i.toNat k'))
      | none => none
    | none => none
def Nd.zero : Nd := .mk 0 false ByteArray.empty [] ByteArray.empty []
def getA (key : ByteArray) : List (ByteArray × ByteArray) → Option ByteArray
  | [] => none
  | (k, v) :: r => if k = key then some v else getA key r
end Go.Proofs.Ytkimbpeapolcbaa.Bw
namespace Go.Proofs.Ytkimbpeapolcbaa.Bw
open Go.RowKit
/-- The place of the first attribute of a key; none: -1. -/
def idxA (key : ByteArray) : List (ByteArray × ByteArray) → Nat → Int
  | [], _ => -1
  | (k, _) :: r, i => if k = key then i else idxA key r (i + 1)
theorem ret_str2 {w w' : World} {F x : ByteArray} {b c : Bool} (h : x = F) (hb : b = c) (he : Ext w w') : Ret w (fun r _ => r = .tuple #[.string F, .bool c]) (.returned (.tuple #[.string x, .bool b])) w' := ⟨_, rfl, by rw [h, hb], he⟩
/-- What an attribute's look-up answers. -/
def attrRes (key : ByteArray) (l : List (ByteArray × ByteArray)) : ByteArray × Bool := match getA key l with | some v => (v, true) | none => (ByteArray.empty, false)
theorem attrRes_here {key k v : ByteArray} {r : List (ByteArray × ByteArray)} (h : k = key) : attrRes key ((k, v) :: r) = (v, true) := by simp [attrRes, getA, h]
theorem attrRes_not {key k v : ByteArray} {r : List (ByteArray × ByteArray)} (h : k ≠ key) : attrRes key ((k, v) :: r) = attrRes key r := by simp [attrRes, getA, h]
theorem attrRes_nil {key : ByteArray} : attrRes key [] = (ByteArray.empty, false) := rfl
end Go.Proofs.Ytkimbpeapolcbaa.Bw
namespace Go.Proofs.Ytkimbpeapolcbaa.Bw
open Go.RowKit
theorem pair_eq (k v x y : ByteArray) : decide ((k, v) = (x, y)) = ((k.toList == x.toList) && (v.toList == y.toList)) := by
  rw [beq_str, beq_str]; simp [Prod.mk.injEq, Bool.decide_and]
theorem sameA_len {a b : List (ByteArray × ByteArray)} (h : a.length ≠ b.length) : sameA a b = false := decide_eq_false (fun e => h (by rw [e]))
theorem sameA_step {a b : List (ByteArray × ByteArray)} {i : Nat} {x y : ByteArray × ByteArray} (hx : a[i]? = some x) (hy : b[i]? = some y) : sameA (a.drop i) (b.drop i) = (decide (x = y) && sameA (a.drop (i + 1)) (b.drop (i + 1))) := by
  rw [drop_at hx, drop_at hy, sameA, sameA]
  by_cases h : x = y
  · subst h; simp
  · simp [h]
theorem sameA_end {a b : List (ByteArray × ByteArray)} {i : Nat} (h : a.length = b.length) (hi : a.length ≤ i) : sameA (a.drop i) (b.drop i) = true := by
  rw [List.drop_eq_nil_of_le hi, List.drop_eq_nil_of_le (by omega)]; rfl
set_option maxRecDepth 100000 in
set_option maxHeartbeats 1000000 in
theorem reqA_any (a b : List (ByteArray × ByteArray)) (u v : Value) (w : World) (ha : RdA w a u) (hb : RdA w b v) : Calls Try.prog 43 #[u, v] w (Ret w fun r _ => r = .bool (sameA a b)) := by
  obtain ⟨aA, ac, rfl, a1, a2, a3⟩ := ha
  obtain ⟨bA, bc, rfl, b1, b2, b3⟩ := hb
  unfold maxLen at a2 b2
  rcases Nat.lt_or_ge a.length b.length with hl | hl
  · have HF := Lib.hid (sameA_len (a := a) (b := b) (by omega))
    have hd : ((a.length : Int) == (b.length : Int)) = false := by rw [beq_eq_false_iff_ne]; omega
    go_enter Try.func43, Try.ntmps43
    go_wp2_with fail
    go_ret
    exact ret_bool HF.out.symm (Ext.refl w)
  rcases Nat.lt_or_ge b.length a.length with hl2 | hl2
  · have HF := Lib.hid (sameA_len (a := a) (b := b) (by omega))
    have hd : ((a.length : Int) == (b.length : Int)) = false := by rw [beq_eq_false_iff_ne]; omega
    go_enter Try.func43, Try.ntmps43
    go_wp2_with fail
    go_ret
    exact ret_bool HF.out.symm (Ext.refl w)
  have hl3 := Lib.hid (show a.length = b.length by omega)
  have hd : ((a.length : Int) == (b.length : Int)) = true := by rw [beq_iff_eq]; omega
  go_enter Try.func43, Try.ntmps43
  go_wp2_with fail
  go_loopw [5] (fun s5 wr => ∃ i : Nat, s5 = .int .i64 i ∧ i ≤ a.length ∧ Hid (sameA (a.drop i) (b.drop i) = sameA a b) ∧ Ext w wr) (fun i _ => a.length - (intOf i).toNat)
  case atStart => exact ⟨0, rfl, Nat.zero_le _, rfl, Ext.refl _⟩
  case round =>
    obtain ⟨i, rfl, hi, HW, hE⟩ := hrel
    rcases Nat.lt_or_ge i a.length with hlt | hlt
    · obtain ⟨⟨k, x⟩, hx⟩ : ∃ x, a[i]? = some x := ⟨_, List.getElem?_eq_getElem hlt⟩
      obtain ⟨⟨k', x'⟩, hy⟩ : ∃ x, b[i]? = some x := ⟨_, List.getElem?_eq_getElem (by omega)⟩
      obtain ⟨ba, oa, rfl, ra⟩ := a3 (by intro h; rw [h] at hlt; simp at hlt)
      obtain ⟨bb, ob, rfl, rb⟩ := b3 (by intro h; have h' := congrArg List.length h; rw [List.length_nil] at h'; omega)
      obtain ⟨e1, e2, e3, e4⟩ := rdAttrs_at (rdAttrs_ext hE ra) hx
      obtain ⟨f1, f2, f3, f4⟩ := rdAttrs_at (rdAttrs_ext hE rb) hy
      have HD := Lib.hid (sameA_step hx hy)
      rw [pair_eq] at HD
      have q1 : (0 : Int) ≤ (i : Int) := by omega
      have q2 : (i : Int) < (a.length : Int) := by omega
      have q3 : (i : Int) < (b.length : Int) := by omega
      clear hx hy ra rb a3 b3
      rcases hc1 : (k.toList == k'.toList) with _ | _
      · have HG : Hid (sameA a b = false) := by rw [← HW.out, HD.out, hc1]; rfl
        clear HW HD
        go_wp2_with fail
        go_quiet (fail)
        go_wp2_with fail
        go_ret
        exact ret_bool HG.out.symm (hE.drewN _)
      · rcases hc2 : (x.toList == x'.toList) with _ | _
        · have HG : Hid (sameA a b = false) := by rw [← HW.out, HD.out, hc1, hc2]; rfl
          clear HW HD
          go_wp2_with fail
          go_quiet (fail)
          go_wp2_with fail
          go_ret
          exact ret_bool HG.out.symm (hE.drewN _)
        · have HN : Hid (sameA (a.drop (i + 1)) (b.drop (i + 1)) = sameA a b) := by rw [← HW.out, HD.out, hc1, hc2]; rfl
          clear HW HD
          go_wp2_with fail
          go_quiet (fail)
          go_wp2_with fail
          go_roundw
          case rel => exact ⟨i + 1, by go_num, by omega, HN, hE.drewN _⟩
          case measure => simp [intOf]; omega
    · have HG : Hid (sameA a b = true) := by rw [← HW.out, sameA_end hl3.out hlt]; rfl
      clear HW
      go_wp2_with fail
      go_ret
      exact ret_bool HG.out.symm hE
end Go.Proofs.Ytkimbpeapolcbaa.Bw
