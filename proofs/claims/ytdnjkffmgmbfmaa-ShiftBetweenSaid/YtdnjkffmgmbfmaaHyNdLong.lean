/- Chapter 11: what all rows have in common. -/
import Derived.Test.YtdnjkffmgmbfmaaHyOpen
import Derived.Test.YtdnjkffmgmbfmaaRows
import Derived.ProofKit
import Derived.OpenShut
import Derived.Test.YtdnjkffmgmbfmaaBwData
import Derived.Test.YtdnjkffmgmbfmaaBsPlain
import Derived.RangeFuncNested
import Derived.RangeFuncBound
import Derived.RangeFuncCalls
import Derived.RangeFuncLeaves
import Derived.Shelf.Abstract
import Derived.Shelf.RegionOpen
import Derived.WalkKit
import Derived.OwnWalkIn
import Derived.TacticsInMore
import Derived.LoopNIn
import Derived.LoopIn
import Derived.Test.YtdnjkffmgmbfmaaProg
import Derived.Test.YtdnjkffmgmbfmaaBwWeighPlain
import Derived.BigQuiet
import Derived.Deep.QuietTactic
import Derived.Deep.RegionHeld3
namespace Go.Proofs.Ytdnjkffmgmbfmaa.Sy
open Go.RowKit Go.ChangeShapes Go.WideShapes Go.ChangeAt

theorem own : ownKnob Try.prog.godebug = none := by kernel_rfl
theorem laidOut : laidOutB Try.prog = true := by kernel_rfl

/-- All arguments read as they did where nothing old has turned. -/
theorem trodAll_below {H : Type} {enc : TypeId × Value → H} {P : Program} (hl : laidOutB P = true) {W W' : World} (hb : Below W.heap.size W W') :
  ∀ {ts : List TypeId} {vs : List Value} {ds : List (DataW H)} {ps : List MemPlace}, (∀ t ∈ ts, P.readableRec t = true ∧ t < P.types.size) → (∀ x ∈ ps, x.block < W.heap.size) →
   DataW.TrodAll enc P W 0 (fun _ => true) true ts vs ds ps → DataW.TrodAll enc P W' 0 (fun b => decide (b < W.heap.size)) true ts vs ds ps
 | [], vs, ds, ps, _, _, h => by
  obtain ⟨rfl, rfl, rfl⟩ := trodAll_nil h
  exact trodAll_mk0
 | t :: ts, vs, ds, ps, hr, hlt, h => by
  obtain ⟨v, vs1, d, ds1, a, b, rfl, rfl, rfl, h1, h2⟩ := trodAll_cons h
  exact ⟨a, b, Below.trod hl (hr t (by simp)).1 (hr t (by simp)).2 h1 hb (fun x hx => hlt x (by simp [hx])), trodAll_below hl hb (fun t' ht => hr t' (by simp [ht])) (fun x hx => hlt x (by simp [hx])) h2, rfl⟩

/-- THE POST of a law that answers true and leaves all that was there. -/
theorem post_true {H : Type} {enc : TypeId × Value → H} {P : Program} {f : Func} {s : ChangeSpec} {bt : TypeId} {handsOn : Bool} {W W' : World} {args : Array Value} {ds gs : List (DataW H)} {before : List MemPlace}
  (hl : laidOutB P = true) (hps : ∀ t ∈ f.params.toList, P.readableRec t = true ∧ t < P.types.size) (hvars : s.vars = []) (hrt : f.resultTypes = #[bt]) (hbt : P.underlying bt = some .bool)
  (hW : DataW.Whole enc P f.params.toList s.vars false W args.toList ds gs before) (hE : Below W.heap.size W W')
  (hfn : s.fn H (ds ++ gs) = { results := [.lit (.bool true)], args := ds }) : s.post enc P f false true handsOn false W args (.bool true) W' := by
 have hlt : ∀ x ∈ before, x.block < W.heap.size := fun x hx => by simpa using hW.lt x hx
 have hW0 := hW
 obtain ⟨p, q, hA, hV, rfl, hfz, hnd⟩ := hW
 rw [hvars] at hV
 obtain ⟨rfl, rfl⟩ := trodVars_none hV
 refine ⟨ds, [], p ++ [], [], p, [], hW0, ?_, ?_, ?_, ?_, fun h => by cases h⟩
 ·rw [hfn, hrt]
  exact trodAll_mk1 (shut_bool hbt true)
 ·rw [hfn]
  exact trodAll_below hl hE hps (fun x hx => hlt x (by simp [hx])) hA
 ·rw [hfn, hvars]
  rfl
 ·exact hE.frame _
section
variable {H : Type} {enc : TypeId × Value → H} {P : Program} {w : World} {base : Nat} {spare : Nat → Bool} {held : Bool}
end
end Go.Proofs.Ytdnjkffmgmbfmaa.Sy
namespace Go.Proofs.Ytdnjkffmgmbfmaa.Bw
open Go.RowKit
/-- W has each cell of wo. -/
structure Sub (wo W : World) : Prop where
 cell : ∀ {p : Addr} {v : Value}, wo.cell? p = some v → W.cell? p = some v
theorem Sub.refl (w : World) : Sub w w := ⟨fun h => h⟩
theorem Sub.trans {a b c : World} (h : Sub a b) (k : Ext b c) : Sub a c := ⟨fun hp => k.cell (h.cell hp)⟩
theorem Sub.then {a b c : World} (h : Sub a b) (k : Sub b c) : Sub a c := ⟨fun hp => k.cell (h.cell hp)⟩
theorem Ext.sub {a b : World} (h : Ext a b) : Sub a b := ⟨fun hp => h.cell hp⟩
theorem rdAttrs_sub {w w' : World} (h : Sub w w') {b : Nat} : ∀ {off : Nat} {l : List (ByteArray × ByteArray)}, rdAttrs w b off l → rdAttrs w' b off l
 | _, [], _ => trivial
 | _, (_, _) :: _, ⟨h1, h2, h3, h4, h5⟩ => ⟨h.cell h1, h.cell h2, h3, h4, rdAttrs_sub h h5⟩
theorem RdA.sub {w w' : World} (h : Sub w w') {l : List (ByteArray × ByteArray)} {v : Value} (hr : RdA w l v) : RdA w' l v := by
 obtain ⟨A, c, rfl, h1, h2, h3⟩ := hr
 refine ⟨A, c, rfl, h1, h2, fun hl => ?_⟩
 obtain ⟨b, off, rfl, h4⟩ := h3 hl
 exact ⟨b, off, rfl, rdAttrs_sub h h4⟩
mutual
theorem Nd.rd_sub {w w' : World} (h : Sub w w') : ∀ {t : Nd} {v : Value}, Nd.rd w t v → Nd.rd w' t v
 | .mk _ _ _ _ _ ks, _, hr => by
  unfold Nd.rd at hr ⊢
  obtain ⟨av, A, c, rfl, h1, h2, h3, h4, h5, h6, h7⟩ := hr
  refine ⟨av, A, c, rfl, h1, h2, h3, h4.sub h, h5, h6, fun hl => ?_⟩
  obtain ⟨b, off, rfl, h8⟩ := h7 hl
  exact ⟨b, off, rfl, rdKids_sub h h8⟩
theorem rdKids_sub {w w' : World} (h : Sub w w') {b : Nat} : ∀ {off : Nat} {l : List Nd}, rdKids w b off l → rdKids w' b off l
 | _, [], _ => by unfold rdKids; trivial
 | _, k :: r, hr => by
  unfold rdKids at hr ⊢
  obtain ⟨⟨c0, c1, c2, c3, c4, c5, h0, h1, h2, h3, h4, h5, h6⟩, h7⟩ := hr
  exact ⟨⟨c0, c1, c2, c3, c4, c5, h.cell h0, h.cell h1, h.cell h2, h.cell h3, h.cell h4, h.cell h5, Nd.rd_sub h h6⟩, rdKids_sub h h7⟩
end
theorem RdK.sub {w w' : World} (h : Sub w w') {l : List Nd} {v : Value} (hr : RdK w l v) : RdK w' l v := by
 obtain ⟨A, c, rfl, h1, h2, h3⟩ := hr
 refine ⟨A, c, rfl, h1, h2, fun hl => ?_⟩
 obtain ⟨b, off, rfl, h4⟩ := h3 hl
 exact ⟨b, off, rfl, rdKids_sub h h4⟩
theorem RdS.sub {w w' : World} (h : Sub w w') {size n : Nat} {xs : List Value} {v : Value} (hr : RdS w size n xs v) : RdS w' size n xs v := by
 obtain ⟨A, c, h1, h2, h3, h4, h5⟩ := hr
 refine ⟨A, c, h1, h2, h3, h4, fun hl => ?_⟩
 obtain ⟨b, off, h6, h7⟩ := h5 hl
 exact ⟨b, off, h6, fun j u hj => h.cell (h7 j u hj)⟩
/-- The blocks that are made from w2 to w3 stand in W as they are in w3. -/
def News (w2 w3 W : World) : Prop := ∀ k, w2.heap.size ≤ k → k < w3.heap.size → W.heap[k]? = w3.heap[k]?
theorem News.now (w2 w3 : World) : News w2 w3 w3 := fun _ _ _ => rfl
theorem cell_block {w : World} {p : Addr} {v : Value} (h : w.cell? p = some v) : p.block < w.heap.size := by
 unfold World.cell? at h
 rcases Nat.lt_or_ge p.block w.heap.size with hlt | hge
 ·exact hlt
 ·rw [Array.getElem?_eq_none hge] at h; cases h
theorem cell_same {w W : World} {p : Addr} (h : W.heap[p.block]? = w.heap[p.block]?) : W.cell? p = w.cell? p := by
 unfold World.cell?; rw [h]
def nothing : Obj := .cells #[] 0
/-- wo, and what was made from w2 to w3. -/
def glue (wo w2 w3 : World) : World := { wo with heap := Array.ofFn (n := w3.heap.size) (fun k => if k.val < w2.heap.size then (wo.heap[k.val]?).getD nothing else (w3.heap[k.val]?).getD nothing) }
theorem glue_size (wo w2 w3 : World) : (glue wo w2 w3).heap.size = w3.heap.size := by simp [glue]
theorem glue_old {wo w2 w3 : World} {k : Nat} (hk : k < w2.heap.size) (h3 : k < w3.heap.size) (ho : k < wo.heap.size) : (glue wo w2 w3).heap[k]? = wo.heap[k]? := by
 simp [glue, hk, h3, ho]
theorem glue_new {wo w2 w3 : World} {k : Nat} (hk : w2.heap.size ≤ k) (h3 : k < w3.heap.size) : (glue wo w2 w3).heap[k]? = w3.heap[k]? := by
 simp [glue, Nat.not_lt.2 hk, h3]
theorem nothing_cell (i : Nat) (e : Option Nat) (w : World) (k : Nat) (h : w.heap[k]? = some nothing) : ∀ v, w.cell? ⟨k, i, e⟩ ≠ some v := by
 intro v hv
 unfold World.cell? at hv
 rw [h] at hv
 simp [nothing] at hv
end Go.Proofs.Ytdnjkffmgmbfmaa.Bw
namespace Go.Proofs.Ytdnjkffmgmbfmaa.Bw
open Go.RowKit Go.Shelf
attribute [local go_sem] Oper.semAt_some
mutual
/-- A tree's nodes in the order of the document, with how deep they are. -/
def Nd.pre : Nd → Int → List (Int × Nd)
  | .mk id leaf lb ats tx ks, d => (d, .mk id leaf lb ats tx ks) :: preK ks (d + 1)
def preK : List Nd → Int → List (Int × Nd)
  | [], _ => []
  | k :: r, d => k.pre d ++ preK r d
end
/-- What the iterator hands over: a depth, a node, and a value that reads as that node in the world w₀. -/
def El (w₀ : World) : Type := { x : Int × Nd × Value // x.2.1.rd w₀ x.2.2 ∧ x.2.1.wt ≤ 1000000 }
def El.of {w₀ : World} (d : Int) (t : Nd) (v : Value) (h : t.rd w₀ v) (hw : t.wt ≤ 1000000) : El w₀ := ⟨(d, t, v), h, hw⟩
def El.args {w₀ : World} (x : El w₀) : Array Value := #[.int .i64 x.1.1, x.1.2.2]
def El.key {w₀ : World} (x : El w₀) : Int × Nd := (x.1.1, x.1.2.1)
/-- Old memory stays below n₀, and no block whose cells are of type T is written. -/
def KeepT (n₀ T : Nat) (W W' : World) : Prop := Below n₀ W W' ∧ ∀ (k : Nat) (c : Array Value) (fz : Nat × Nat), W.heap[k]? = some (Obj.cells c T fz) → W'.heap[k]? = some (Obj.cells c T fz)
theorem KeepT.refl (n₀ T : Nat) (W : World) : KeepT n₀ T W W := ⟨Below.refl _ _, fun _ _ _ h => h⟩
theorem KeepT.trans {n₀ T : Nat} {A B C : World} (h : KeepT n₀ T A B) (k : KeepT n₀ T B C) : KeepT n₀ T A C := ⟨h.1.trans k.1, fun j c fz hj => k.2 j c fz (h.2 j c fz hj)⟩
theorem KeepT.grown {n₀ T : Nat} {W W' : World} (hB : Below n₀ W W') {row : Option Nat} (hg : W.grownBy W' row) (hr : ∀ (k : Nat) (c : Array Value) (fz : Nat × Nat), row = some k → W.heap[k]? ≠ some (Obj.cells c T fz)) : KeepT n₀ T W W' :=
  ⟨hB, fun k c fz hk => (hg.block k (Array.getElem?_eq_some_iff.1 hk).1 (fun e => hr k c fz e.symm hk)).trans hk⟩
theorem KeepT.alloc {n₀ T : Nat} {A W : World} (h : KeepT n₀ T A W) (hn : n₀ ≤ W.heap.size) (o : Obj) : KeepT n₀ T A (W.alloc o) :=
  h.trans (KeepT.grown ((Below.refl _ _).alloc hn o) (World.grownBy_alloc W o none) (fun _ _ _ e => by cases e))
theorem KeepT.drewN {n₀ T : Nat} {A W : World} (h : KeepT n₀ T A W) (n : Nat) : KeepT n₀ T A (W.drewN n) := ⟨⟨h.1.os, h.1.tape, h.1.output, h.1.size, h.1.block⟩, h.2⟩
theorem KeepT.box {n₀ T t : Nat} {A W : World} {B : Nat} {v : Value} (h : KeepT n₀ T A W) (hb : Boxed W B t v) (ht : t ≠ T) (hB : n₀ ≤ B) (u : Value) : KeepT n₀ T A (W.setCell ⟨B, 0, none⟩ u) :=
  h.trans (KeepT.grown ((Below.refl _ _).setCell (p := ⟨B, 0, none⟩) hB u) (grownBy_setCell' W B u) (fun k c fz e hk => by
    cases e; rw [show W.heap[B]? = _ from hb] at hk; cases hk; exact ht rfl))
theorem cell_of_blk {W : World} {b i : Nat} {c : Array Value} {t : TypeId} {fz : Nat × Nat} (h : W.heap[b]? = some (.cells c t fz)) : W.cell? ⟨b, i, none⟩ = c[i]? := by
  simp [World.cell?, h]
theorem KeepT.ext {n₀ T : Nat} {A W : World} (h : Ext A W) (hn : n₀ ≤ A.heap.size) : KeepT n₀ T A W :=
  ⟨Below.mono h hn, fun k _ _ hk => (h.block k (Array.getElem?_eq_some_iff.1 hk).1).trans hk⟩
theorem KeepsOthers.ext {A W : World} (h : Ext A W) : KeepsOthers A W := ⟨h.size, fun k _ hk _ => (h.block k (Array.getElem?_eq_some_iff.1 hk).1).trans hk⟩
/-- What a round's body owes. -/
structure Keep2 (n₀ T : Nat) (W W' : World) : Prop where
  t : KeepT n₀ T W W'
  o : KeepsOthers W W'
theorem Keep2.refl (n₀ T : Nat) (W : World) : Keep2 n₀ T W W := ⟨KeepT.refl _ _ _, KeepsOthers.refl _⟩
theorem Keep2.trans {n₀ T : Nat} {A B C : World} (h : Keep2 n₀ T A B) (k : Keep2 n₀ T B C) : Keep2 n₀ T A C := ⟨h.t.trans k.t, h.o.trans k.o⟩
theorem Keep2.ext {n₀ T : Nat} {A B C : World} (h : Keep2 n₀ T A B) (hn : n₀ ≤ B.heap.size) (k : Ext B C) : Keep2 n₀ T A C := h.trans ⟨KeepT.ext k hn, KeepsOthers.ext k⟩
theorem Keep2.box {n₀ T t : Nat} {A W : World} {B : Nat} {v : Value} (h : Keep2 n₀ T A W) (hb : Boxed W B t v) (ht : t ≠ T) (hB : n₀ ≤ B) (u : Value) : Keep2 n₀ T A (W.setCell ⟨B, 0, none⟩ u) :=
  h.trans ⟨(KeepT.refl _ _ _).box hb ht hB u, KeepsOthers.setCell _ _ _⟩
end Go.Proofs.Ytdnjkffmgmbfmaa.Bw
namespace Go.Proofs.Ytdnjkffmgmbfmaa.Bw
open Go.RowKit Go.Shelf
attribute [local go_sem] Oper.semAt_some
mutual
theorem Nd.pre_len : ∀ (t : Nd) (d : Int), (t.pre d).length = t.cnt
  | .mk _ _ _ _ _ ks, d => by rw [Nd.pre, Nd.cnt, List.length_cons, preK_len ks (d + 1)]; omega
theorem preK_len : ∀ (l : List Nd) (d : Int), (preK l d).length = cntK l
  | [], d => by rw [preK, cntK]; rfl
  | k :: r, d => by rw [preK, cntK, List.length_append, Nd.pre_len k d, preK_len r d]
end
end Go.Proofs.Ytdnjkffmgmbfmaa.Bw
namespace Go.Proofs.Ytdnjkffmgmbfmaa.Bw
open Go.RowKit
mutual
def Nd.dep : Nd → Nat
  | .mk _ _ _ _ _ ks => depK ks
def depK : List Nd → Nat
  | [] => 0
  | k :: r => max (1 + k.dep) (depK r)
end
def lenA : List (ByteArray × ByteArray) → Nat
  | [] => 0
  | (k, v) :: r => k.size + v.size + lenA r
def Nd.own (t : Nd) : Nat := t.text.size + lenA t.attrs
mutual
def Nd.lng : Nd → Nat
  | .mk _ _ _ ats tx ks => max (tx.size + lenA ats) (lngK ks)
def lngK : List Nd → Nat
  | [] => 0
  | k :: r => max k.lng (lngK r)
end
def maxL : List (Int × Nd) → Nat
  | [] => 0
  | x :: r => max x.2.own (maxL r)
theorem maxL_append : ∀ a b, maxL (a ++ b) = max (maxL a) (maxL b)
  | [], b => by simp [maxL]
  | x :: r, b => by simp only [List.cons_append, maxL, maxL_append r b]; omega
mutual
theorem Nd.maxL_pre : ∀ (t : Nd) (d : Int), maxL (t.pre d) = t.lng
  | .mk _ _ _ _ _ ks, d => by rw [Nd.pre, maxL, preK_maxL ks (d + 1), Nd.lng]; rfl
theorem preK_maxL : ∀ (l : List Nd) (d : Int), maxL (preK l d) = lngK l
  | [], d => by rw [preK, maxL, lngK]
  | k :: r, d => by rw [preK, maxL_append, Nd.maxL_pre k d, preK_maxL r d, lngK]
end
mutual
def Nd.ids : Nd → List Int
  | .mk i _ _ _ _ ks => i :: idsK ks
def idsK : List Nd → List Int
  | [] => []
  | k :: r => k.ids ++ idsK r
end
theorem Nd.ids_eq (t : Nd) : t.ids = t.id :: idsK t.kids := by cases t; rw [Nd.ids]; rfl
mutual
theorem Nd.ids_pre : ∀ (t : Nd) (d : Int), (t.pre d).map (fun x => x.2.id) = t.ids
  | .mk _ _ _ _ _ ks, d => by rw [Nd.pre, List.map_cons, preK_ids ks (d + 1), Nd.ids]; rfl
theorem preK_ids : ∀ (l : List Nd) (d : Int), (preK l d).map (fun x => x.2.id) = idsK l
  | [], d => by rw [preK, idsK]; rfl
  | k :: r, d => by rw [preK, List.map_append, Nd.ids_pre k d, preK_ids r d, idsK]
end
theorem Nd.ids_len (t : Nd) : t.ids.length = t.cnt := by rw [← Nd.ids_pre t 0, List.length_map, Nd.pre_len]
def keyOk (s : ByteArray) : Bool := decide (1 ≤ s.size ∧ s.size ≤ 64)
def strLe (a b : ByteArray) : Bool := Op.bytesLess a.toList b.toList || a.toList == b.toList
def attrsOk : Option ByteArray → List (ByteArray × ByteArray) → Bool
  | _, [] => true
  | p, (k, v) :: r => keyOk k && decide (v.size ≤ 256) && (match p with | none => true | some q => !strLe k q) && attrsOk (some k) r
def Nd.shape (t : Nd) : Bool := decide (t.label.size ≤ 64) && !(t.leaf && decide (0 < t.kids.length)) && !(!t.leaf && decide (0 < t.text.size))
def Nd.right1 (t : Nd) : Bool := t.shape && attrsOk none t.attrs
mutual
def Nd.rightAll : Nd → Bool
  | .mk i lf lb ats tx ks => (Nd.mk i lf lb ats tx ks).right1 && rightK ks
def rightK : List Nd → Bool
  | [] => true
  | k :: r => k.rightAll && rightK r
end
theorem Nd.rightAll_eq (t : Nd) : t.rightAll = (t.right1 && rightK t.kids) := by cases t; rw [Nd.rightAll]; rfl
def Nd.right (t : Nd) : Bool := !t.leaf && t.rightAll
def sameA (a b : List (ByteArray × ByteArray)) : Bool := decide (a = b)
mutual
def Nd.same (i : Bool) : Nd → Nd → Bool
  | .mk id lf lb ats tx ks, b => (!i || decide (id = b.id)) && decide (lf = b.leaf) && decide (lb = b.label) && decide (tx = b.text) && sameA ats b.attrs && sameK i ks b.kids
def sameK (i : Bool) : List Nd → List Nd → Bool
  | [], [] => true
  | x :: r, y :: s => x.same i y && sameK i r s
  | _, _ => false
end
def Nd.at? : Nd → List Int → Option Nd
  | t, [] => some t
  | t, i :: p => if i < 0 ∨ (t.kids.length : Int) ≤ i then none else match t.kids[i.toNat]? with | some k => k.at? p | none => none
def Nd.withKids (t : Nd) (ks : List Nd) : Nd := .mk t.id t.leaf t.label t.attrs t.text ks
def Nd.put : Nd → List Int → Nd → Option Nd
  | _, [], x => some x
  | t, i :: p, x => if i < 0 ∨ (t.kids.length : Int) ≤ i then none else match t.kids[i.toNat]? with
    | some k => match k.put p x with
      | some k' => some (t.withKids (t.kids.set i.toNat k'))
      | none => none
    | none => none
def Nd.zero : Nd := .mk 0 false ByteArray.empty [] ByteArray.empty []
end Go.Proofs.Ytdnjkffmgmbfmaa.Bw
namespace Go.Proofs.Ytdnjkffmgmbfmaa.Bw
open Go.RowKit
end Go.Proofs.Ytdnjkffmgmbfmaa.Bw
namespace Go.Proofs.Ytdnjkffmgmbfmaa.Bw
open Go.RowKit
end Go.Proofs.Ytdnjkffmgmbfmaa.Bw
namespace Go.Proofs.Ytdnjkffmgmbfmaa.Bw
open Go.RowKit
end Go.Proofs.Ytdnjkffmgmbfmaa.Bw
namespace Go.Proofs.Ytdnjkffmgmbfmaa.Bw
open Go.RowKit
end Go.Proofs.Ytdnjkffmgmbfmaa.Bw
namespace Go.Proofs.Ytdnjkffmgmbfmaa.Bw
open Go.RowKit
end Go.Proofs.Ytdnjkffmgmbfmaa.Bw
namespace Go.Proofs.Ytdnjkffmgmbfmaa.Bw
open Go.RowKit
end Go.Proofs.Ytdnjkffmgmbfmaa.Bw
namespace Go.Proofs.Ytdnjkffmgmbfmaa.Bw
open Go.RowKit Go.Shelf
attribute [local go_sem] Oper.semAt_some
end Go.Proofs.Ytdnjkffmgmbfmaa.Bw
namespace Go.Proofs.Ytdnjkffmgmbfmaa.Bw
open Go.RowKit Go.Shelf
attribute [local go_sem] Oper.semAt_some
/-- A block that holds a struct's cells. -/
def NBox (W : World) (B : Nat) (t : TypeId) (cs : Array Value) : Prop := W.heap[B]? = some (.cells cs t (0, 0))
theorem NBox.new (W : World) (t : TypeId) (cs : Array Value) : NBox (W.alloc (.cells cs t)) W.heap.size t cs := World.alloc_heap_new W _
theorem NBox.cell {W : World} {B : Nat} {t : TypeId} {cs : Array Value} (h : NBox W B t cs) (i : Nat) : W.cell? ⟨B, i, none⟩ = cs[i]? := cell_of_blk h
theorem NBox.c6 {W : World} {B : Nat} {t : TypeId} {x0 x1 x2 x3 x4 x5 : Value} (h : NBox W B t #[x0, x1, x2, x3, x4, x5]) : W.cell? ⟨B, 0, none⟩ = some x0 ∧ W.cell? ⟨B, 1, none⟩ = some x1 ∧ W.cell? ⟨B, 2, none⟩ = some x2 ∧ W.cell? ⟨B, 3, none⟩ = some x3 ∧ W.cell? ⟨B, 4, none⟩ = some x4 ∧ W.cell? ⟨B, 5, none⟩ = some x5 := ⟨h.cell 0, h.cell 1, h.cell 2, h.cell 3, h.cell 4, h.cell 5⟩
theorem NBox.c11 {W : World} {B : Nat} {t : TypeId} {x0 x1 x2 x3 x4 x5 x6 x7 x8 x9 x10 : Value} (h : NBox W B t #[x0, x1, x2, x3, x4, x5, x6, x7, x8, x9, x10]) : W.cell? ⟨B, 0, none⟩ = some x0 ∧ W.cell? ⟨B, 1, none⟩ = some x1 ∧ W.cell? ⟨B, 2, none⟩ = some x2 ∧ W.cell? ⟨B, 3, none⟩ = some x3 ∧ W.cell? ⟨B, 4, none⟩ = some x4 ∧ W.cell? ⟨B, 5, none⟩ = some x5 ∧ W.cell? ⟨B, 6, none⟩ = some x6 ∧ W.cell? ⟨B, 7, none⟩ = some x7 ∧ W.cell? ⟨B, 8, none⟩ = some x8 ∧ W.cell? ⟨B, 9, none⟩ = some x9 ∧ W.cell? ⟨B, 10, none⟩ = some x10 := ⟨h.cell 0, h.cell 1, h.cell 2, h.cell 3, h.cell 4, h.cell 5, h.cell 6, h.cell 7, h.cell 8, h.cell 9, h.cell 10⟩
theorem NBox.ext {W W' : World} (he : Ext W W') {B : Nat} {t : TypeId} {cs : Array Value} (h : NBox W B t cs) : NBox W' B t cs := (he.block B (Array.getElem?_eq_some_iff.1 h).1).trans h
theorem NBox.own {β : Type} {B : Nat} {t : TypeId} {cs : Array Value} (p : β → Prop) : Own (fun (s : β) W => p s ∧ NBox W B t cs) := fun s X Y row hs hg hr =>
  ⟨hs.1, (hg.block B (Array.getElem?_eq_some_iff.1 hs.2).1 (fun e => by obtain ⟨o, ho, hc⟩ := hr B e.symm; rw [show X.heap[B]? = _ from hs.2] at ho; cases ho; cases hc)).trans hs.2⟩
theorem Boxed.ext {W W' : World} (he : Ext W W') {B : Nat} {t : TypeId} {v : Value} (h : Boxed W B t v) : Boxed W' B t v := (he.block B h.lt).trans h
end Go.Proofs.Ytdnjkffmgmbfmaa.Bw
