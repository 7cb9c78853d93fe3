/- SyLxLast turned to this seat. (Printed by gport.py.) -/
import Derived.Test.YtdnjkffmgmbfmaaHyLxFrame
import Derived.Test.YtdnjkffmgmbfmaaProg
import Derived.Test.YtdnjkffmgmbfmaaBsPlain
import Derived.Test.YtdnjkffmgmbfmaaHyBsInts
namespace Go.Proofs.Ytdnjkffmgmbfmaa.Sy
open Go.RowKit Go.Proofs.Ytdnjkffmgmbfmaa.Bw Go.Proofs.Ytdnjkffmgmbfmaa.Bs
theorem NBox.set {W : World} {B : Nat} {t : TypeId} {cs : Array Value} (h : NBox W B t cs) (i : Nat) (u : Value) : NBox (W.setCell ⟨B, i, none⟩ u) B t (cs.setIfInBounds i u) := by
 unfold NBox at h ⊢
 simp [World.setCell, Array.getElem?_modify, h]
theorem NBox.frozen {W : World} {B : Nat} {t : TypeId} {cs : Array Value} (h : NBox W B t cs) (i : Nat) : W.frozen? ⟨B, i, none⟩ = false := by
 unfold NBox at h; simp [World.frozen?, h]
theorem NBox.f6 {W : World} {B : Nat} {t : TypeId} {cs : Array Value} (h : NBox W B t cs) : W.frozen? ⟨B, 0, none⟩ = false ∧ W.frozen? ⟨B, 1, none⟩ = false ∧ W.frozen? ⟨B, 2, none⟩ = false ∧ W.frozen? ⟨B, 3, none⟩ = false ∧ W.frozen? ⟨B, 4, none⟩ = false ∧ W.frozen? ⟨B, 5, none⟩ = false := ⟨h.frozen 0, h.frozen 1, h.frozen 2, h.frozen 3, h.frozen 4, h.frozen 5⟩
theorem NBox.lt {W : World} {B : Nat} {t : TypeId} {cs : Array Value} (h : NBox W B t cs) : B < W.heap.size := (Array.getElem?_eq_some_iff.1 h).1
theorem T24 : SliceT Try.prog 24 61 (.agg #[.int .i64 0, .int .i64 0, .string ⟨#[]⟩]) 3 32 := SliceT.mk' Try.underlying24 (by kernel_rfl) rfl (by decide)
theorem wp_append_rd {P : Program} {w : World} {o : Oper} {a : Act} {K : Act → World → Prop} {Q : Exit → Act → World → Prop} {s x : Operand} {t : TypeId}
  (ho : o.op = .call { callee := .builtin .append, args := #[s, x], argTypes := #[t, t] }) {e : TypeId} {z : Value} {size bytes : Nat} (T : SliceT P t e z size bytes) {base : Nat} {v : Value} {n : Nat} {xs : List Value} (hs : a.eval s = v) (hown : w.ownsRow base e size v n xs)
  {m : Nat} {news : List Value} {y : Value} (hx : a.eval x = y) (hr : RdS w size m news y) (h1 : ∀ u ∈ news, u.oneCell' = true) (hb : (n + m) * bytes ≤ 140737488355328) (hm : n + m ≤ maxLen) (hbase : base ≤ w.heap.size)
  (h : ∀ v' w', w'.ownsRow base e size v' (n + m) (xs ++ news) → w.grownBy w' v.ownBlock → (v'.ownBlock = v.ownBlock ∨ v'.ownBlock = some w.heap.size) → K (a.put o.dst v') w') : o.wp P a w K Q := by
 obtain ⟨v', w', hrun, h2, h3, h4⟩ := run_append_rd T o.type hown hr h1 hb hm hbase
 unfold Oper.wp execOp
 simp only [ho, resolve, invoke, builtin, Sem.run_bind, Sem.run_pure, Result.andThen_ok, List.map_toArray, List.map_cons, List.map_nil, hs, hx, hrun]
 exact h v' w' h2 h3 h4
theorem Fr.grown {A B : World} {row : Option Nat} (h : A.grownBy B row) : Fr A B (fun k => row = some k) := ⟨h.os, h.tape, h.output, h.size, fun k hk hs => h.block k hk (fun e => hs e.symm)⟩
theorem Fr.setCell (W : World) (B i : Nat) (u : Value) : Fr W (W.setCell ⟨B, i, none⟩ u) (fun k => k = B) := by
 have h := Below.setCell (Below.refl 0 W) (p := ⟨B, i, none⟩) (Nat.zero_le _) u
 exact ⟨h.os, h.tape, h.output, h.size, fun k _ hs => Below.heap_setCell W ⟨B, i, none⟩ u k hs⟩
end Go.Proofs.Ytdnjkffmgmbfmaa.Sy
namespace Go.Proofs.Ytdnjkffmgmbfmaa.Sy
open Go.RowKit Go.Proofs.Ytdnjkffmgmbfmaa.Bw Go.Proofs.Ytdnjkffmgmbfmaa.Bs
theorem lt_of_cell {W : World} {b i : Nat} {u : Value} (h : W.cell? ⟨b, i, none⟩ = some u) : b < W.heap.size := by
 rcases Nat.lt_or_ge b W.heap.size with h1 | h1
 ·exact h1
 ·simp [World.cell?, Array.getElem?_eq_none h1] at h
theorem Fr.cell {W W' : World} {S : Nat → Prop} {b i : Nat} {u : Value} (F : Fr W W' S) (hb : ¬ S b) (h : W.cell? ⟨b, i, none⟩ = some u) : W'.cell? ⟨b, i, none⟩ = some u := by
 have e := F.block b (lt_of_cell h) hb
 have : W'.cell? ⟨b, i, none⟩ = W.cell? ⟨b, i, none⟩ := by simp [World.cell?, e]
 rw [this]; exact h
end Go.Proofs.Ytdnjkffmgmbfmaa.Sy
namespace Go.Proofs.Ytdnjkffmgmbfmaa.Sy
open Go.RowKit Go.Proofs.Ytdnjkffmgmbfmaa.Bw Go.Proofs.Ytdnjkffmgmbfmaa.Bs
def i64 (n : Int) : Prop := -9223372036854775808 ≤ n ∧ n ≤ 9223372036854775807
def OpD.rd (w : World) (o : OpD) (v : Value) : Prop := ∃ pv tv cv, v = .agg #[.int .u8 o.kind, pv, .int .i64 o.at_, tv, .int .u64 o.id, .bool o.leaf, .string o.label, .string o.key, .string o.value, .bool o.gone, cv] ∧
 RdI w o.path pv ∧ RdI w o.to tv ∧ RdP w o.pcs cv ∧ okStr o.label ∧ okStr o.key ∧ okStr o.value ∧ (0 ≤ o.id ∧ o.id ≤ 18446744073709551615) ∧ (0 ≤ o.kind ∧ o.kind ≤ 255)
theorem OpD.rd_ext {w w' : World} (h : Ext w w') {o : OpD} {v : Value} (hr : o.rd w v) : o.rd w' v := by
 obtain ⟨pv, tv, cv, e, h1, h2, h3, h4⟩ := hr
 exact ⟨pv, tv, cv, e, RdS.ext h h1, RdS.ext h h2, RdP.ext h h3, h4⟩
/-- A row of operations from an address on: cell by cell. -/
def rdOps (w : World) (b : Nat) : Nat → List OpD → Prop
 | _, [] => True
 | off, o :: r => (∃ pv tv cv, w.cell? ⟨b, off, none⟩ = some (.int .u8 o.kind) ∧ w.cell? ⟨b, off + 1, none⟩ = some pv ∧ w.cell? ⟨b, off + 2, none⟩ = some (.int .i64 o.at_) ∧ w.cell? ⟨b, off + 3, none⟩ = some tv ∧ w.cell? ⟨b, off + 4, none⟩ = some (.int .u64 o.id) ∧
   w.cell? ⟨b, off + 5, none⟩ = some (.bool o.leaf) ∧ w.cell? ⟨b, off + 6, none⟩ = some (.string o.label) ∧ w.cell? ⟨b, off + 7, none⟩ = some (.string o.key) ∧ w.cell? ⟨b, off + 8, none⟩ = some (.string o.value) ∧ w.cell? ⟨b, off + 9, none⟩ = some (.bool o.gone) ∧ w.cell? ⟨b, off + 10, none⟩ = some cv ∧
   o.rd w (.agg #[.int .u8 o.kind, pv, .int .i64 o.at_, tv, .int .u64 o.id, .bool o.leaf, .string o.label, .string o.key, .string o.value, .bool o.gone, cv])) ∧ rdOps w b (off + 11) r
theorem rdOps_ext {w w' : World} (h : Ext w w') {b : Nat} : ∀ {off : Nat} {l : List OpD}, rdOps w b off l → rdOps w' b off l
 | _, [], _ => trivial
 | _, _ :: _, ⟨⟨pv, tv, cv, h0, h1, h2, h3, h4, h5, h6, h7, h8, h9, h10, h11⟩, hr⟩ => ⟨⟨pv, tv, cv, h.cell h0, h.cell h1, h.cell h2, h.cell h3, h.cell h4, h.cell h5, h.cell h6, h.cell h7, h.cell h8, h.cell h9, h.cell h10, OpD.rd_ext h h11⟩, rdOps_ext h hr⟩
/-- A slice value that reads as a list of operations. -/
def RdL (w : World) (l : List OpD) (v : Value) : Prop :=
 ∃ A c, v = .slice A l.length c ∧ l.length ≤ c ∧ c ≤ maxLen ∧ (0 < l.length → ∃ b off, A = some ⟨b, off, none⟩ ∧ rdOps w b off l)
theorem RdL.ext {w w' : World} (h : Ext w w') {l : List OpD} {v : Value} (hr : RdL w l v) : RdL w' l v := by
 obtain ⟨A, c, e, h1, h2, h3⟩ := hr
 refine ⟨A, c, e, h1, h2, fun h0 => ?_⟩
 obtain ⟨b, off, h4, h5⟩ := h3 h0
 exact ⟨b, off, h4, rdOps_ext h h5⟩
theorem NBox.not_own {W : World} {b : Nat} {t : TypeId} {cs : Array Value} {base e size n : Nat} {v : Value} {xs : List Value} (h : NBox W b t cs) (ho : W.ownsRow base e size v n xs) (hne : t ≠ e) : v.ownBlock ≠ some b := by
 intro hv
 rcases ho.2 with ⟨h2, _⟩ | ⟨g, cap, cur, h1, _, hg, r⟩
 ·rw [h2] at hv; exact absurd hv (by simp [Value.ownBlock])
 ·rw [h1] at hv
  obtain rfl : g = b := by simpa [Value.ownBlock] using hv
  have := h.symm.trans hg
  simp at this
  exact hne this.2
theorem NBox.apart {W : World} {a b : Nat} {t u : TypeId} {cs ds : Array Value} (h : NBox W a t cs) (k : NBox W b u ds) (hne : t ≠ u) : a ≠ b := by
 rintro rfl
 have : some (Obj.cells cs t (0, 0)) = some (Obj.cells ds u (0, 0)) := h.symm.trans k
 simp only [Option.some.injEq, Obj.cells.injEq] at this
 exact hne this.2.1
end Go.Proofs.Ytdnjkffmgmbfmaa.Sy
namespace Go.Proofs.Ytdnjkffmgmbfmaa.Sy
open Go.RowKit Go.Proofs.Ytdnjkffmgmbfmaa.Bw Go.Proofs.Ytdnjkffmgmbfmaa.Bs
theorem Fr.over {A B C : World} {S T : Nat → Prop} (h : Fr A B S) (k : Fr B C T) (hT : ∀ i, S i → i < A.heap.size → T i) : Fr A C T :=
 ⟨k.os.trans h.os, k.tape.trans h.tape, k.output.trans h.output, Nat.le_trans h.size k.size, fun i hi ht => (k.block i (Nat.lt_of_lt_of_le hi h.size) ht).trans (h.block i hi (fun hs => ht (hT i hs hi)))⟩
theorem Fr.join {A B C : World} {S T U : Nat → Prop} (h : Fr A B S) (k : Fr B C T) (hU : ∀ i, i < A.heap.size → S i ∨ T i → U i) : Fr A C U :=
 ⟨k.os.trans h.os, k.tape.trans h.tape, k.output.trans h.output, Nat.le_trans h.size k.size, fun i hi hu => (k.block i (Nat.lt_of_lt_of_le hi h.size) (fun ht => hu (hU i hi (.inr ht)))).trans (h.block i hi (fun hs => hu (hU i hi (.inl hs))))⟩
/-- P holds in every world that goes on from W and has all blocks as they are there, but those of S. -/
def Late (S : Nat → Prop) (P : World → Prop) (W : World) : Prop := ∀ W2, Fr W W2 S → P W2
def old (lo : Nat) : Nat → Prop := fun k => k < lo
theorem Late.now {S : Nat → Prop} {P : World → Prop} {W : World} (h : Late S P W) : P W := h W (Fr.refl _ _)
theorem Late.to {S S' T : Nat → Prop} {P : World → Prop} {W W' : World} (h : Late S P W) (F : Fr W W' T) (hS : ∀ k, k < W.heap.size → T k ∨ S' k → S k) : Late S' P W' := fun W2 F2 => h W2 (F.join F2 hS)
theorem Late.sub {S S' : Nat → Prop} {P : World → Prop} {W : World} (h : Late S P W) (hS : ∀ k, S' k → S k) : Late S' P W := fun W2 F => h W2 (F.mono hS)
theorem Late.low {lo lo' : Nat} {P : World → Prop} {W : World} (h : Late (old lo) P W) (hl : lo' ≤ lo) : Late (old lo') P W := h.sub fun _ hk => Nat.lt_of_lt_of_le hk hl
theorem Late.imp {S : Nat → Prop} {P Q : World → Prop} {W : World} (h : Late S P W) (hpq : ∀ W, P W → Q W) : Late S Q W := fun W2 F => hpq W2 (h W2 F)
theorem Late.and {S : Nat → Prop} {P Q : World → Prop} {W : World} (h : Late S P W) (k : Late S Q W) : Late S (fun W => P W ∧ Q W) W := fun W2 F => ⟨h W2 F, k W2 F⟩
theorem Late.all {S : Nat → Prop} {P : World → Prop} {W : World} (h : ∀ W, P W) : Late S P W := fun W2 _ => h W2
theorem Late.ext {S : Nat → Prop} {P : World → Prop} {W W' : World} (h : Late S P W) (k : Ext W W') : Late S P W' := h.to (T := fun _ => False) (Fr.of_ext k _) (fun _ _ hk => hk.elim False.elim id)
/-- An owned row stays. -/
theorem Late.own {W : World} {base lo e size n : Nat} {v : Value} {xs : List Value} (h : W.ownsRow base e size v n xs) (hl : lo ≤ base) : Late (old lo) (fun W => W.ownsRow base e size v n xs) W :=
 fun W2 F => owns_fr F h (fun g hg hk => by have := owns_base h g hg; exact absurd hk (Nat.not_lt.2 (Nat.le_trans hl this)))
/-- The cells of a row of structs. -/
def rowCells {α : Type} (R : World → α → Value → Prop) (sz : Nat) (W : World) : List α → List Value → Prop
 | [], us => us = []
 | x :: l, us => ∃ cs us', cs.length = sz ∧ R W x (.agg cs.toArray) ∧ us = cs ++ us' ∧ rowCells R sz W l us'
theorem rowCells_add {α : Type} {R : World → α → Value → Prop} {sz : Nat} {W : World} {x : α} {cs : List Value} (hs : cs.length = sz) (hx : R W x (.agg cs.toArray)) : ∀ (l : List α) (us : List Value), rowCells R sz W l us → rowCells R sz W (l ++ [x]) (us ++ cs)
 | [], us, h => by
  unfold rowCells at h
  subst h
  exact ⟨cs, [], hs, hx, by simp, rfl⟩
 | y :: l, us, h => by
  obtain ⟨ds, us', h1, h2, rfl, h3⟩ := h
  exact ⟨ds, us' ++ cs, h1, h2, by rw [List.append_assoc], rowCells_add hs hx l us' h3⟩
/-- What an owned row has in its cells. -/
theorem owns_cells {W : World} {base e size n : Nat} {v : Value} {xs : List Value} (h : W.ownsRow base e size v n xs) : ∃ A c, v = .slice A n c ∧ n ≤ c ∧ c ≤ maxLen ∧ (0 < n → ∃ g, A = some ⟨g, 0, none⟩ ∧ ∀ j u, xs[j]? = some u → W.cell? ⟨g, 0 + j, none⟩ = some u) := by
 obtain ⟨A, c, h1, h2, h3, h4, h5⟩ := RdS.of_owns h
 refine ⟨A, c, h1, h3, h4, fun h0 => ?_⟩
 rcases h.2 with ⟨_, hn⟩ | ⟨g, cap, cur, rfl, _⟩
 ·omega
 ·obtain ⟨b, off, hA, hc⟩ := h5 h0
  simp only [Value.slice.injEq] at h1
  obtain ⟨h1, -⟩ := h1
  rw [hA] at h1
  simp only [Option.some.injEq, Addr.mk.injEq, and_true] at h1
  obtain ⟨rfl, rfl⟩ := h1
  exact ⟨g, hA, hc⟩
abbrev Atr := ByteArray × ByteArray
def RdAtr (_ : World) (x : Atr) (v : Value) : Prop := v = .agg #[.string x.1, .string x.2] ∧ okStr x.1 ∧ okStr x.2
theorem rdAttrs_of {W : World} {b : Nat} : ∀ (l : List Atr) (us : List Value) (off : Nat), rowCells RdAtr 2 W l us → (∀ j u, us[j]? = some u → W.cell? ⟨b, off + j, none⟩ = some u) → rdAttrs W b off l
 | [], _, _, _, _ => trivial
 | (k, v) :: l, us, off, h, hc => by
  obtain ⟨cs, us', h1, ⟨h2, h3, h4⟩, rfl, h5⟩ := h
  simp only [Value.agg.injEq] at h2
  have h2' : cs = [.string k, .string v] := by
   have := congrArg Array.toList h2
   simpa using this
  subst h2'
  refine ⟨?_, ?_, h3, h4, rdAttrs_of l us' (off + 2) h5 (fun j u hj => ?_)⟩
  ·have := hc 0 (.string k) rfl
   simpa using this
  ·exact hc 1 (.string v) rfl
  ·have := hc (2 + j) u (by simpa [Nat.add_comm] using hj)
   rw [show off + 2 + j = off + (2 + j) by omega]
   exact this
theorem RdA.of_row {W : World} {base e : Nat} {v : Value} {l : List Atr} {us : List Value} (h : W.ownsRow base e 2 v l.length us) (hr : rowCells RdAtr 2 W l us) : RdA W l v := by
 obtain ⟨A, c, rfl, h1, h2, h3⟩ := owns_cells h
 refine ⟨A, c, rfl, h1, h2, fun hl => ?_⟩
 obtain ⟨g, rfl, hc⟩ := h3 (List.length_pos_iff.2 hl)
 exact ⟨g, 0, rfl, rdAttrs_of l us 0 hr hc⟩
def RdNd (W : World) (x : Nd) (v : Value) : Prop := x.rd W v
theorem rdKids_of {W : World} {b : Nat} : ∀ (l : List Nd) (us : List Value) (off : Nat), rowCells RdNd 6 W l us → (∀ j u, us[j]? = some u → W.cell? ⟨b, off + j, none⟩ = some u) → rdKids W b off l
 | [], _, _, _, _ => by unfold rdKids; trivial
 | k :: l, us, off, h, hc => by
  obtain ⟨cs, us', h1, h2, rfl, h5⟩ := h
  match cs, h1 with
  | [c0, c1, c2, c3, c4, c5], _ =>
   unfold rdKids
   refine ⟨⟨c0, c1, c2, c3, c4, c5, ?_, hc 1 c1 rfl, hc 2 c2 rfl, hc 3 c3 rfl, hc 4 c4 rfl, hc 5 c5 rfl, h2⟩, rdKids_of l us' (off + 6) h5 (fun j u hj => ?_)⟩
   ·have := hc 0 c0 rfl
    simpa using this
   ·have := hc (6 + j) u (by simpa [Nat.add_comm] using hj)
    rw [show off + 6 + j = off + (6 + j) by omega]
    exact this
theorem RdK.of_row {W : World} {base e : Nat} {v : Value} {l : List Nd} {us : List Value} (h : W.ownsRow base e 6 v l.length us) (hr : rowCells RdNd 6 W l us) : RdK W l v := by
 obtain ⟨A, c, rfl, h1, h2, h3⟩ := owns_cells h
 refine ⟨A, c, rfl, h1, h2, fun hl => ?_⟩
 obtain ⟨g, rfl, hc⟩ := h3 (List.length_pos_iff.2 hl)
 exact ⟨g, 0, rfl, rdKids_of l us 0 hr hc⟩
def rowS (lo : Nat) (v : Value) : Nat → Prop := fun k => k < lo ∨ v.ownBlock = some k
def rowV2 {α : Type} (R : World → α → Value → Prop) (t sz lo : Nat) (l : List α) (v : Value) (W : World) : Prop := ∃ us, W.ownsRow lo t sz v l.length us ∧ Late (rowS lo v) (fun W => rowCells R sz W l us) W
def ndV (lo : Nat) (x : Nd) (v : Value) (W : World) : Prop := Late (old lo) (fun W => x.rd W v) W
theorem ndV.low {lo lo' : Nat} {x : Nd} {v : Value} {W : World} (h : ndV lo x v W) (hl : lo' ≤ lo) : ndV lo' x v W := Late.low h hl
theorem rowV2.kids {t lo : Nat} {l : List Nd} {v : Value} {W : World} (h : rowV2 RdNd t 6 lo l v W) : Late (old lo) (fun W => RdK W l v) W := by
 obtain ⟨us, h1, h2⟩ := h
 exact ((Late.own h1 (Nat.le_refl _)).and (h2.sub fun _ => .inl)).imp fun W ⟨h3, h4⟩ => RdK.of_row h3 h4
theorem rowV2.low {α : Type} {R : World → α → Value → Prop} {t sz lo lo' : Nat} {l : List α} {v : Value} {W : World} (h : rowV2 R t sz lo l v W) (hl : lo' ≤ lo) : rowV2 R t sz lo' l v W := by
 obtain ⟨us, h1, h2⟩ := h
 refine ⟨us, ?_, h2.sub fun k hk => hk.imp (fun h => Nat.lt_of_lt_of_le h hl) id⟩
 refine ⟨h1.1, h1.2.imp id ?_⟩
 rintro ⟨g, cap, cur, e1, e2, h3⟩
 exact ⟨g, cap, cur, e1, Nat.le_trans hl e2, h3⟩
/-- One more: behind an append. -/
theorem rowV2.add {α : Type} {R : World → α → Value → Prop} {t sz lo : Nat} {l : List α} {v v4 : Value} {x : α} {cs us : List Value} {wr w3 w4 : World} (h1 : wr.ownsRow lo t sz v l.length us) (h2 : Late (rowS lo v) (fun W => rowCells R sz W l us) w3)
  (hx : Late (old wr.heap.size) (fun W => R W x (.agg cs.toArray)) w3) (hs : cs.length = sz) (hlo : lo ≤ wr.heap.size) (hg : w3.grownBy w4 v.ownBlock) (hat : v4.ownBlock = v.ownBlock ∨ v4.ownBlock = some w3.heap.size)
  (h4 : w4.ownsRow lo t sz v4 (l.length + 1) (us ++ cs)) : rowV2 R t sz lo (l ++ [x]) v4 w4 := by
 have F := Fr.grown hg
 have hb : ∀ k, v.ownBlock = some k → k < wr.heap.size := fun k hk => (h1.lt k hk).2
 refine ⟨us ++ cs, by rw [List.length_append]; exact h4, ?_⟩
 have a1 : Late (rowS lo v4) (fun W => rowCells R sz W l us) w4 := h2.to F (fun k hk hh => by
  rcases hh with hh | hh | hh
  ·exact .inr hh
  ·exact .inl hh
  ·rcases hat with h | h
   ·exact .inr (h ▸ hh)
   ·rw [h] at hh
    cases hh
    exact absurd hk (Nat.lt_irrefl _))
 have a2 : Late (rowS lo v4) (fun W => R W x (.agg cs.toArray)) w4 := hx.to F (fun k hk hh => by
  rcases hh with hh | hh | hh
  ·exact hb k hh
  ·exact Nat.lt_of_lt_of_le hh hlo
  ·rcases hat with h | h
   ·exact hb k (h ▸ hh)
   ·rw [h] at hh
    cases hh
    exact absurd hk (Nat.lt_irrefl _))
 exact (a1.and a2).imp fun W ⟨b1, b2⟩ => rowCells_add hs b2 l us b1
end Go.Proofs.Ytdnjkffmgmbfmaa.Sy
