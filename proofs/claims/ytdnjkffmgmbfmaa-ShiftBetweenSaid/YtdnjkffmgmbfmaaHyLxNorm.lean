/- SyLxRows turned to this seat. (Printed by gport.py.) -/
import Derived.Test.YtdnjkffmgmbfmaaHyWiLate
import Derived.StillTailTactics
import Derived.WalkLawsBesides
namespace Go.Proofs.Ytdnjkffmgmbfmaa.Sy
open Go.RowKit Go.Proofs.Ytdnjkffmgmbfmaa.Bw Go.Proofs.Ytdnjkffmgmbfmaa.Bs
def rPutS : List Pc → ByteArray
 | [] => ⟨#[]⟩
 | p :: _ => if 0 < p.keep then ⟨#[]⟩ else p.put
def rPut : List Pc → List Pc
 | [] => []
 | p :: r => if 0 < p.keep then p :: r else { p with put := ⟨#[]⟩ } :: r
def rSkip : List Pc → List Pc
 | [] => []
 | p :: r => if 0 < p.keep ∨ 0 < p.drop then p :: r else rSkip r
def rN : List Pc → Int
 | [] => 0
 | p :: _ => if 0 < p.keep then p.keep else p.drop
def rD : List Pc → Bool
 | [] => false
 | p :: _ => if 0 < p.keep then false else true
def rTake (n : Int) : List Pc → List Pc
 | [] => []
 | p :: r => if 0 < p.keep then { p with keep := p.keep - n } :: r else { p with drop := p.drop - n } :: r
/-- Bounds of a row. -/
def RB (C : Nat) (l : List Pc) : Prop := ∀ p ∈ l, 0 ≤ p.keep ∧ p.keep ≤ (C : Int) ∧ 0 ≤ p.drop ∧ p.drop ≤ (C : Int) ∧ p.put.size ≤ C
theorem RB.tail {C : Nat} {p : Pc} {l : List Pc} (h : RB C (p :: l)) : RB C l := fun q hq => h q (List.mem_cons_of_mem _ hq)
theorem RB.cons {C : Nat} {p : Pc} {l : List Pc} (hp : 0 ≤ p.keep ∧ p.keep ≤ (C : Int) ∧ 0 ≤ p.drop ∧ p.drop ≤ (C : Int) ∧ p.put.size ≤ C) (h : RB C l) : RB C (p :: l) := fun q hq => (List.mem_cons.1 hq).elim (fun e => e ▸ hp) (h q)
theorem RB.skip {C : Nat} : ∀ {l : List Pc}, RB C l → RB C (rSkip l)
 | [], h => h
 | p :: r, h => by
  simp only [rSkip]
  split
  ·exact h
  ·exact RB.skip h.tail
theorem RB.put {C : Nat} : ∀ {l : List Pc}, RB C l → RB C (rPut l)
 | [], h => h
 | p :: r, h => by
  simp only [rPut]
  split
  ·exact h
  ·obtain ⟨a, b, c, d, _⟩ := h p List.mem_cons_self
   exact RB.cons ⟨a, b, c, d, Nat.zero_le _⟩ h.tail
theorem RB.take {C : Nat} {n : Int} : ∀ {l : List Pc}, RB C l → 0 ≤ n → n ≤ rN l → RB C (rTake n l)
 | [], h, _, _ => h
 | p :: r, h, h0, hn => by
  obtain ⟨a, b, c, d, e⟩ := h p List.mem_cons_self
  simp only [rTake]
  simp only [rN] at hn
  split
  ·rename_i hk
   rw [if_pos hk] at hn
   exact RB.cons ⟨by show 0 ≤ p.keep - n; omega, by show p.keep - n ≤ _; omega, c, d, e⟩ h.tail
  ·rename_i hk
   rw [if_neg hk] at hn
   exact RB.cons ⟨a, b, by show 0 ≤ p.drop - n; omega, by show p.drop - n ≤ _; omega, e⟩ h.tail
theorem RB.n {C : Nat} : ∀ {l : List Pc}, RB C l → 0 ≤ rN l ∧ rN l ≤ (C : Int)
 | [], _ => ⟨Int.le_refl _, by show (0 : Int) ≤ _; omega⟩
 | p :: r, h => by
  obtain ⟨a, b, c, d, e⟩ := h p List.mem_cons_self
  simp only [rN]
  split
  ·exact ⟨a, b⟩
  ·exact ⟨c, d⟩
/-- Behind the skip a row is empty, or something comes next. -/
theorem rSkip_cases : ∀ l : List Pc, rSkip l = [] ∨ ∃ p r, rSkip l = p :: r ∧ (0 < p.keep ∨ 0 < p.drop)
 | [] => .inl rfl
 | p :: r => by
  simp only [rSkip]
  split
  ·rename_i h; exact .inr ⟨p, r, rfl, h⟩
  ·exact rSkip_cases r
theorem rdPcs_blk {W W' : World} {g : Nat} (h : W'.heap[g]? = W.heap[g]?) : ∀ {off : Nat} {l : List Pc}, rdPcs W g off l → rdPcs W' g off l
 | _, [], _ => trivial
 | _, _ :: _, ⟨h1, h2, h3, h4, h5⟩ => by
  have e : ∀ i, W'.cell? ⟨g, i, none⟩ = W.cell? ⟨g, i, none⟩ := fun i => by simp [World.cell?, h]
  exact ⟨(e _).trans h1, (e _).trans h2, (e _).trans h3, h4, rdPcs_blk h h5⟩
/-- A slice value that reads as a row, in a block that may be written. -/
def RowV (W : World) (G : Option Nat) (l : List Pc) (v : Value) : Prop :=
 ∃ A c, v = .slice A l.length c ∧ l.length ≤ c ∧ c ≤ maxLen ∧ (0 < l.length → ∃ g off cur, G = some g ∧ A = some ⟨g, off, none⟩ ∧ NBox W g 61 cur ∧ rdPcs W g off l)
/-- A variable that holds such a row. -/
def RowAt (W : World) (B : Nat) (G : Option Nat) (l : List Pc) : Prop := ∃ v, NBox W B 74 #[v] ∧ RowV W G l v
theorem RowV.fr {A B : World} {S : Nat → Prop} (k : Fr A B S) {G : Option Nat} {l : List Pc} {v : Value} (h : RowV A G l v) (hs : ∀ g, G = some g → ¬ S g) : RowV B G l v := by
 obtain ⟨a, c, e, h1, h2, h3⟩ := h
 refine ⟨a, c, e, h1, h2, fun h0 => ?_⟩
 obtain ⟨g, off, cur, hg, ha, hN, hr⟩ := h3 h0
 exact ⟨g, off, cur, hg, ha, hN.fr k (hs g hg), rdPcs_blk (k.block g hN.lt (hs g hg)) hr⟩
theorem RowAt.fr {A W : World} {S : Nat → Prop} (k : Fr A W S) {B : Nat} {G : Option Nat} {l : List Pc} (h : RowAt A B G l) (hB : ¬ S B) (hs : ∀ g, G = some g → ¬ S g) : RowAt W B G l := by
 obtain ⟨v, hN, hv⟩ := h
 exact ⟨v, hN.fr k hB, hv.fr k hs⟩
theorem RowV.rd {W : World} {G : Option Nat} {l : List Pc} {v : Value} (h : RowV W G l v) : RdP W l v := by
 obtain ⟨a, c, e, h1, h2, h3⟩ := h
 refine ⟨a, c, e, h1, h2, fun h0 => ?_⟩
 obtain ⟨g, off, cur, hg, ha, hN, hr⟩ := h3 h0
 exact ⟨g, off, ha, hr⟩
end Go.Proofs.Ytdnjkffmgmbfmaa.Sy
namespace Go.Proofs.Ytdnjkffmgmbfmaa.Sy
open Go.RowKit Go.Proofs.Ytdnjkffmgmbfmaa.Bw Go.Proofs.Ytdnjkffmgmbfmaa.Bs
end Go.Proofs.Ytdnjkffmgmbfmaa.Sy
namespace Go.Proofs.Ytdnjkffmgmbfmaa.Sy
open Go.RowKit Go.Proofs.Ytdnjkffmgmbfmaa.Bw Go.Proofs.Ytdnjkffmgmbfmaa.Bs
def bN : List Pc → List Pc → Int
 | [], b => rN b
 | a, [] => rN a
 | a, b => min (rN a) (rN b)
def bSome (a b : List Pc) : Bool := decide (0 < a.length) || decide (0 < b.length)
theorem bN_nil (b : List Pc) : bN [] b = rN b := by cases b <;> rfl
theorem bN_nil' (a : List Pc) : bN a [] = rN a := by cases a <;> rfl
theorem bN_cons (p q : Pc) (r s : List Pc) : bN (p :: r) (q :: s) = min (rN (p :: r)) (rN (q :: s)) := rfl
theorem bN_le {a b : List Pc} {C : Nat} (ha : RB C a) (hb : RB C b) : 0 ≤ bN a b ∧ bN a b ≤ (C : Int) ∧ (a ≠ [] → bN a b ≤ rN a) ∧ (b ≠ [] → bN a b ≤ rN b) := by
 have h1 := ha.n
 have h2 := hb.n
 cases a with
 | nil => rw [bN_nil]; exact ⟨h2.1, h2.2, fun h => absurd rfl h, fun _ => Int.le_refl _⟩
 | cons p r =>
  cases b with
  | nil => rw [bN_nil']; exact ⟨h1.1, h1.2, fun _ => Int.le_refl _, fun h => absurd rfl h⟩
  | cons q s => rw [bN_cons]; exact ⟨by omega, by omega, fun _ => by omega, fun _ => by omega⟩
end Go.Proofs.Ytdnjkffmgmbfmaa.Sy
namespace Go.Proofs.Ytdnjkffmgmbfmaa.Sy
open Go.RowKit Go.Proofs.Ytdnjkffmgmbfmaa.Bw Go.Proofs.Ytdnjkffmgmbfmaa.Bs
theorem last_drops {m : Mk} {C : Int} (hC : 0 ≤ C) (h : ∀ p ∈ m.l, 0 ≤ p.drop ∧ p.drop ≤ C) : ∀ p ∈ m.last.l, 0 ≤ p.drop ∧ p.drop ≤ C := by
 unfold Mk.last
 split
 ·intro p hp
  rcases List.mem_append.1 hp with h1 | h1
  ·exact h p h1
  ·obtain rfl := List.mem_singleton.1 h1
   exact ⟨Int.le_refl _, hC⟩
 ·exact h
theorem last_puts {m : Mk} {C : Nat} (h : ∀ p ∈ m.l, p.put.size ≤ C) : ∀ p ∈ m.last.l, p.put.size ≤ C := by
 unfold Mk.last
 split
 ·intro p hp
  rcases List.mem_append.1 hp with h1 | h1
  ·exact h p h1
  ·obtain rfl := List.mem_singleton.1 h1
   exact Nat.zero_le _
 ·exact h
end Go.Proofs.Ytdnjkffmgmbfmaa.Sy
namespace Go.Proofs.Ytdnjkffmgmbfmaa.Sy
open Go.RowKit Go.Proofs.Ytdnjkffmgmbfmaa.Bw Go.Proofs.Ytdnjkffmgmbfmaa.Bs
/-- Bounds of a maker's row. -/
def Bnd (C : Nat) (l : List Pc) : Prop := ∀ p ∈ l, p.put.size ≤ C ∧ 0 ≤ p.drop ∧ p.drop ≤ (C : Int)
theorem onLast_len (f : Pc → Pc) : ∀ l : List Pc, (onLast f l).length = l.length
 | [] => rfl
 | [_] => rfl
 | x :: y :: r => by
  show (onLast f (y :: r)).length + 1 = _
  rw [onLast_len f (y :: r)]; rfl
theorem onLast_all {P : Pc → Prop} {f : Pc → Pc} (hf : ∀ p, P p → P (f p)) : ∀ l : List Pc, (∀ p ∈ l, P p) → ∀ p ∈ onLast f l, P p
 | [], _ => fun p hp => absurd hp List.not_mem_nil
 | [x], h => fun p hp => by obtain rfl := List.mem_singleton.1 hp; exact hf x (h x (List.mem_singleton.2 rfl))
 | x :: y :: r, h => fun p hp => by
  rcases List.mem_cons.1 hp with h1 | h1
  ·rw [h1]; exact h x List.mem_cons_self
  ·exact onLast_all hf (y :: r) (fun q hq => h q (List.mem_cons_of_mem _ hq)) p h1
theorem Mk.last_len (m : Mk) : m.last.l.length ≤ m.l.length + 1 := by
 unfold Mk.last
 split
 ·simp
 ·simp
theorem Mk.put_len (m : Mk) (s : ByteArray) : (m.put s).l.length ≤ m.l.length + 1 := by
 unfold Mk.put
 split
 ·show (onLast _ _).length ≤ _
  rw [onLast_len]; exact m.last_len
 ·exact Nat.le_succ _
end Go.Proofs.Ytdnjkffmgmbfmaa.Sy
namespace Go.Proofs.Ytdnjkffmgmbfmaa.Sy
open Go.RowKit Go.Proofs.Ytdnjkffmgmbfmaa.Bw Go.Proofs.Ytdnjkffmgmbfmaa.Bs
/-- What a maker has at most. -/
structure MB (n C : Nat) (m : Mk) : Prop where
 len : m.l.length ≤ n
 bnd : Bnd C m.l
 k0 : 0 ≤ m.keep
 k1 : m.keep ≤ (C : Int)
theorem MB.zero : MB 0 0 ⟨[], 0⟩ := ⟨Nat.le_refl _, fun _ hp => absurd hp List.not_mem_nil, Int.le_refl _, Int.le_refl _⟩
theorem MB.mono {n C n' C' : Nat} {m : Mk} (h : MB n C m) (hn : n ≤ n') (hC : C ≤ C') : MB n' C' m := ⟨Nat.le_trans h.len hn, fun p hp => by obtain ⟨a, b, c⟩ := h.bnd p hp; exact ⟨Nat.le_trans a hC, b, by omega⟩, h.k0, by have := h.k1; omega⟩
theorem Mk.last_keep (m : Mk) (h : 0 ≤ m.keep) : 0 ≤ m.last.keep ∧ m.last.keep ≤ m.keep := by
 unfold Mk.last
 split
 ·exact ⟨Int.le_refl _, h⟩
 ·exact ⟨h, Int.le_refl _⟩
theorem Mk.last_bnd {m : Mk} {C : Nat} (h : Bnd C m.l) : Bnd C m.last.l := fun p hp => ⟨last_puts (fun q hq => (h q hq).1) p hp, last_drops (by omega) (fun q hq => (h q hq).2) p hp⟩
theorem Mk.drop_len (m : Mk) (n : Int) : (m.drop n).l.length ≤ m.l.length + 1 := by
 unfold Mk.drop
 split
 ·show (onLast _ _).length ≤ _
  rw [onLast_len]; exact m.last_len
 ·exact Nat.le_succ _
theorem MB.piece {n C K : Nat} {m : Mk} (h : MB n C m) {p : Pc} (p1 : 0 ≤ p.keep) (p2 : p.keep ≤ (K : Int)) (_p3 : 0 ≤ p.drop) (p4 : p.drop ≤ (K : Int)) (hs : p.put.size ≤ K) : MB (n + 2) (C + K) (m.piece p) := by
 obtain ⟨h1, h2, h3, h4⟩ := h
 -- behind the put: still with the old drops
 have hput : Bnd (C + K) (Mk.put ⟨m.l, m.keep + p.keep⟩ p.put).l ∧ (∀ q ∈ (Mk.put ⟨m.l, m.keep + p.keep⟩ p.put).l, q.drop ≤ (C : Int)) ∧ 0 ≤ (Mk.put ⟨m.l, m.keep + p.keep⟩ p.put).keep ∧ (Mk.put ⟨m.l, m.keep + p.keep⟩ p.put).keep ≤ m.keep + p.keep := by
  unfold Mk.put
  split
  ·refine ⟨?_, ?_, ?_⟩
   ·have hb := Mk.last_bnd (m := ⟨m.l, m.keep + p.keep⟩) (C := C) h2
    intro q hq
    have := onLast_all (P := fun _ => True) (f := fun p' => { p' with put := p'.put ++ p.put }) (fun _ _ => trivial) _ (fun _ _ => trivial) q hq
    clear this
    have key : ∀ (l : List Pc), Bnd (C) l → Bnd (C + K) (onLast (fun p' => { p' with put := p'.put ++ p.put }) l) := by
     intro l
     induction l with
     | nil => intro _ q hq; exact absurd hq List.not_mem_nil
     | cons x r ih =>
      intro hl
      cases r with
      | nil =>
       intro q hq
       obtain rfl := List.mem_singleton.1 hq
       obtain ⟨a, b, c⟩ := hl x (List.mem_singleton.2 rfl)
       exact ⟨by show (x.put ++ p.put).size ≤ _; rw [ByteArray.size_append]; omega, b, by show x.drop ≤ _; omega⟩
      | cons y r =>
       intro q hq
       rcases List.mem_cons.1 hq with e | e
       ·rw [e]
        obtain ⟨a, b, c⟩ := hl x List.mem_cons_self
        exact ⟨by omega, b, by omega⟩
       ·exact ih (fun q hq => hl q (List.mem_cons_of_mem _ hq)) q e
    exact key _ hb q hq
   ·exact onLast_all (P := fun q => q.drop ≤ (C : Int)) (f := fun p' => { p' with put := p'.put ++ p.put }) (fun _ h => h) _ (fun q hq => ((Mk.last_bnd (m := ⟨m.l, m.keep + p.keep⟩) (C := C) h2) q hq).2.2)
   ·exact Mk.last_keep ⟨m.l, m.keep + p.keep⟩ (by show 0 ≤ m.keep + p.keep; omega)
  ·exact ⟨fun q hq => by obtain ⟨a, b, c⟩ := h2 q hq; exact ⟨by omega, b, by omega⟩, fun q hq => (h2 q hq).2.2, by show 0 ≤ m.keep + p.keep; omega, Int.le_refl _⟩
 obtain ⟨q1, q2, q3, q4⟩ := hput
 have hl1 := Mk.put_len ⟨m.l, m.keep + p.keep⟩ p.put
 have hl2 := Mk.drop_len (Mk.put ⟨m.l, m.keep + p.keep⟩ p.put) p.drop
 refine ⟨?_, ?_, ?_, ?_⟩
 ·show (Mk.drop (Mk.put ⟨m.l, m.keep + p.keep⟩ p.put) p.drop).l.length ≤ _
  simp only at hl1
  omega
 ·show Bnd _ (Mk.drop (Mk.put ⟨m.l, m.keep + p.keep⟩ p.put) p.drop).l
  generalize Mk.put ⟨m.l, m.keep + p.keep⟩ p.put = M at *
  unfold Mk.drop
  split
  ·intro q hq
   have hb : ∀ q ∈ M.last.l, q.put.size ≤ C + K ∧ 0 ≤ q.drop ∧ q.drop ≤ (C : Int) := fun q hq =>
    ⟨(Mk.last_bnd q1 q hq).1, last_drops (by omega) (fun q hq => ⟨(q1 q hq).2.1, q2 q hq⟩) q hq⟩
   have key : ∀ (l : List Pc), (∀ q ∈ l, q.put.size ≤ C + K ∧ 0 ≤ q.drop ∧ q.drop ≤ (C : Int)) → Bnd (C + K) (onLast (fun p' => { p' with drop := p'.drop + p.drop }) l) := by
    intro l
    induction l with
    | nil => intro _ q hq; exact absurd hq List.not_mem_nil
    | cons x r ih =>
     intro hl
     cases r with
     | nil =>
      intro q hq
      obtain rfl := List.mem_singleton.1 hq
      obtain ⟨a, b, c⟩ := hl x (List.mem_singleton.2 rfl)
      exact ⟨by show x.put.size ≤ _; omega, by show 0 ≤ x.drop + p.drop; omega, by show x.drop + p.drop ≤ _; omega⟩
     | cons y r =>
      intro q hq
      rcases List.mem_cons.1 hq with e | e
      ·rw [e]
       obtain ⟨a, b, c⟩ := hl x List.mem_cons_self
       exact ⟨by omega, b, by omega⟩
      ·exact ih (fun q hq => hl q (List.mem_cons_of_mem _ hq)) q e
   exact key _ hb q hq
  ·intro q hq
   obtain ⟨a, b, c⟩ := q1 q hq
   exact ⟨by omega, b, by omega⟩
 ·show 0 ≤ (Mk.drop (Mk.put ⟨m.l, m.keep + p.keep⟩ p.put) p.drop).keep
  unfold Mk.drop
  split
  ·exact (Mk.last_keep _ q3).1
  ·exact q3
 ·show (Mk.drop (Mk.put ⟨m.l, m.keep + p.keep⟩ p.put) p.drop).keep ≤ _
  unfold Mk.drop
  split
  ·exact Int.le_trans (Mk.last_keep _ q3).2 (by omega)
  ·exact Int.le_trans q4 (by omega)
theorem owns_mono {W : World} {base base' e size n : Nat} {v : Value} {xs : List Value} (h : W.ownsRow base e size v n xs) (hb : base' ≤ base) : W.ownsRow base' e size v n xs := by
 refine ⟨h.1, ?_⟩
 rcases h.2 with h2 | ⟨g, cap, cur, h1, h2, r⟩
 ·exact .inl h2
 ·exact .inr ⟨g, cap, cur, h1, Nat.le_trans hb h2, r⟩
end Go.Proofs.Ytdnjkffmgmbfmaa.Sy
