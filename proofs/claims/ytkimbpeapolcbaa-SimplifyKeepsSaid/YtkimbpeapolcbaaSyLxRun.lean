/- Chapter 10: LxRows turned to this seat. (Printed by gsyport.py.) -/
import Derived.Test.YtkimbpeapolcbaaSyLxLast
import Derived.StillTailTactics
namespace Go.Proofs.Ytkimbpeapolcbaa.Sy
open Go.RowKit Go.Proofs.Ytkimbpeapolcbaa.Bw Go.Proofs.Ytkimbpeapolcbaa.Bs

def rPutS : List Pc → ByteArray
 | [] => ⟨#[]⟩
 | p :: _ => if 0 < p.keep then ⟨#[]⟩ else p.put
def rPut : List Pc → List Pc
 | [] => []
 | p :: r => if 0 < p.keep then p :: r else { p with put := ⟨#[]⟩ } :: r
def rSkip : List Pc → List Pc
 | [] => []
 | p :: r => if 0 < p.keep ∨ 0 < p.drop then p :: r else rSkip r
def rN : List Pc → Int
 | [] => 0
 | p :: _ => if 0 < p.keep then p.keep else p.drop
def rD : List Pc → Bool
 | [] => false
 | p :: _ => if 0 < p.keep then false else true
def rTake (n : Int) : List Pc → List Pc
 | [] => []
 | p :: r => if 0 < p.keep then { p with keep := p.keep - n } :: r else { p with drop := p.drop - n } :: r
theorem rTake_len (n : Int) : ∀ l, (rTake n l).length = l.length
 | [] => rfl
 | p :: r => by simp only [rTake]; split <;> rfl
theorem rPut_len : ∀ l, (rPut l).length = l.length
 | [] => rfl
 | p :: r => by simp only [rPut]; split <;> rfl
theorem rSkip_len : ∀ l, (rSkip l).length ≤ l.length
 | [] => Nat.le_refl _
 | p :: r => by
  simp only [rSkip]
  split
  ·exact Nat.le_refl _
  ·exact Nat.le_succ_of_le (rSkip_len r)
/-- Bounds of a row. -/
def RB (C : Nat) (l : List Pc) : Prop := ∀ p ∈ l, 0 ≤ p.keep ∧ p.keep ≤ (C : Int) ∧ 0 ≤ p.drop ∧ p.drop ≤ (C : Int) ∧ p.put.size ≤ C
theorem RB.tail {C : Nat} {p : Pc} {l : List Pc} (h : RB C (p :: l)) : RB C l := fun q hq => h q (List.mem_cons_of_mem _ hq)
theorem RB.cons {C : Nat} {p : Pc} {l : List Pc} (hp : 0 ≤ p.keep ∧ p.keep ≤ (C : Int) ∧ 0 ≤ p.drop ∧ p.drop ≤ (C : Int) ∧ p.put.size ≤ C) (h : RB C l) : RB C (p :: l) := fun q hq => (List.mem_cons.1 hq).elim (fun e => e ▸ hp) (h q)
theorem RB.skip {C : Nat} : ∀ {l : List Pc}, RB C l → RB C (rSkip l)
 | [], h => h
 | p :: r, h => by
  simp only [rSkip]
  split
  ·exact h
  ·exact RB.skip h.tail
theorem RB.put {C : Nat} : ∀ {l : List Pc}, RB C l → RB C (rPut l)
 | [], h => h
 | p :: r, h => by
  simp only [rPut]
  split
  ·exact h
  ·obtain ⟨a, b, c, d, _⟩ := h p List.mem_cons_self
   exact RB.cons ⟨a, b, c, d, Nat.zero_le _⟩ h.tail
theorem RB.take {C : Nat} {n : Int} : ∀ {l : List Pc}, RB C l → 0 ≤ n → n ≤ rN l → RB C (rTake n l)
 | [], h, _, _ => h
 | p :: r, h, h0, hn => by
  obtain ⟨a, b, c, d, e⟩ := h p List.mem_cons_self
  simp only [rTake]
  simp only [rN] at hn
  split
  ·rename_i hk
   rw [if_pos hk] at hn
   exact RB.cons ⟨by show 0 ≤ p.keep - n; omega, by show p.keep - n ≤ _; omega, c, d, e⟩ h.tail
  ·rename_i hk
   rw [if_neg hk] at hn
   exact RB.cons ⟨a, b, by show 0 ≤ p.drop - n; omega, by show p.drop - n ≤ _; omega, e⟩ h.tail
theorem RB.n {C : Nat} : ∀ {l : List Pc}, RB C l → 0 ≤ rN l ∧ rN l ≤ (C : Int)
 | [], _ => ⟨Int.le_refl _, by show (0 : Int) ≤ _; omega⟩
 | p :: r, h => by
  obtain ⟨a, b, c, d, e⟩ := h p List.mem_cons_self
  simp only [rN]
  split
  ·exact ⟨a, b⟩
  ·exact ⟨c, d⟩
theorem RB.putS {C : Nat} : ∀ {l : List Pc}, RB C l → (rPutS l).size ≤ C
 | [], _ => Nat.zero_le _
 | p :: r, h => by
  obtain ⟨a, b, c, d, e⟩ := h p List.mem_cons_self
  simp only [rPutS]
  split
  ·exact Nat.zero_le _
  ·exact e
/-- Behind the skip a row is empty, or something comes next. -/
theorem rSkip_cases : ∀ l : List Pc, rSkip l = [] ∨ ∃ p r, rSkip l = p :: r ∧ (0 < p.keep ∨ 0 < p.drop)
 | [] => .inl rfl
 | p :: r => by
  simp only [rSkip]
  split
  ·rename_i h; exact .inr ⟨p, r, rfl, h⟩
  ·exact rSkip_cases r
theorem rdPcs_blk {W W' : World} {g : Nat} (h : W'.heap[g]? = W.heap[g]?) : ∀ {off : Nat} {l : List Pc}, rdPcs W g off l → rdPcs W' g off l
 | _, [], _ => trivial
 | _, _ :: _, ⟨h1, h2, h3, h4, h5⟩ => by
  have e : ∀ i, W'.cell? ⟨g, i, none⟩ = W.cell? ⟨g, i, none⟩ := fun i => by simp [World.cell?, h]
  exact ⟨(e _).trans h1, (e _).trans h2, (e _).trans h3, h4, rdPcs_blk h h5⟩
theorem cell_setCell_ne {W : World} {g i j : Nat} {u : Value} (h : i ≠ j) : (W.setCell ⟨g, j, none⟩ u).cell? ⟨g, i, none⟩ = W.cell? ⟨g, i, none⟩ := by
 cases hb : W.heap[g]? with
 | none => simp [World.cell?, World.setCell, Array.getElem?_modify, hb]
 | some b =>
  cases b <;> simp [World.cell?, World.setCell, Array.getElem?_modify, hb, Ne.symm h]
theorem rdPcs_set {W : World} {g j : Nat} {u : Value} : ∀ {off : Nat} {l : List Pc}, rdPcs W g off l → j < off → rdPcs (W.setCell ⟨g, j, none⟩ u) g off l
 | _, [], _, _ => trivial
 | _, _ :: _, ⟨h1, h2, h3, h4, h5⟩, h => ⟨(cell_setCell_ne (by omega)).trans h1, (cell_setCell_ne (by omega)).trans h2, (cell_setCell_ne (by omega)).trans h3, h4, rdPcs_set h5 (by omega)⟩
theorem NBox.cell_set {W : World} {g : Nat} {t : TypeId} {cs : Array Value} (h : NBox W g t cs) {i : Nat} {x : Value} (hx : W.cell? ⟨g, i, none⟩ = some x) (u : Value) : (W.setCell ⟨g, i, none⟩ u).cell? ⟨g, i, none⟩ = some u := by
 rw [(h.set i u).cell]
 rw [h.cell] at hx
 have := (Array.getElem?_eq_some_iff.1 hx).1
 simp [this]
/-- A slice value that reads as a row, in a block that may be written. -/
def RowV (W : World) (G : Option Nat) (l : List Pc) (v : Value) : Prop :=
 ∃ A c, v = .slice A l.length c ∧ l.length ≤ c ∧ c ≤ maxLen ∧ (0 < l.length → ∃ g off cur, G = some g ∧ A = some ⟨g, off, none⟩ ∧ NBox W g 35 cur ∧ rdPcs W g off l)
/-- A variable that holds such a row. -/
def RowAt (W : World) (B : Nat) (G : Option Nat) (l : List Pc) : Prop := ∃ v, NBox W B 74 #[v] ∧ RowV W G l v
theorem RowV.fr {A B : World} {S : Nat → Prop} (k : Fr A B S) {G : Option Nat} {l : List Pc} {v : Value} (h : RowV A G l v) (hs : ∀ g, G = some g → ¬ S g) : RowV B G l v := by
 obtain ⟨a, c, e, h1, h2, h3⟩ := h
 refine ⟨a, c, e, h1, h2, fun h0 => ?_⟩
 obtain ⟨g, off, cur, hg, ha, hN, hr⟩ := h3 h0
 exact ⟨g, off, cur, hg, ha, hN.fr k (hs g hg), rdPcs_blk (k.block g hN.lt (hs g hg)) hr⟩
theorem RowAt.fr {A W : World} {S : Nat → Prop} (k : Fr A W S) {B : Nat} {G : Option Nat} {l : List Pc} (h : RowAt A B G l) (hB : ¬ S B) (hs : ∀ g, G = some g → ¬ S g) : RowAt W B G l := by
 obtain ⟨v, hN, hv⟩ := h
 exact ⟨v, hN.fr k hB, hv.fr k hs⟩
theorem RowV.rd {W : World} {G : Option Nat} {l : List Pc} {v : Value} (h : RowV W G l v) : RdP W l v := by
 obtain ⟨a, c, e, h1, h2, h3⟩ := h
 refine ⟨a, c, e, h1, h2, fun h0 => ?_⟩
 obtain ⟨g, off, cur, hg, ha, hN, hr⟩ := h3 h0
 exact ⟨g, off, ha, hr⟩
theorem rdPcs_cell {W : World} {g : Nat} : ∀ {l : List Pc} {off i : Nat} {x : Value}, rdPcs W g off l → (pcVals l)[i]? = some x → W.cell? ⟨g, off + i, none⟩ = some x
 | [], _, _, _, _, h => by simp [pcVals] at h
 | p :: r, off, i, x, ⟨h1, h2, h3, _, h5⟩, h => by
  have e : pcVals (p :: r) = .int .i64 p.keep :: .int .i64 p.drop :: .string p.put :: pcVals r := rfl
  rw [e] at h
  match i, h with
  | 0, h => simp at h; rw [← h]; exact h1
  | 1, h => simp at h; rw [← h]; exact h2
  | 2, h => simp at h; rw [← h]; exact h3
  | i + 3, h =>
   have := rdPcs_cell (i := i) h5 (by simpa using h)
   rw [show off + (i + 3) = off + 3 + i by omega]
   exact this
end Go.Proofs.Ytkimbpeapolcbaa.Sy
namespace Go.Proofs.Ytkimbpeapolcbaa.Sy
open Go.RowKit Go.Proofs.Ytkimbpeapolcbaa.Bw Go.Proofs.Ytkimbpeapolcbaa.Bs

theorem str_none {s : ByteArray} (h : s.size = 0) : s = ⟨#[]⟩ := by
 obtain ⟨d⟩ := s
 congr
 exact Array.eq_empty_of_size_eq_zero h
theorem rdPcs_put {W : World} {g off : Nat} {cur : Array Value} {p : Pc} {r : List Pc} (hN : NBox W g 35 cur) (h : rdPcs W g off (p :: r)) (s : ByteArray) (hs : okStr s) : rdPcs (W.setCell ⟨g, off + 2, none⟩ (.string s)) g off ({ p with put := s } :: r) := by
 obtain ⟨h1, h2, h3, h4, h5⟩ := h
 exact ⟨(cell_setCell_ne (by omega)).trans h1, (cell_setCell_ne (by omega)).trans h2, hN.cell_set h3 _, hs, rdPcs_set h5 (by omega)⟩
theorem rdPcs_keep {W : World} {g off : Nat} {cur : Array Value} {p : Pc} {r : List Pc} (hN : NBox W g 35 cur) (h : rdPcs W g off (p :: r)) (n : Int) : rdPcs (W.setCell ⟨g, off, none⟩ (.int .i64 n)) g off ({ p with keep := n } :: r) := by
 obtain ⟨h1, h2, h3, h4, h5⟩ := h
 exact ⟨hN.cell_set h1 _, (cell_setCell_ne (by omega)).trans h2, (cell_setCell_ne (by omega)).trans h3, h4, rdPcs_set h5 (by omega)⟩
theorem rdPcs_drop {W : World} {g off : Nat} {cur : Array Value} {p : Pc} {r : List Pc} (hN : NBox W g 35 cur) (h : rdPcs W g off (p :: r)) (n : Int) : rdPcs (W.setCell ⟨g, off + 1, none⟩ (.int .i64 n)) g off ({ p with drop := n } :: r) := by
 obtain ⟨h1, h2, h3, h4, h5⟩ := h
 exact ⟨(cell_setCell_ne (by omega)).trans h1, hN.cell_set h2 _, (cell_setCell_ne (by omega)).trans h3, h4, rdPcs_set h5 (by omega)⟩
set_option maxRecDepth 100000 in
set_option maxHeartbeats 2000000 in
theorem rput_any (G : Option Nat) (l : List Pc) (v : Value) (w : World) (h : RowV w G l v) : Calls Try.prog 57 #[v] w fun e w' => e = .returned (.tuple #[.string (rPutS l), .bool (decide (0 < (rPutS l).size))]) ∧ RowV w' G (rPut l) v ∧ Fr w w' (fun k => G = some k) := by
 have h0 := h
 obtain ⟨A, c, rfl, a1, a2, a3⟩ := h
 unfold maxLen at a2
 cases l with
 | nil =>
  have t1 : (((([] : List Pc).length : Nat) : Int) == 0) = true := by simp
  clear a3
  go_enter Try.func57, Try.ntmps57
  go_wp2_with fail
  go_ret2
  exact ⟨rfl, h0, Fr.refl _ _⟩
 | cons p r =>
  have t1 : ((((p :: r : List Pc).length : Nat) : Int) == 0) = false := by simp; omega
  obtain ⟨g, off, cur, rfl, rfl, hN, hr⟩ := a3 (by simp)
  have hr0 := hr
  obtain ⟨c0, c1, c2, c3, c4⟩ := hr
  have q1 : (0 : Int) < (((p :: r : List Pc).length : Nat) : Int) := by simp only [List.length_cons]; omega
  have q2 : 0 < (p :: r : List Pc).length := by simp
  have fz := hN.frozen (off + 2)
  rcases Int.lt_or_le 0 p.keep with hk | hk
  ·have t2 : decide (0 < p.keep) = true := decide_eq_true hk
   have e1 : rPutS (p :: r) = ⟨#[]⟩ := if_pos hk
   have e2 : rPut (p :: r) = p :: r := if_pos hk
   rw [e1, e2]
   clear e1 e2
   go_enter Try.func57, Try.ntmps57
   go_wp2_with fail
   go_ret2
   exact ⟨rfl, h0, Fr.refl _ _⟩
  ·have t2 : decide (0 < p.keep) = false := decide_eq_false (by omega)
   have e1 : rPutS (p :: r) = p.put := if_neg (by omega)
   have e2 : rPut (p :: r) = { p with put := ⟨#[]⟩ } :: r := if_neg (by omega)
   rw [e1, e2]
   clear e1 e2
   rcases Nat.eq_zero_or_pos p.put.size with hn | hn
   ·have hl := str_empty hn
    have e3 := str_none hn
    have e4 : p = { p with put := ⟨#[]⟩ } := by
     obtain ⟨a, b, d⟩ := p
     simp only at e3
     rw [e3]
    have E3 := Lib.hid e3
    have E4 := Lib.hid e4
    clear e3 e4
    go_enter Try.func57, Try.ntmps57
    go_wp2_with fail
    go_ret2
    rw [← E4.out]
    exact ⟨by rw [E3.out]; rfl, h0, Fr.refl _ _⟩
   ·have hl := str_some hn
    have t5 : decide (0 < p.put.size) = true := decide_eq_true hn
    go_enter Try.func57, Try.ntmps57
    go_wp2_with fail
    go_ret2
    refine ⟨by rw [t5]; rfl, ?_, (Fr.setCell _ _ _ _).mono (fun k hk => by rw [hk])⟩
    exact ⟨_, c, rfl, a1, by unfold maxLen; exact a2, fun _ => ⟨g, off, _, rfl, rfl, hN.set _ _, rdPcs_put hN hr0 _ (by unfold okStr; decide)⟩⟩
set_option maxRecDepth 100000 in
set_option maxHeartbeats 2000000 in
theorem take_any (C : Nat) (hC : C ≤ 1000000000000) (G : Option Nat) (l : List Pc) (v : Value) (n : Int) (w : World) (h : RowV w G l v) (hB : RB C l) (h0 : 0 ≤ n) (hn : n ≤ (C : Int)) : Calls Try.prog 60 #[v, .int .i64 n] w fun e w' => e = .returned (.tuple #[]) ∧ RowV w' G (rTake n l) v ∧ Fr w w' (fun k => G = some k) := by
 have h00 := h
 obtain ⟨A, c, rfl, a1, a2, a3⟩ := h
 unfold maxLen at a2
 cases l with
 | nil =>
  have t1 : (((([] : List Pc).length : Nat) : Int) == 0) = true := by simp
  clear a3
  go_enter Try.func60, Try.ntmps60
  go_wp2_with fail
  refine bodyPost_ret (results_none rfl _ _ _) rfl ?_
  exact ⟨rfl, h00, Fr.refl _ _⟩
 | cons p r =>
  have t1 : ((((p :: r : List Pc).length : Nat) : Int) == 0) = false := by simp; omega
  obtain ⟨g, off, cur, rfl, rfl, hN, hr⟩ := a3 (by simp)
  have hr0 := hr
  obtain ⟨c0, c1, c2, c3, c4⟩ := hr
  have q1 : (0 : Int) < (((p :: r : List Pc).length : Nat) : Int) := by simp only [List.length_cons]; omega
  have q2 : 0 < (p :: r : List Pc).length := by simp
  have fz := hN.frozen off
  have fz1 := hN.frozen (off + 1)
  obtain ⟨b1, b2, b3, b4, b5⟩ := hB p List.mem_cons_self
  clear hB
  rcases Int.lt_or_le 0 p.keep with hk | hk
  ·have t2 : decide (0 < p.keep) = true := decide_eq_true hk
   have e1 : rTake n (p :: r) = { p with keep := p.keep - n } :: r := if_pos hk
   rw [e1]
   clear e1
   go_enter Try.func60, Try.ntmps60
   go_wp2_with fail
   refine bodyPost_end (results_none rfl _ _ _) rfl ?_
   refine ⟨rfl, ?_, (Fr.setCell _ _ _ _).mono (fun k hk => by rw [hk])⟩
   exact ⟨_, c, rfl, a1, by unfold maxLen; exact a2, fun _ => ⟨g, off, _, rfl, rfl, hN.set _ _, rdPcs_keep hN hr0 _⟩⟩
  ·have t2 : decide (0 < p.keep) = false := decide_eq_false (by omega)
   have e1 : rTake n (p :: r) = { p with drop := p.drop - n } :: r := if_neg (by omega)
   rw [e1]
   clear e1
   go_enter Try.func60, Try.ntmps60
   go_wp2_with fail
   refine bodyPost_end (results_none rfl _ _ _) rfl ?_
   refine ⟨rfl, ?_, (Fr.setCell _ _ _ _).mono (fun k hk => by rw [hk])⟩
   exact ⟨_, c, rfl, a1, by unfold maxLen; exact a2, fun _ => ⟨g, off, _, rfl, rfl, hN.set _ _, rdPcs_drop hN hr0 _⟩⟩
/-- How long the slice is that a variable holds. -/
def sliceLen (w : World) (B : Nat) : Nat := match w.cell? ⟨B, 0, none⟩ with
 | some (.slice _ n _) => n
 | _ => 0
theorem sliceLen_of {w : World} {B : Nat} {A : Option Addr} {n c : Nat} (h : NBox w B 74 #[.slice A n c]) : sliceLen w B = n := by
 unfold sliceLen
 rw [h.cell]
 rfl
set_option maxRecDepth 100000 in
set_option maxHeartbeats 2000000 in
theorem run_any (B : Nat) (G : Option Nat) (l : List Pc) (w : World) (h : RowAt w B G l) (hG : G ≠ some B) : Calls Try.prog 59 #[.pointer (some ⟨B, 0, none⟩)] w fun e w' => e = .returned (.tuple #[.int .i64 (rN (rSkip l)), .bool (rD (rSkip l)), .bool (decide (0 < (rSkip l).length))]) ∧ RowAt w' B G (rSkip l) ∧ Fr w w' (fun k => k = B) := by
 go_enter Try.func59, Try.ntmps59
 go_wp2_with fail
 have HE : Hid (rSkip l = rSkip l) := Lib.hid rfl
 go_loopw [] (fun wr => ∃ r, RowAt wr B G r ∧ Hid (rSkip r = rSkip l) ∧ Fr w wr (fun k => k = B)) (fun wr => sliceLen wr B)
 case atStart => exact ⟨l, h, Lib.hid rfl, Fr.refl _ _⟩
 case round =>
  obtain ⟨r, hR, HR, hF⟩ := hrel
  have hR0 := hR
  obtain ⟨v, hN, hV⟩ := hR
  obtain ⟨A, c, rfl, a1, a2, a3⟩ := hV
  have c0 := hN.cell 0
  unfold maxLen at a2
  cases r with
  | nil =>
   clear a3
   have t1 : decide ((0 : Int) < ((([] : List Pc).length : Nat) : Int)) = false := by simp
   go_wp2_with fail
   go_ret3
   rw [← HR.out]
   exact ⟨rfl, hR0, hF⟩
  | cons p r =>
   have t1 : decide ((0 : Int) < (((p :: r : List Pc).length : Nat) : Int)) = true := decide_eq_true (by simp only [List.length_cons]; omega)
   obtain ⟨g, off, cur, rfl, rfl, hG0, hr⟩ := a3 (by simp)
   have hr0 := hr
   obtain ⟨d0, d1, d2, d3, d4⟩ := hr
   have q1 : (0 : Int) < (((p :: r : List Pc).length : Nat) : Int) := by simp only [List.length_cons]; omega
   have q2 : 0 < (p :: r : List Pc).length := by simp
   have q3 : 1 ≤ (p :: r : List Pc).length := by simp
   have fz := hN.frozen 0
   rcases Int.lt_or_le 0 p.keep with hk | hk
   ·have t2 : decide (0 < p.keep) = true := decide_eq_true hk
    have e1 : rSkip (p :: r) = p :: r := if_pos (.inl hk)
    go_wp2_with fail
    go_ret3
    rw [← HR.out, e1]
    have f1 : Fr wr (wr.alloc (.cells #[.int .i64 p.keep, .int .i64 p.drop, .string p.put] 35)) (fun _ => False) := Fr.of_ext ((Ext.refl wr).alloc _) _
    refine ⟨?_, hR0.fr f1 (by simp) (by simp), hF.trans (f1.mono (fun k h => h.elim))⟩
    have x1 : rN (p :: r) = p.keep := if_pos hk
    have x2 : rD (p :: r) = false := if_pos hk
    have x3 : decide (0 < (p :: r).length) = true := by simp
    rw [x1, x2, x3]
    rfl
   ·have t2 : decide (0 < p.keep) = false := decide_eq_false (by omega)
    rcases Int.lt_or_le 0 p.drop with hd | hd
    ·have t3 : decide (0 < p.drop) = true := decide_eq_true hd
     have e1 : rSkip (p :: r) = p :: r := if_pos (.inr hd)
     go_wp2_with fail
     go_ret3
     rw [← HR.out, e1]
     have f1 : Fr wr (wr.alloc (.cells #[.int .i64 p.keep, .int .i64 p.drop, .string p.put] 35)) (fun _ => False) := Fr.of_ext ((Ext.refl wr).alloc _) _
     refine ⟨?_, hR0.fr f1 (by simp) (by simp), hF.trans (f1.mono (fun k h => h.elim))⟩
     have x1 : rN (p :: r) = p.drop := if_neg (by omega)
     have x2 : rD (p :: r) = true := if_neg (by omega)
     have x3 : decide (0 < (p :: r).length) = true := by simp
     rw [x1, x2, x3]
     rfl
    ·have t3 : decide (0 < p.drop) = false := decide_eq_false (by omega)
     have e1 : rSkip (p :: r) = rSkip r := if_neg (by omega)
     have HR2 : Hid (rSkip r = rSkip l) := Lib.hid (e1.symm.trans HR.out)
     have h3 : (p :: r).length = r.length + 1 := rfl
     have lt := hN.lt
     clear e1 HR
     go_wp2_with fail
     go_roundw
     case rel =>
      obtain ⟨A', hA'⟩ : ∃ A', (if c = 1 then some ⟨g, off, none⟩ else some ⟨g, off + 3, none⟩ : Option Addr) = A' := ⟨_, rfl⟩
      rw [hA']
      obtain ⟨w2, hw2⟩ : ∃ W, wr.setCell ⟨B, 0, none⟩ (.slice A' r.length (c - 1)) = W := ⟨_, rfl⟩
      have f1 : Fr wr w2 (fun k => k = B) := by rw [← hw2]; exact Fr.setCell _ _ _ _
      have f2 : Fr w2 (w2.alloc (.cells #[.int .i64 p.keep, .int .i64 p.drop, .string p.put] 35)) (fun _ => False) := Fr.of_ext ((Ext.refl w2).alloc _) _
      have n1 : NBox w2 B 74 #[.slice A' r.length (c - 1)] := by rw [← hw2]; exact hN.set 0 _
      rw [hw2]
      have hgB : g ≠ B := fun e => hG (by rw [e])
      have r1 : RowAt w2 B (some g) r := ⟨_, n1, A', c - 1, rfl, by omega, by unfold maxLen; omega, fun h0 => ⟨g, off + 3, cur, rfl, by rw [← hA', if_neg (by omega)], hG0.fr f1 hgB, rdPcs_blk (f1.block g hG0.lt hgB) d4⟩⟩
      exact ⟨r, r1.fr f2 (by simp) (by simp), HR2, (hF.trans f1).trans (f2.mono (fun k h => h.elim))⟩
     case measure =>
      rw [sliceLen_of hN]
      have n1 := hN.set 0 (.slice (if c = 1 then some ⟨g, off, none⟩ else some ⟨g, off + 3, none⟩) r.length (c - 1))
      have n2 := n1.ext ((Ext.refl _).alloc (.cells #[.int .i64 p.keep, .int .i64 p.drop, .string p.put] 35))
      have e := sliceLen_of n2
      exact Nat.lt_of_le_of_lt (Nat.le_of_eq e) (Nat.lt_succ_self r.length)
set_option maxRecDepth 100000 in
set_option maxHeartbeats 2000000 in
theorem left_any (G : Option Nat) (l : List Pc) (v : Value) (w : World) (h : RowV w G l v) (hG : ∀ g, G = some g → g < w.heap.size) : Calls Try.prog 61 #[v] w fun e w' => e = .returned (.int .i64 (rN (rSkip l))) ∧ Ext w w' := by
 obtain ⟨A, c, rfl, _⟩ := id h
 go_enter Try.func61, Try.ntmps61
 go_wp2_with fail
 obtain ⟨w1, hw1⟩ : ∃ W, w.alloc (.cells #[.slice A l.length c] 74) = W := ⟨_, rfl⟩
 have E1 : Ext w w1 := by rw [← hw1]; exact (Ext.refl w).alloc _
 have N1 : NBox w1 w.heap.size 74 #[.slice A l.length c] := by rw [← hw1]; exact NBox.new w 74 _
 rw [hw1]
 clear hw1
 refine (run_any w.heap.size G l w1 ⟨_, N1, h.fr (Fr.of_ext E1 (fun _ => False)) (by simp)⟩ (fun e => Nat.lt_irrefl _ (hG _ e))).mono ?_
 rintro e w2 ⟨rfl, R2, F2⟩
 go_wp2_with fail
 go_ret
 exact ⟨rfl, F2.ext E1 (fun k hk => by omega)⟩
end Go.Proofs.Ytkimbpeapolcbaa.Sy
