/- Chapter 10: LxPiece turned to this seat. (Printed by gsyport.py.) -/
import Derived.Test.YtkimbpeapolcbaaSyLxPut2
import Derived.StillTailTactics
namespace Go.Proofs.Ytkimbpeapolcbaa.Sy
open Go.RowKit Go.Proofs.Ytkimbpeapolcbaa.Bw Go.Proofs.Ytkimbpeapolcbaa.Bs

/-- Bounds of a maker's row. -/
def Bnd (C : Nat) (l : List Pc) : Prop := ∀ p ∈ l, p.put.size ≤ C ∧ 0 ≤ p.drop ∧ p.drop ≤ (C : Int)
theorem onLast_len (f : Pc → Pc) : ∀ l : List Pc, (onLast f l).length = l.length
  | [] => rfl
  | [_] => rfl
  | x :: y :: r => by
    show (onLast f (y :: r)).length + 1 = _
    rw [onLast_len f (y :: r)]; rfl
theorem onLast_all {P : Pc → Prop} {f : Pc → Pc} (hf : ∀ p, P p → P (f p)) : ∀ l : List Pc, (∀ p ∈ l, P p) → ∀ p ∈ onLast f l, P p
  | [], _ => fun p hp => absurd hp List.not_mem_nil
  | [x], h => fun p hp => by obtain rfl := List.mem_singleton.1 hp; exact hf x (h x (List.mem_singleton.2 rfl))
  | x :: y :: r, h => fun p hp => by
    rcases List.mem_cons.1 hp with h1 | h1
    · rw [h1]; exact h x List.mem_cons_self
    · exact onLast_all hf (y :: r) (fun q hq => h q (List.mem_cons_of_mem _ hq)) p h1
theorem Mk.last_len (m : Mk) : m.last.l.length ≤ m.l.length + 1 := by
  unfold Mk.last
  split
  · simp
  · simp
theorem Mk.put_len (m : Mk) (s : ByteArray) : (m.put s).l.length ≤ m.l.length + 1 := by
  unfold Mk.put
  split
  · show (onLast _ _).length ≤ _
    rw [onLast_len]; exact m.last_len
  · exact Nat.le_succ _
theorem put_drops {m : Mk} {C : Int} (s : ByteArray) (hC : 0 ≤ C) (h : ∀ p ∈ m.l, 0 ≤ p.drop ∧ p.drop ≤ C) : ∀ p ∈ (m.put s).l, 0 ≤ p.drop ∧ p.drop ≤ C := by
  unfold Mk.put
  split
  · exact onLast_all (P := fun p => 0 ≤ p.drop ∧ p.drop ≤ C) (f := fun p => { p with put := p.put ++ s }) (fun p hp => hp) _ (last_drops hC h)
  · exact h
set_option maxRecDepth 100000 in
set_option maxHeartbeats 2000000 in
theorem piece_any (m : Mk) (B base : Nat) (lv : Value) (p : Pc) (w : World) (h : MkAt w B base m lv) (hlen : m.l.length ≤ 100000) (hd : Bnd 1000000000000 m.l) (hs : p.put.size ≤ 1000000000000) (hn0 : p.drop ≤ 1000000000000) (hk : 0 ≤ m.keep ∧ m.keep ≤ 1000000000000) (hk2 : 0 ≤ p.keep ∧ p.keep ≤ 1000000000000) (hall : m.keep + p.keep ≤ 1000000000000) : Calls Try.prog 79 #[.pointer (some ⟨B, 0, none⟩), .agg #[.int .i64 p.keep, .int .i64 p.drop, .string p.put]] w fun e w' => ∃ lv', e = .returned (.tuple #[]) ∧ MkAt w' B base (m.piece p) lv' ∧ Fr w w' (fun k => k = B ∨ lv.ownBlock = some k) ∧ (∀ k, lv'.ownBlock = some k → lv.ownBlock = some k ∨ w.heap.size ≤ k) := by
  obtain ⟨hN, hO, hB, hbs⟩ := h
  have hlt : ∀ g, lv.ownBlock = some g → g < w.heap.size := fun g hg => (hO.lt g hg).2
  have c0 := hN.cell 0
  have c1 := hN.cell 1
  have f1 := hN.frozen 1
  go_enter Try.func79, Try.ntmps79
  go_wp2_with fail
  obtain ⟨w1, hw1⟩ : ∃ W, w.alloc (.cells #[.int .i64 p.keep, .int .i64 p.drop, .string p.put] 35) = W := ⟨_, rfl⟩
  have E1 : Ext w w1 := by rw [← hw1]; exact (Ext.refl w).alloc _
  have P1 : NBox w1 w.heap.size 35 #[.int .i64 p.keep, .int .i64 p.drop, .string p.put] := by rw [← hw1]; exact NBox.new w 35 _
  have N1 := NBox.ext E1 hN
  have O1 := owns_ext E1 hO
  have b1 := N1.cell 1
  have g1 := N1.frozen 1
  have p0 := P1.cell 0
  have p1 := P1.cell 1
  have p2 := P1.cell 2
  rw [hw1]
  clear hw1 c0 c1 f1 hN hO
  have wK : IntKind.i64.wrap (m.keep + p.keep) = m.keep + p.keep := by rw [IntKind.wrap_i64]; omega
  go_still_tail 9, (by kernel_rfl)
  change wpList _ _ _ _ _ w1.drew
  obtain ⟨w2, hw2⟩ : ∃ W, w1.drew = W := ⟨_, rfl⟩
  have E2 : Ext w w2 := by rw [← hw2]; exact E1.drew
  have hd2 : Ext w1 w2 := by rw [← hw2]; exact (Ext.refl w1).drew
  replace N1 := N1.ext hd2
  replace P1 := P1.ext hd2
  replace O1 := owns_ext hd2 O1
  have b1 := N1.cell 1
  have g1 := N1.frozen 1
  have p0 := P1.cell 0
  have p1 := P1.cell 1
  have p2 := P1.cell 2
  rw [hw2]
  clear hw2 hd2
  have hBB : ¬ w.heap.size = B := by omega
  go_wp2_with fail
  obtain ⟨w3, hw3⟩ : ∃ W, w2.setCell ⟨B, 1, none⟩ (.int .i64 (m.keep + p.keep)) = W := ⟨_, rfl⟩
  have F3 : Fr w w3 (fun k => k = B ∨ lv.ownBlock = some k) := (Fr.of_ext E2 _).trans (by rw [← hw3]; exact (Fr.setCell w2 B _ _).mono (fun k h => .inl h))
  have N3 : NBox w3 B 76 #[lv, .int .i64 (m.keep + p.keep)] := by rw [← hw3]; exact N1.set 1 _
  have f23 : Fr w2 w3 (fun k => k = B) := by rw [← hw3]; exact Fr.setCell w2 B _ _
  have O3 := owns_fr f23 O1 (fun g hg h0 => absurd (owns_base O1 g hg) (by omega))
  have P3 := P1.fr f23 (by omega)
  have s3 := f23.size
  have s2 := E2.size
  have hc := put_any ⟨m.l, m.keep + p.keep⟩ B base lv p.put w3 ⟨N3, O3, hB, by omega⟩ (by show m.l.length ≤ _; omega) (fun q hq => (hd q hq).1) hs
  have q2 := P3.cell 2
  rw [hw3]
  clear hw3 p0 p1 p2 b1 g1
  go_wp2_with fail
  go_at_call 58
  refine hc.mono ?_
  clear hc
  rintro e w4 ⟨lv4, rfl, ⟨N4, O4, hB4, hs4⟩, F4, G4⟩
  have P4 := P3.fr F4 (fun h0 => h0.elim hBB (fun h1 => Nat.lt_irrefl _ (hlt _ h1)))
  have hc := drop_any (Mk.put ⟨m.l, m.keep + p.keep⟩ p.put) B base lv4 p.drop w4 ⟨N4, O4, hB4, hs4⟩ (by have := Mk.put_len ⟨m.l, m.keep + p.keep⟩ p.put; simp only at this; omega) (put_drops p.put (by omega) (fun q hq => (hd q hq).2)) hn0
  have q1 := P4.cell 1
  have s4 := F4.size
  clear q2
  go_wp2_with fail
  go_at_call 62
  refine hc.mono ?_
  clear hc
  rintro e w5 ⟨lv5, rfl, M5, F5, G5⟩
  go_wp2_with fail
  refine bodyPost_end (results_none rfl _ _ _) rfl ?_
  refine ⟨lv5, rfl, M5, ?_, ?_⟩
  · refine Fr.new ((F3.trans F4).mono (fun k h => .inl h) |>.trans (F5.mono (fun k h => ?_)))
    rcases h with h | h
    · exact .inl (.inl h)
    · rcases G4 k h with h | h
      · exact .inl (.inr h)
      · exact .inr (by omega)
  · intro k h
    rcases G5 k h with h | h
    · rcases G4 k h with h | h
      · exact .inl h
      · exact .inr (by omega)
    · exact .inr (by omega)
end Go.Proofs.Ytkimbpeapolcbaa.Sy
