/- Chapter 10: LxRNorm2 turned to this seat. (Printed by gsyport.py.) -/
import Derived.Test.YtkimbpeapolcbaaSyLxApply
namespace Go.Proofs.Ytkimbpeapolcbaa.Sy
open Go.RowKit Go.Proofs.Ytkimbpeapolcbaa.Bw Go.Proofs.Ytkimbpeapolcbaa.Bs

theorem lt_of_cell {W : World} {b i : Nat} {u : Value} (h : W.cell? ⟨b, i, none⟩ = some u) : b < W.heap.size := by
  rcases Nat.lt_or_ge b W.heap.size with h1 | h1
  · exact h1
  · simp [World.cell?, Array.getElem?_eq_none h1] at h
theorem Fr.cell {W W' : World} {S : Nat → Prop} {b i : Nat} {u : Value} (F : Fr W W' S) (hb : ¬ S b) (h : W.cell? ⟨b, i, none⟩ = some u) : W'.cell? ⟨b, i, none⟩ = some u := by
  have e := F.block b (lt_of_cell h) hb
  have : W'.cell? ⟨b, i, none⟩ = W.cell? ⟨b, i, none⟩ := by simp [World.cell?, e]
  rw [this]; exact h
set_option maxRecDepth 100000 in
set_option maxHeartbeats 4000000 in
theorem normR_any (l : List Pc) (v : Value) (w : World) (h : RdP w l v) (nn : Nn l) (hw : wt l ≤ 100000000000) (hlen : l.length ≤ 100000) : Calls Try.prog 53 #[v] w fun e w' => ∃ v', e = .returned v' ∧ w'.ownsRow w.heap.size 35 3 v' (normL l).length (pcVals (normL l)) ∧ Ext w w' := by
  obtain ⟨A, c, rfl, a1, a2, a3⟩ := h
  unfold maxLen at a2
  go_enter Try.func53, Try.ntmps53
  go_wp2_with fail
  go_loopw [3, 4, 5] (fun s3 s4 s5 wr => ∃ (i : Nat) (m : Mk), s4 = .int .i64 m.keep ∧ s5 = .int .i64 i ∧ i ≤ l.length ∧ wr.ownsRow w.heap.size 35 3 s3 m.l.length (pcVals m.l) ∧ NnM m ∧ wtM m + wt (l.drop i) ≤ 100000000000 ∧ m.l.length ≤ 2 * i ∧ Hid (m.pieces (l.drop i) = Mk.pieces ⟨[], 0⟩ l) ∧ Ext w wr) (fun _ _ i _ => l.length - (intOf i).toNat)
  case atStart => exact ⟨0, ⟨[], 0⟩, rfl, rfl, Nat.zero_le _, ⟨rfl, .inl ⟨rfl, rfl⟩⟩, NnM.zero, by rw [show wtM ⟨[], 0⟩ = 0 from rfl, List.drop_zero]; omega, Nat.le_refl _, Lib.hid rfl, Ext.refl w⟩
  case round =>
    obtain ⟨i, m, rfl, rfl, hi, hO, nm, hwt, hml, HW, hE⟩ := hrel
    rcases Nat.lt_or_ge i l.length with hlt | hlt
    · obtain ⟨p, hp⟩ : ∃ p, l[i]? = some p := ⟨_, List.getElem?_eq_getElem hlt⟩
      obtain ⟨ba, oa, rfl, ra⟩ := a3 (by omega)
      obtain ⟨e1, e2, e3, e4⟩ := rdPcs_at (rdPcs_ext hE ra) hp
      have hba : ba < w.heap.size := lt_of_cell (rdPcs_at ra hp).1
      obtain ⟨k1, k2⟩ := nn.at hp
      have q1 : (0 : Int) ≤ (i : Int) := by omega
      have q2 : (i : Int) < (l.length : Int) := by omega
      have HT := wt_at hp
      have z2 := wt_nn (nn.drop (i + 1))
      have z3 := wt_nn nm.1
      have z4 := nm.2
      have nm2 : NnM (m.piece p) := nm.piece k1
      have hw2 : wtM (m.piece p) + wt (l.drop (i + 1)) ≤ 100000000000 := by rw [wtM_piece _ k2]; omega
      have hl2 := m.piece_len p
      have hl3 : (m.piece p).l.length ≤ 2 * (i + 1) := by omega
      have HD : Hid ((m.piece p).pieces (l.drop (i + 1)) = Mk.pieces ⟨[], 0⟩ l) := Lib.hid ((pieces_at m hp).symm.trans HW.out)
      have HR := Lib.hid (piece_ref m p nm.2 k1 k2)
      have bK : m.keep + p.keep ≤ 1000000000000 := by unfold wtM at hwt; omega
      have bM := MB.of_wt (n := 900000) (C := 1000000000000) nm (by unfold wtM at hwt ⊢; omega) (by omega)
      have bD : p.drop ≤ 1000000000000 := by unfold wtM at hwt; omega
      have bS : p.put.size ≤ 1000000000000 := by unfold wtM at hwt; omega
      unfold maxLen at e4
      clear hp ra a3 HW HT z2 z3 hw hwt hl2
      by_cases hA : p.put.size = 0 ∧ p.drop = 0
      · have hl := str_empty hA.1
        have td : (p.drop == 0) = true := by simp [hA.2]
        have hr := HR.out
        rw [if_pos hA] at hr
        have HR2 := Lib.hid hr
        clear hr HR hA
        go_wp2_with fail
        go_roundw
        case rel => exact ⟨i + 1, m.piece p, by rw [HR2.out]; rfl, by go_num, by omega, by rw [HR2.out]; exact hO, nm2, hw2, hl3, HD, hE⟩
        case measure => simp [intOf]; omega
      · by_cases hB : m.keep + p.keep = 0 ∧ m.l ≠ []
        · rcases Nat.eq_zero_or_pos p.put.size with hs | hs
          · have hl := str_empty hs
            have td : (p.drop == 0) = false := by
              rw [beq_eq_false_iff_ne]; exact fun h => hA ⟨hs, h⟩
            obtain ⟨hB1, hB2⟩ := hB
            obtain ⟨l', q, hlq⟩ : ∃ l' q, m.l = l' ++ [q] := ⟨_, _, (List.dropLast_concat_getLast hB2).symm⟩
            have hr := HR.out
            rw [if_neg hA, if_pos ⟨hB1, hB2⟩, hlq, onLast_snoc] at hr
            have HR2 := Lib.hid hr
            have hll : m.l.length = l'.length + 1 := by rw [hlq]; simp
            rw [hll, hlq] at hO
            obtain ⟨g, cap, rfl, hgb, hgl⟩ := World.ownsRow.form hO (by omega)
            obtain ⟨c0, f0⟩ := owns_cell3 hO (i := l'.length * 3) (u := .int .i64 q.keep) (by rw [pcVals_append, List.getElem?_append_right (by rw [pcVals_len]; omega), pcVals_len, Nat.sub_self]; rfl)
            obtain ⟨c1, f1⟩ := owns_cell3 hO (i := l'.length * 3 + 1) (u := .int .i64 q.drop) (by rw [vals_last _ _ _ (by omega)]; rfl)
            obtain ⟨c2, f2⟩ := owns_cell3 hO (i := l'.length * 3 + 2) (u := .string q.put) (by rw [vals_last _ _ _ (by omega)]; rfl)
            have tK : (m.keep + p.keep == 0) = true := by rw [hB1]; rfl
            have tL : decide ((0 : Int) < ((l'.length + 1 : Nat) : Int)) = true := decide_eq_true (by omega)
            have r1 : (0 : Int) ≤ (l'.length : Int) := by omega
            have r2 : (l'.length : Int) < ((l'.length + 1 : Nat) : Int) := by omega
            have r3 : l'.length ≤ 1000000 := by omega
            have bq := bM.bnd q (by rw [hlq]; simp)
            have jj1 : ¬ (9223372036854775807 < q.put.size + p.put.size) := by omega
            have jj2 : ¬ (9223372036854775807 < q.put.size) := by omega
            have jj3 : IntKind.i64.wrap (q.drop + p.drop) = q.drop + p.drop := by rw [IntKind.wrap_i64]; omega
            have HKZ := Lib.hid hB1
            clear hr HR hA hB1 hB2 hlq hll
            go_wp2_with fail
            obtain ⟨bb, hbb⟩ : ∃ b, wr.heap.size = b := ⟨_, rfl⟩
            obtain ⟨w1, hw1⟩ : ∃ W, wr.alloc (.cells #[.int .i64 q.keep, .int .i64 q.drop, .string q.put] 35) = W := ⟨_, rfl⟩
            have X1 : Ext wr w1 := by rw [← hw1]; exact (Ext.refl wr).alloc _
            have P1 : NBox w1 bb 35 #[.int .i64 q.keep, .int .i64 q.drop, .string q.put] := by rw [← hw1, ← hbb]; exact NBox.new _ _ _
            have hgb' : g < bb := by rw [← hbb]; exact (hO.lt g rfl).2
            have hab : ba < bb := by rw [← hbb]; exact lt_of_cell e1
            have hwb : w.heap.size ≤ bb := by rw [← hbb]; exact hE.size
            have O1 := owns_ext X1 hO
            have E1 := hE.trans X1
            replace e1 := X1.cell e1
            replace e2 := X1.cell e2
            replace e3 := X1.cell e3
            have p0 := P1.cell 0
            have p1 := P1.cell 1
            have p2 := P1.cell 2
            have f2' := P1.frozen 2
            rw [hw1, hbb]
            clear hw1 hbb hO hE X1 c0 c1 c2 f0 f1 f2
            go_still_tail 9, (by kernel_rfl)
            change wpList _ _ _ _ _ w1.drew
            obtain ⟨w2, hw2⟩ : ∃ W, w1.drew = W := ⟨_, rfl⟩
            have X2 : Ext w1 w2 := by rw [← hw2]; exact (Ext.refl w1).drew
            replace P1 := P1.ext X2
            replace O1 := owns_ext X2 O1
            replace E1 := E1.trans X2
            replace e1 := X2.cell e1
            replace e2 := X2.cell e2
            replace e3 := X2.cell e3
            have p0 := P1.cell 0
            have p1 := P1.cell 1
            have p2 := P1.cell 2
            have f2' := P1.frozen 2
            rw [hw2]
            clear hw2 X2
            go_wp2_with fail
            obtain ⟨w3, hw3⟩ : ∃ W, w2.setCell ⟨bb, 2, none⟩ (.string (q.put ++ p.put)) = W := ⟨_, rfl⟩
            have F3 : Fr w2 w3 (fun k => k = bb) := by rw [← hw3]; exact Fr.setCell _ _ _ _
            have P3 : NBox w3 bb 35 #[.int .i64 q.keep, .int .i64 q.drop, .string (q.put ++ p.put)] := by rw [← hw3]; exact P1.set 2 _
            have O3 := owns_fr F3 O1 (fun k hk h0 => by have : g = k := Option.some.inj hk; omega)
            have E3 : Ext w w3 := Fr.ext E1 F3 (fun k hk => by omega)
            have ne1 : ba ≠ bb := by omega
            replace e1 := F3.cell ne1 e1
            replace e2 := F3.cell ne1 e2
            replace e3 := F3.cell ne1 e3
            have p0 := P3.cell 0
            have p1 := P3.cell 1
            have p2 := P3.cell 2
            have f2' := P3.frozen 1
            rw [hw3]
            clear hw3 F3 P1 O1 E1
            go_still_tail 9, (by kernel_rfl)
            change wpList _ _ _ _ _ w3.drew
            obtain ⟨w4, hw4⟩ : ∃ W, w3.drew = W := ⟨_, rfl⟩
            have X2 : Ext w3 w4 := by rw [← hw4]; exact (Ext.refl w3).drew
            replace P3 := P3.ext X2
            replace O3 := owns_ext X2 O3
            replace E3 := E3.trans X2
            have p0 := P3.cell 0
            have p1 := P3.cell 1
            have p2 := P3.cell 2
            have f2' := P3.frozen 1
            rw [hw4]
            clear hw4 X2 e1 e2 e3
            obtain ⟨c0, f0⟩ := owns_cell3 O3 (i := l'.length * 3) (u := .int .i64 q.keep) (by rw [pcVals_append, List.getElem?_append_right (by rw [pcVals_len]; omega), pcVals_len, Nat.sub_self]; rfl)
            obtain ⟨c1, f1⟩ := owns_cell3 O3 (i := l'.length * 3 + 1) (u := .int .i64 q.drop) (by rw [vals_last _ _ _ (by omega)]; rfl)
            obtain ⟨c2, f2⟩ := owns_cell3 O3 (i := l'.length * 3 + 2) (u := .string q.put) (by rw [vals_last _ _ _ (by omega)]; rfl)
            have ne2 : ¬ (g = bb) := by omega
            have ne3 : ¬ (bb = g) := by omega
            go_wp2_with fail
            go_roundw
            case rel =>
              have O4 := owns_set3 (owns_set3 (owns_set3 (owns_fr (Fr.setCell w4 bb 1 (.int .i64 (q.drop + p.drop))) O3 (fun k hk h0 => ne2 (by rw [← h0]; exact Option.some.inj hk))) (l'.length * 3 + 0) (.int .i64 q.keep)) (l'.length * 3 + 1) (.int .i64 (q.drop + p.drop))) (l'.length * 3 + 2) (.string (q.put ++ p.put))
              rw [vals_set l' q q 0 _ rfl, vals_set l' q { q with drop := q.drop + p.drop } 1 _ rfl, vals_set l' { q with drop := q.drop + p.drop } { q with put := q.put ++ p.put, drop := q.drop + p.drop } 2 _ rfl] at O4
              have E4 := Fr.ext (S := fun k => k = bb ∨ k = g) E3 ((((Fr.setCell w4 bb 1 (.int .i64 (q.drop + p.drop))).mono (fun k h => .inl h)).trans ((Fr.setCell _ g (l'.length * 3 + 0) (.int .i64 q.keep)).mono (fun k h => .inr h))).trans (((Fr.setCell _ g (l'.length * 3 + 1) (.int .i64 (q.drop + p.drop))).mono (fun k h => .inr h)).trans ((Fr.setCell _ g (l'.length * 3 + 2) (.string (q.put ++ p.put))).mono (fun k h => .inr h)))) (fun k hk => by omega)
              have el : (l' ++ [{ q with put := q.put ++ p.put, drop := q.drop + p.drop }] : List Pc).length = l'.length + 1 := by simp
              exact ⟨i + 1, m.piece p, by rw [HR2.out]; exact congrArg _ HKZ.out, by go_num, by omega, by rw [HR2.out]; show World.ownsRow _ _ _ _ _ (l' ++ [_] : List Pc).length _; rw [el]; exact O4, nm2, hw2, hl3, HD, E4⟩
            case measure => simp [intOf]; omega
          · have hl := str_some hs
            obtain ⟨hB1, hB2⟩ := hB
            obtain ⟨l', q, hlq⟩ : ∃ l' q, m.l = l' ++ [q] := ⟨_, _, (List.dropLast_concat_getLast hB2).symm⟩
            have hr := HR.out
            rw [if_neg hA, if_pos ⟨hB1, hB2⟩, hlq, onLast_snoc] at hr
            have HR2 := Lib.hid hr
            have hll : m.l.length = l'.length + 1 := by rw [hlq]; simp
            rw [hll, hlq] at hO
            obtain ⟨g, cap, rfl, hgb, hgl⟩ := World.ownsRow.form hO (by omega)
            obtain ⟨c0, f0⟩ := owns_cell3 hO (i := l'.length * 3) (u := .int .i64 q.keep) (by rw [pcVals_append, List.getElem?_append_right (by rw [pcVals_len]; omega), pcVals_len, Nat.sub_self]; rfl)
            obtain ⟨c1, f1⟩ := owns_cell3 hO (i := l'.length * 3 + 1) (u := .int .i64 q.drop) (by rw [vals_last _ _ _ (by omega)]; rfl)
            obtain ⟨c2, f2⟩ := owns_cell3 hO (i := l'.length * 3 + 2) (u := .string q.put) (by rw [vals_last _ _ _ (by omega)]; rfl)
            have tK : (m.keep + p.keep == 0) = true := by rw [hB1]; rfl
            have tL : decide ((0 : Int) < ((l'.length + 1 : Nat) : Int)) = true := decide_eq_true (by omega)
            have r1 : (0 : Int) ≤ (l'.length : Int) := by omega
            have r2 : (l'.length : Int) < ((l'.length + 1 : Nat) : Int) := by omega
            have r3 : l'.length ≤ 1000000 := by omega
            have bq := bM.bnd q (by rw [hlq]; simp)
            have jj1 : ¬ (9223372036854775807 < q.put.size + p.put.size) := by omega
            have jj2 : ¬ (9223372036854775807 < q.put.size) := by omega
            have jj3 : IntKind.i64.wrap (q.drop + p.drop) = q.drop + p.drop := by rw [IntKind.wrap_i64]; omega
            have HKZ := Lib.hid hB1
            clear hr HR hA hB1 hB2 hlq hll
            go_wp2_with fail
            obtain ⟨bb, hbb⟩ : ∃ b, wr.heap.size = b := ⟨_, rfl⟩
            obtain ⟨w1, hw1⟩ : ∃ W, wr.alloc (.cells #[.int .i64 q.keep, .int .i64 q.drop, .string q.put] 35) = W := ⟨_, rfl⟩
            have X1 : Ext wr w1 := by rw [← hw1]; exact (Ext.refl wr).alloc _
            have P1 : NBox w1 bb 35 #[.int .i64 q.keep, .int .i64 q.drop, .string q.put] := by rw [← hw1, ← hbb]; exact NBox.new _ _ _
            have hgb' : g < bb := by rw [← hbb]; exact (hO.lt g rfl).2
            have hab : ba < bb := by rw [← hbb]; exact lt_of_cell e1
            have hwb : w.heap.size ≤ bb := by rw [← hbb]; exact hE.size
            have O1 := owns_ext X1 hO
            have E1 := hE.trans X1
            replace e1 := X1.cell e1
            replace e2 := X1.cell e2
            replace e3 := X1.cell e3
            have p0 := P1.cell 0
            have p1 := P1.cell 1
            have p2 := P1.cell 2
            have f2' := P1.frozen 2
            rw [hw1, hbb]
            clear hw1 hbb hO hE X1 c0 c1 c2 f0 f1 f2
            go_still_tail 9, (by kernel_rfl)
            change wpList _ _ _ _ _ w1.drew
            obtain ⟨w2, hw2⟩ : ∃ W, w1.drew = W := ⟨_, rfl⟩
            have X2 : Ext w1 w2 := by rw [← hw2]; exact (Ext.refl w1).drew
            replace P1 := P1.ext X2
            replace O1 := owns_ext X2 O1
            replace E1 := E1.trans X2
            replace e1 := X2.cell e1
            replace e2 := X2.cell e2
            replace e3 := X2.cell e3
            have p0 := P1.cell 0
            have p1 := P1.cell 1
            have p2 := P1.cell 2
            have f2' := P1.frozen 2
            rw [hw2]
            clear hw2 X2
            go_wp2_with fail
            obtain ⟨w3, hw3⟩ : ∃ W, w2.setCell ⟨bb, 2, none⟩ (.string (q.put ++ p.put)) = W := ⟨_, rfl⟩
            have F3 : Fr w2 w3 (fun k => k = bb) := by rw [← hw3]; exact Fr.setCell _ _ _ _
            have P3 : NBox w3 bb 35 #[.int .i64 q.keep, .int .i64 q.drop, .string (q.put ++ p.put)] := by rw [← hw3]; exact P1.set 2 _
            have O3 := owns_fr F3 O1 (fun k hk h0 => by have : g = k := Option.some.inj hk; omega)
            have E3 : Ext w w3 := Fr.ext E1 F3 (fun k hk => by omega)
            have ne1 : ba ≠ bb := by omega
            replace e1 := F3.cell ne1 e1
            replace e2 := F3.cell ne1 e2
            replace e3 := F3.cell ne1 e3
            have p0 := P3.cell 0
            have p1 := P3.cell 1
            have p2 := P3.cell 2
            have f2' := P3.frozen 1
            rw [hw3]
            clear hw3 F3 P1 O1 E1
            go_still_tail 9, (by kernel_rfl)
            change wpList _ _ _ _ _ w3.drew
            obtain ⟨w4, hw4⟩ : ∃ W, w3.drew = W := ⟨_, rfl⟩
            have X2 : Ext w3 w4 := by rw [← hw4]; exact (Ext.refl w3).drew
            replace P3 := P3.ext X2
            replace O3 := owns_ext X2 O3
            replace E3 := E3.trans X2
            have p0 := P3.cell 0
            have p1 := P3.cell 1
            have p2 := P3.cell 2
            have f2' := P3.frozen 1
            rw [hw4]
            clear hw4 X2 e1 e2 e3
            obtain ⟨c0, f0⟩ := owns_cell3 O3 (i := l'.length * 3) (u := .int .i64 q.keep) (by rw [pcVals_append, List.getElem?_append_right (by rw [pcVals_len]; omega), pcVals_len, Nat.sub_self]; rfl)
            obtain ⟨c1, f1⟩ := owns_cell3 O3 (i := l'.length * 3 + 1) (u := .int .i64 q.drop) (by rw [vals_last _ _ _ (by omega)]; rfl)
            obtain ⟨c2, f2⟩ := owns_cell3 O3 (i := l'.length * 3 + 2) (u := .string q.put) (by rw [vals_last _ _ _ (by omega)]; rfl)
            have ne2 : ¬ (g = bb) := by omega
            have ne3 : ¬ (bb = g) := by omega
            go_wp2_with fail
            go_roundw
            case rel =>
              have O4 := owns_set3 (owns_set3 (owns_set3 (owns_fr (Fr.setCell w4 bb 1 (.int .i64 (q.drop + p.drop))) O3 (fun k hk h0 => ne2 (by rw [← h0]; exact Option.some.inj hk))) (l'.length * 3 + 0) (.int .i64 q.keep)) (l'.length * 3 + 1) (.int .i64 (q.drop + p.drop))) (l'.length * 3 + 2) (.string (q.put ++ p.put))
              rw [vals_set l' q q 0 _ rfl, vals_set l' q { q with drop := q.drop + p.drop } 1 _ rfl, vals_set l' { q with drop := q.drop + p.drop } { q with put := q.put ++ p.put, drop := q.drop + p.drop } 2 _ rfl] at O4
              have E4 := Fr.ext (S := fun k => k = bb ∨ k = g) E3 ((((Fr.setCell w4 bb 1 (.int .i64 (q.drop + p.drop))).mono (fun k h => .inl h)).trans ((Fr.setCell _ g (l'.length * 3 + 0) (.int .i64 q.keep)).mono (fun k h => .inr h))).trans (((Fr.setCell _ g (l'.length * 3 + 1) (.int .i64 (q.drop + p.drop))).mono (fun k h => .inr h)).trans ((Fr.setCell _ g (l'.length * 3 + 2) (.string (q.put ++ p.put))).mono (fun k h => .inr h)))) (fun k hk => by omega)
              have el : (l' ++ [{ q with put := q.put ++ p.put, drop := q.drop + p.drop }] : List Pc).length = l'.length + 1 := by simp
              exact ⟨i + 1, m.piece p, by rw [HR2.out]; exact congrArg _ HKZ.out, by go_num, by omega, by rw [HR2.out]; show World.ownsRow _ _ _ _ _ (l' ++ [_] : List Pc).length _; rw [el]; exact O4, nm2, hw2, hl3, HD, E4⟩
            case measure => simp [intOf]; omega
        · by_cases hK0 : m.keep + p.keep = 0
          · have hL0 : m.l = [] := Classical.byContradiction (fun h => hB ⟨hK0, h⟩)
            have tK : (m.keep + p.keep == 0) = true := by rw [hK0]; rfl
            have tL : decide ((0 : Int) < (m.l.length : Int)) = false := decide_eq_false (by rw [hL0]; simp)
            have tL2 : ¬ (0 < m.l.length) := by rw [hL0]; simp
            clear hL0 hK0
            rcases Nat.eq_zero_or_pos p.put.size with hs | hs
            · have hl := str_empty hs
              have td : (p.drop == 0) = false := by
                rw [beq_eq_false_iff_ne]; exact fun h => hA ⟨hs, h⟩
              have hr := HR.out
              rw [if_neg hA, if_neg hB] at hr
              have HR2 := Lib.hid hr
              obtain ⟨lA, lc, rfl, _⟩ := RdS.of_owns hO
              clear hr HR hA hB
              go_wp2_with fail
              refine wp_region_held_drew (S := fun W => W.cell? ⟨ba, oa + i * 3 + 1, none⟩ = some (.int .i64 p.drop) ∧ W.cell? ⟨ba, oa + i * 3 + 2, none⟩ = some (.string p.put)) (by kernel_rfl) (show _ ∧ _ from ⟨e2, e3⟩) (fun hHeld => ?_)
              refine wpAnyH_take (i := 0) (oi := ⟨_, _, _, _, _, _⟩) (v := ?_) rfl (by kernel_rfl) (by kernel_rfl) (by kernel_rfl) (fun _ _ _ h => h) (Or.inl ⟨by rfl, ?_⟩) hHeld ?_
              rotate_left
              · intro w hSw
                obtain ⟨hs1, hs2⟩ := hSw
                go_simp
                all_goals (first | with_reducible rfl | rw [if_pos (by omega)])
              try simp only [Act.put, List.setIfInBounds_toArray, List.set_cons_zero, List.set_cons_succ]
              refine wpAnyH_take (i := 1) (oi := ⟨_, _, _, _, _, _⟩) (v := ?_) rfl (by kernel_rfl) (by kernel_rfl) (by kernel_rfl) (fun _ _ _ h => h) (Or.inl ⟨by rfl, ?_⟩) hHeld ?_
              rotate_left
              · intro w hSw
                obtain ⟨hs1, hs2⟩ := hSw
                go_simp
                all_goals (first | with_reducible rfl | rw [if_pos (by omega)])
              try simp only [Act.put, List.setIfInBounds_toArray, List.set_cons_zero, List.set_cons_succ]
              refine wpAnyH_take (i := 2) (oi := ⟨_, _, _, _, _, _⟩) (v := ?_) rfl (by kernel_rfl) (by kernel_rfl) (by kernel_rfl) (fun _ _ _ h => h) (Or.inl ⟨by rfl, ?_⟩) hHeld ?_
              rotate_left
              · intro w hSw
                obtain ⟨hs1, hs2⟩ := hSw
                go_simp
                all_goals (first | with_reducible rfl | rw [if_pos (by omega)])
              try simp only [Act.put, List.setIfInBounds_toArray, List.set_cons_zero, List.set_cons_succ]
              refine wpAnyH_take (i := 3) (oi := ⟨_, _, _, _, _, _⟩) (v := ?_) rfl (by kernel_rfl) (by kernel_rfl) (by kernel_rfl) (fun _ _ _ h => h) (Or.inl ⟨by rfl, ?_⟩) hHeld ?_
              rotate_left
              · intro w hSw
                obtain ⟨hs1, hs2⟩ := hSw
                go_simp
                all_goals (first | with_reducible rfl | rw [if_pos (by omega)])
              try simp only [Act.put, List.setIfInBounds_toArray, List.set_cons_zero, List.set_cons_succ]
              refine wpAnyH_take (i := 4) (oi := ⟨_, _, _, _, _, _⟩) (v := ?_) rfl (by kernel_rfl) (by kernel_rfl) (by kernel_rfl) (fun _ _ _ h => h) (Or.inl ⟨by rfl, ?_⟩) hHeld ?_
              rotate_left
              · intro w hSw
                obtain ⟨hs1, hs2⟩ := hSw
                go_simp
                all_goals (first | with_reducible rfl | rw [if_pos (by omega)])
              try simp only [Act.put, List.setIfInBounds_toArray, List.set_cons_zero, List.set_cons_succ]
              refine wpAnyH_take (i := 5) (oi := ⟨_, _, _, _, _, _⟩) (v := ?_) rfl (by kernel_rfl) (by kernel_rfl) (by kernel_rfl) (fun _ _ _ h => h) (Or.inl ⟨by rfl, ?_⟩) hHeld ?_
              rotate_left
              · intro w hSw
                obtain ⟨hs1, hs2⟩ := hSw
                go_simp
                all_goals (first | with_reducible rfl | rw [if_pos (by omega)])
              try simp only [Act.put, List.setIfInBounds_toArray, List.set_cons_zero, List.set_cons_succ]
              refine wpAnyH_take (i := 6) (oi := ⟨_, _, _, _, _, _⟩) (v := ?_) rfl (by kernel_rfl) (by kernel_rfl) (by kernel_rfl) (fun _ _ _ h => h) (Or.inl ⟨by rfl, ?_⟩) hHeld ?_
              rotate_left
              · intro w hSw
                obtain ⟨hs1, hs2⟩ := hSw
                go_simp
                all_goals (first | with_reducible rfl | rw [if_pos (by omega)])
              try simp only [Act.put, List.setIfInBounds_toArray, List.set_cons_zero, List.set_cons_succ]
              refine wpAnyH_take (i := 7) (oi := ⟨_, _, _, _, _, _⟩) (v := ?_) rfl (by kernel_rfl) (by kernel_rfl) (by kernel_rfl) (fun _ _ _ h => h) (Or.inl ⟨by rfl, ?_⟩) hHeld ?_
              rotate_left
              · intro w hSw
                obtain ⟨hs1, hs2⟩ := hSw
                go_simp
                all_goals (first | with_reducible rfl | rw [if_pos (by omega)])
              try simp only [Act.put, List.setIfInBounds_toArray, List.set_cons_zero, List.set_cons_succ]
              refine wpAnyH_take (i := 8) (oi := ⟨_, _, _, _, _, _⟩) (v := ?_) rfl (by kernel_rfl) (by kernel_rfl) (by kernel_rfl) (fun _ _ _ h => h) (Or.inl ⟨by rfl, ?_⟩) hHeld ?_
              rotate_left
              · intro w hSw
                obtain ⟨hs1, hs2⟩ := hSw
                go_simp
                all_goals (first | with_reducible rfl | rw [if_pos (by omega)])
              try simp only [Act.put, List.setIfInBounds_toArray, List.set_cons_zero, List.set_cons_succ]
              refine wpAnyH_take (i := 9) (oi := ⟨_, _, _, _, _, _⟩) (v := ?_) rfl (by kernel_rfl) (by kernel_rfl) (by kernel_rfl) (fun _ _ _ h => h) (Or.inl ⟨by rfl, ?_⟩) hHeld ?_
              rotate_left
              · intro w hSw
                obtain ⟨hs1, hs2⟩ := hSw
                go_simp
                all_goals (first | with_reducible rfl | rw [if_pos (by omega)])
              try simp only [Act.put, List.setIfInBounds_toArray, List.set_cons_zero, List.set_cons_succ]
              refine wpAnyH_take (i := 10) (oi := ⟨_, _, _, _, _, _⟩) (v := ?_) rfl (by kernel_rfl) (by kernel_rfl) (by kernel_rfl) (fun _ _ _ h => h) (Or.inl ⟨by rfl, ?_⟩) hHeld ?_
              rotate_left
              · intro w hSw
                obtain ⟨hs1, hs2⟩ := hSw
                go_simp
                all_goals (first | with_reducible rfl | rw [if_pos (by omega)])
              try simp only [Act.put, List.setIfInBounds_toArray, List.set_cons_zero, List.set_cons_succ]
              refine wpAnyH_take (i := 11) (oi := ⟨_, _, _, _, _, _⟩) (v := ?_) rfl (by kernel_rfl) (by kernel_rfl) (by kernel_rfl) (fun _ _ _ h => h) (Or.inl ⟨by rfl, ?_⟩) hHeld ?_
              rotate_left
              · intro w hSw
                obtain ⟨hs1, hs2⟩ := hSw
                go_simp
                all_goals (first | with_reducible rfl | rw [if_pos (by omega)])
              try simp only [Act.put, List.setIfInBounds_toArray, List.set_cons_zero, List.set_cons_succ]
              refine wpAnyH_take (i := 12) (oi := ⟨_, _, _, _, _, _⟩) (v := ?_) rfl (by kernel_rfl) (by kernel_rfl) (by kernel_rfl) (fun _ _ _ h => h) (Or.inl ⟨by rfl, ?_⟩) hHeld ?_
              rotate_left
              · intro w hSw
                obtain ⟨hs1, hs2⟩ := hSw
                go_simp
                all_goals (first | with_reducible rfl | rw [if_pos (by omega)])
              try simp only [Act.put, List.setIfInBounds_toArray, List.set_cons_zero, List.set_cons_succ]
              refine wpAnyH_ready (rs := [13]) (by kernel_rfl) (by simp) ?_
              refine AllReadyH.cons (o := ⟨_, _, _, _, _, _⟩) rfl (fun K' hK => ?_) (AllReadyH.nil)
              go_simp
              have X2 : Ext wr ((wr.alloc (.cells #[.int .i64 (m.keep + p.keep), .int .i64 p.drop, .string p.put] 35)).drew) := ((Ext.refl wr).alloc _).drew
              refine hK.out _ _ (show _ ∧ _ from ⟨X2.cell e2, X2.cell e3⟩) (fun hHeld => ?_)
              clear hK K'
              try simp only [Act.put, List.setIfInBounds_toArray, List.set_cons_zero, List.set_cons_succ]
              obtain ⟨w2, hw2⟩ : ∃ W, (wr.alloc (.cells #[.int .i64 (m.keep + p.keep), .int .i64 p.drop, .string p.put] 35)).drew = W := ⟨_, rfl⟩
              have hR1 : RdS w2 3 1 [.int .i64 (m.keep + p.keep), .int .i64 p.drop, .string p.put] (.slice (some ⟨wr.heap.size, 0, none⟩) 1 1) := by rw [← hw2]; exact RdS.ext ((Ext.refl _).drew) (RdS.one (cs := #[.int .i64 (m.keep + p.keep), .int .i64 p.drop, .string p.put]) rfl)
              rw [hw2] at X2
              have O2 := owns_ext X2 hO
              have E2 := hE.trans X2
              have hHeld : w2.cell? ⟨ba, oa + i * 3 + 1, none⟩ = some (.int .i64 p.drop) ∧ w2.cell? ⟨ba, oa + i * 3 + 2, none⟩ = some (.string p.put) := ⟨X2.cell e2, X2.cell e3⟩
              rw [hw2]
              clear hw2
              refine wpAnyH_ready (rs := [14]) (by kernel_rfl) (by simp) ?_
              refine AllReadyH.cons (o := ⟨_, _, _, _, _, _⟩) rfl (fun K' hK => ?_) (AllReadyH.nil)
              refine wp_append_rd rfl T24 (by rfl) O2 (by rfl) hR1 (fun u hu => by simp only [List.mem_cons, List.not_mem_nil, or_false] at hu; rcases hu with rfl | rfl | rfl <;> rfl) (by omega) (by simp only [maxLen]; omega) E2.size ?_
              intro v3 w3 O3 hg3 hat3
              have hne : (Value.slice lA m.l.length lc).ownBlock ≠ some ba := fun hk => by have := owns_base O2 _ hk; omega
              have F3 := Fr.grown hg3
              have E3 : Ext w w3 := Fr.ext E2 F3 (fun k hk => owns_base O2 k hk)
              refine hK.out _ _ (show _ ∧ _ from ⟨F3.cell hne hHeld.1, F3.cell hne hHeld.2⟩) (fun hHeld => ?_)
              clear hK K'
              try simp only [Act.put, List.setIfInBounds_toArray, List.set_cons_zero, List.set_cons_succ]
              refine wpAnyH_take (i := 15) (oi := ⟨_, _, _, _, _, _⟩) (v := ?_) rfl (by kernel_rfl) (by kernel_rfl) (by kernel_rfl) (fun _ _ _ h => h) (Or.inl ⟨by rfl, ?_⟩) hHeld ?_
              rotate_left
              · intro w hSw
                obtain ⟨hs1, hs2⟩ := hSw
                go_simp
                all_goals (first | with_reducible rfl | rw [if_pos (by omega)])
              try simp only [Act.put, List.setIfInBounds_toArray, List.set_cons_zero, List.set_cons_succ]
              refine wpAnyH_done (by kernel_rfl) ?_ _
              clear hHeld
              go_wp2_with fail
              go_roundw
              case rel =>
                have el : (m.l ++ [⟨m.keep + p.keep, p.drop, p.put⟩] : List Pc).length = m.l.length + 1 := by simp
                exact ⟨i + 1, m.piece p, by rw [HR2.out], by go_num, by omega, by rw [HR2.out]; show World.ownsRow _ _ _ _ _ (m.l ++ [_] : List Pc).length (pcVals (m.l ++ [_])); rw [el, pcVals_append]; exact O3, nm2, hw2, hl3, HD, E3⟩
              case measure => simp [intOf]; omega
            · have hl := str_some hs
              have hr := HR.out
              rw [if_neg hA, if_neg hB] at hr
              have HR2 := Lib.hid hr
              obtain ⟨lA, lc, rfl, _⟩ := RdS.of_owns hO
              clear hr HR hA hB
              go_wp2_with fail
              refine wp_region_held_drew (S := fun W => W.cell? ⟨ba, oa + i * 3 + 1, none⟩ = some (.int .i64 p.drop) ∧ W.cell? ⟨ba, oa + i * 3 + 2, none⟩ = some (.string p.put)) (by kernel_rfl) (show _ ∧ _ from ⟨e2, e3⟩) (fun hHeld => ?_)
              refine wpAnyH_take (i := 0) (oi := ⟨_, _, _, _, _, _⟩) (v := ?_) rfl (by kernel_rfl) (by kernel_rfl) (by kernel_rfl) (fun _ _ _ h => h) (Or.inl ⟨by rfl, ?_⟩) hHeld ?_
              rotate_left
              · intro w hSw
                obtain ⟨hs1, hs2⟩ := hSw
                go_simp
                all_goals (first | with_reducible rfl | rw [if_pos (by omega)])
              try simp only [Act.put, List.setIfInBounds_toArray, List.set_cons_zero, List.set_cons_succ]
              refine wpAnyH_take (i := 1) (oi := ⟨_, _, _, _, _, _⟩) (v := ?_) rfl (by kernel_rfl) (by kernel_rfl) (by kernel_rfl) (fun _ _ _ h => h) (Or.inl ⟨by rfl, ?_⟩) hHeld ?_
              rotate_left
              · intro w hSw
                obtain ⟨hs1, hs2⟩ := hSw
                go_simp
                all_goals (first | with_reducible rfl | rw [if_pos (by omega)])
              try simp only [Act.put, List.setIfInBounds_toArray, List.set_cons_zero, List.set_cons_succ]
              refine wpAnyH_take (i := 2) (oi := ⟨_, _, _, _, _, _⟩) (v := ?_) rfl (by kernel_rfl) (by kernel_rfl) (by kernel_rfl) (fun _ _ _ h => h) (Or.inl ⟨by rfl, ?_⟩) hHeld ?_
              rotate_left
              · intro w hSw
                obtain ⟨hs1, hs2⟩ := hSw
                go_simp
                all_goals (first | with_reducible rfl | rw [if_pos (by omega)])
              try simp only [Act.put, List.setIfInBounds_toArray, List.set_cons_zero, List.set_cons_succ]
              refine wpAnyH_take (i := 3) (oi := ⟨_, _, _, _, _, _⟩) (v := ?_) rfl (by kernel_rfl) (by kernel_rfl) (by kernel_rfl) (fun _ _ _ h => h) (Or.inl ⟨by rfl, ?_⟩) hHeld ?_
              rotate_left
              · intro w hSw
                obtain ⟨hs1, hs2⟩ := hSw
                go_simp
                all_goals (first | with_reducible rfl | rw [if_pos (by omega)])
              try simp only [Act.put, List.setIfInBounds_toArray, List.set_cons_zero, List.set_cons_succ]
              refine wpAnyH_take (i := 4) (oi := ⟨_, _, _, _, _, _⟩) (v := ?_) rfl (by kernel_rfl) (by kernel_rfl) (by kernel_rfl) (fun _ _ _ h => h) (Or.inl ⟨by rfl, ?_⟩) hHeld ?_
              rotate_left
              · intro w hSw
                obtain ⟨hs1, hs2⟩ := hSw
                go_simp
                all_goals (first | with_reducible rfl | rw [if_pos (by omega)])
              try simp only [Act.put, List.setIfInBounds_toArray, List.set_cons_zero, List.set_cons_succ]
              refine wpAnyH_take (i := 5) (oi := ⟨_, _, _, _, _, _⟩) (v := ?_) rfl (by kernel_rfl) (by kernel_rfl) (by kernel_rfl) (fun _ _ _ h => h) (Or.inl ⟨by rfl, ?_⟩) hHeld ?_
              rotate_left
              · intro w hSw
                obtain ⟨hs1, hs2⟩ := hSw
                go_simp
                all_goals (first | with_reducible rfl | rw [if_pos (by omega)])
              try simp only [Act.put, List.setIfInBounds_toArray, List.set_cons_zero, List.set_cons_succ]
              refine wpAnyH_take (i := 6) (oi := ⟨_, _, _, _, _, _⟩) (v := ?_) rfl (by kernel_rfl) (by kernel_rfl) (by kernel_rfl) (fun _ _ _ h => h) (Or.inl ⟨by rfl, ?_⟩) hHeld ?_
              rotate_left
              · intro w hSw
                obtain ⟨hs1, hs2⟩ := hSw
                go_simp
                all_goals (first | with_reducible rfl | rw [if_pos (by omega)])
              try simp only [Act.put, List.setIfInBounds_toArray, List.set_cons_zero, List.set_cons_succ]
              refine wpAnyH_take (i := 7) (oi := ⟨_, _, _, _, _, _⟩) (v := ?_) rfl (by kernel_rfl) (by kernel_rfl) (by kernel_rfl) (fun _ _ _ h => h) (Or.inl ⟨by rfl, ?_⟩) hHeld ?_
              rotate_left
              · intro w hSw
                obtain ⟨hs1, hs2⟩ := hSw
                go_simp
                all_goals (first | with_reducible rfl | rw [if_pos (by omega)])
              try simp only [Act.put, List.setIfInBounds_toArray, List.set_cons_zero, List.set_cons_succ]
              refine wpAnyH_take (i := 8) (oi := ⟨_, _, _, _, _, _⟩) (v := ?_) rfl (by kernel_rfl) (by kernel_rfl) (by kernel_rfl) (fun _ _ _ h => h) (Or.inl ⟨by rfl, ?_⟩) hHeld ?_
              rotate_left
              · intro w hSw
                obtain ⟨hs1, hs2⟩ := hSw
                go_simp
                all_goals (first | with_reducible rfl | rw [if_pos (by omega)])
              try simp only [Act.put, List.setIfInBounds_toArray, List.set_cons_zero, List.set_cons_succ]
              refine wpAnyH_take (i := 9) (oi := ⟨_, _, _, _, _, _⟩) (v := ?_) rfl (by kernel_rfl) (by kernel_rfl) (by kernel_rfl) (fun _ _ _ h => h) (Or.inl ⟨by rfl, ?_⟩) hHeld ?_
              rotate_left
              · intro w hSw
                obtain ⟨hs1, hs2⟩ := hSw
                go_simp
                all_goals (first | with_reducible rfl | rw [if_pos (by omega)])
              try simp only [Act.put, List.setIfInBounds_toArray, List.set_cons_zero, List.set_cons_succ]
              refine wpAnyH_take (i := 10) (oi := ⟨_, _, _, _, _, _⟩) (v := ?_) rfl (by kernel_rfl) (by kernel_rfl) (by kernel_rfl) (fun _ _ _ h => h) (Or.inl ⟨by rfl, ?_⟩) hHeld ?_
              rotate_left
              · intro w hSw
                obtain ⟨hs1, hs2⟩ := hSw
                go_simp
                all_goals (first | with_reducible rfl | rw [if_pos (by omega)])
              try simp only [Act.put, List.setIfInBounds_toArray, List.set_cons_zero, List.set_cons_succ]
              refine wpAnyH_take (i := 11) (oi := ⟨_, _, _, _, _, _⟩) (v := ?_) rfl (by kernel_rfl) (by kernel_rfl) (by kernel_rfl) (fun _ _ _ h => h) (Or.inl ⟨by rfl, ?_⟩) hHeld ?_
              rotate_left
              · intro w hSw
                obtain ⟨hs1, hs2⟩ := hSw
                go_simp
                all_goals (first | with_reducible rfl | rw [if_pos (by omega)])
              try simp only [Act.put, List.setIfInBounds_toArray, List.set_cons_zero, List.set_cons_succ]
              refine wpAnyH_take (i := 12) (oi := ⟨_, _, _, _, _, _⟩) (v := ?_) rfl (by kernel_rfl) (by kernel_rfl) (by kernel_rfl) (fun _ _ _ h => h) (Or.inl ⟨by rfl, ?_⟩) hHeld ?_
              rotate_left
              · intro w hSw
                obtain ⟨hs1, hs2⟩ := hSw
                go_simp
                all_goals (first | with_reducible rfl | rw [if_pos (by omega)])
              try simp only [Act.put, List.setIfInBounds_toArray, List.set_cons_zero, List.set_cons_succ]
              refine wpAnyH_ready (rs := [13]) (by kernel_rfl) (by simp) ?_
              refine AllReadyH.cons (o := ⟨_, _, _, _, _, _⟩) rfl (fun K' hK => ?_) (AllReadyH.nil)
              go_simp
              have X2 : Ext wr ((wr.alloc (.cells #[.int .i64 (m.keep + p.keep), .int .i64 p.drop, .string p.put] 35)).drew) := ((Ext.refl wr).alloc _).drew
              refine hK.out _ _ (show _ ∧ _ from ⟨X2.cell e2, X2.cell e3⟩) (fun hHeld => ?_)
              clear hK K'
              try simp only [Act.put, List.setIfInBounds_toArray, List.set_cons_zero, List.set_cons_succ]
              obtain ⟨w2, hw2⟩ : ∃ W, (wr.alloc (.cells #[.int .i64 (m.keep + p.keep), .int .i64 p.drop, .string p.put] 35)).drew = W := ⟨_, rfl⟩
              have hR1 : RdS w2 3 1 [.int .i64 (m.keep + p.keep), .int .i64 p.drop, .string p.put] (.slice (some ⟨wr.heap.size, 0, none⟩) 1 1) := by rw [← hw2]; exact RdS.ext ((Ext.refl _).drew) (RdS.one (cs := #[.int .i64 (m.keep + p.keep), .int .i64 p.drop, .string p.put]) rfl)
              rw [hw2] at X2
              have O2 := owns_ext X2 hO
              have E2 := hE.trans X2
              have hHeld : w2.cell? ⟨ba, oa + i * 3 + 1, none⟩ = some (.int .i64 p.drop) ∧ w2.cell? ⟨ba, oa + i * 3 + 2, none⟩ = some (.string p.put) := ⟨X2.cell e2, X2.cell e3⟩
              rw [hw2]
              clear hw2
              refine wpAnyH_ready (rs := [14]) (by kernel_rfl) (by simp) ?_
              refine AllReadyH.cons (o := ⟨_, _, _, _, _, _⟩) rfl (fun K' hK => ?_) (AllReadyH.nil)
              refine wp_append_rd rfl T24 (by rfl) O2 (by rfl) hR1 (fun u hu => by simp only [List.mem_cons, List.not_mem_nil, or_false] at hu; rcases hu with rfl | rfl | rfl <;> rfl) (by omega) (by simp only [maxLen]; omega) E2.size ?_
              intro v3 w3 O3 hg3 hat3
              have hne : (Value.slice lA m.l.length lc).ownBlock ≠ some ba := fun hk => by have := owns_base O2 _ hk; omega
              have F3 := Fr.grown hg3
              have E3 : Ext w w3 := Fr.ext E2 F3 (fun k hk => owns_base O2 k hk)
              refine hK.out _ _ (show _ ∧ _ from ⟨F3.cell hne hHeld.1, F3.cell hne hHeld.2⟩) (fun hHeld => ?_)
              clear hK K'
              try simp only [Act.put, List.setIfInBounds_toArray, List.set_cons_zero, List.set_cons_succ]
              refine wpAnyH_take (i := 15) (oi := ⟨_, _, _, _, _, _⟩) (v := ?_) rfl (by kernel_rfl) (by kernel_rfl) (by kernel_rfl) (fun _ _ _ h => h) (Or.inl ⟨by rfl, ?_⟩) hHeld ?_
              rotate_left
              · intro w hSw
                obtain ⟨hs1, hs2⟩ := hSw
                go_simp
                all_goals (first | with_reducible rfl | rw [if_pos (by omega)])
              try simp only [Act.put, List.setIfInBounds_toArray, List.set_cons_zero, List.set_cons_succ]
              refine wpAnyH_done (by kernel_rfl) ?_ _
              clear hHeld
              go_wp2_with fail
              go_roundw
              case rel =>
                have el : (m.l ++ [⟨m.keep + p.keep, p.drop, p.put⟩] : List Pc).length = m.l.length + 1 := by simp
                exact ⟨i + 1, m.piece p, by rw [HR2.out], by go_num, by omega, by rw [HR2.out]; show World.ownsRow _ _ _ _ _ (m.l ++ [_] : List Pc).length (pcVals (m.l ++ [_])); rw [el, pcVals_append]; exact O3, nm2, hw2, hl3, HD, E3⟩
              case measure => simp [intOf]; omega
          · have tK : (m.keep + p.keep == 0) = false := by rw [beq_eq_false_iff_ne]; exact hK0
            clear hK0
            rcases Nat.eq_zero_or_pos p.put.size with hs | hs
            · have hl := str_empty hs
              have td : (p.drop == 0) = false := by
                rw [beq_eq_false_iff_ne]; exact fun h => hA ⟨hs, h⟩
              have hr := HR.out
              rw [if_neg hA, if_neg hB] at hr
              have HR2 := Lib.hid hr
              obtain ⟨lA, lc, rfl, _⟩ := RdS.of_owns hO
              clear hr HR hA hB
              go_wp2_with fail
              refine wp_region_held_drew (S := fun W => W.cell? ⟨ba, oa + i * 3 + 1, none⟩ = some (.int .i64 p.drop) ∧ W.cell? ⟨ba, oa + i * 3 + 2, none⟩ = some (.string p.put)) (by kernel_rfl) (show _ ∧ _ from ⟨e2, e3⟩) (fun hHeld => ?_)
              refine wpAnyH_take (i := 0) (oi := ⟨_, _, _, _, _, _⟩) (v := ?_) rfl (by kernel_rfl) (by kernel_rfl) (by kernel_rfl) (fun _ _ _ h => h) (Or.inl ⟨by rfl, ?_⟩) hHeld ?_
              rotate_left
              · intro w hSw
                obtain ⟨hs1, hs2⟩ := hSw
                go_simp
                all_goals (first | with_reducible rfl | rw [if_pos (by omega)])
              try simp only [Act.put, List.setIfInBounds_toArray, List.set_cons_zero, List.set_cons_succ]
              refine wpAnyH_take (i := 1) (oi := ⟨_, _, _, _, _, _⟩) (v := ?_) rfl (by kernel_rfl) (by kernel_rfl) (by kernel_rfl) (fun _ _ _ h => h) (Or.inl ⟨by rfl, ?_⟩) hHeld ?_
              rotate_left
              · intro w hSw
                obtain ⟨hs1, hs2⟩ := hSw
                go_simp
                all_goals (first | with_reducible rfl | rw [if_pos (by omega)])
              try simp only [Act.put, List.setIfInBounds_toArray, List.set_cons_zero, List.set_cons_succ]
              refine wpAnyH_take (i := 2) (oi := ⟨_, _, _, _, _, _⟩) (v := ?_) rfl (by kernel_rfl) (by kernel_rfl) (by kernel_rfl) (fun _ _ _ h => h) (Or.inl ⟨by rfl, ?_⟩) hHeld ?_
              rotate_left
              · intro w hSw
                obtain ⟨hs1, hs2⟩ := hSw
                go_simp
                all_goals (first | with_reducible rfl | rw [if_pos (by omega)])
              try simp only [Act.put, List.setIfInBounds_toArray, List.set_cons_zero, List.set_cons_succ]
              refine wpAnyH_take (i := 3) (oi := ⟨_, _, _, _, _, _⟩) (v := ?_) rfl (by kernel_rfl) (by kernel_rfl) (by kernel_rfl) (fun _ _ _ h => h) (Or.inl ⟨by rfl, ?_⟩) hHeld ?_
              rotate_left
              · intro w hSw
                obtain ⟨hs1, hs2⟩ := hSw
                go_simp
                all_goals (first | with_reducible rfl | rw [if_pos (by omega)])
              try simp only [Act.put, List.setIfInBounds_toArray, List.set_cons_zero, List.set_cons_succ]
              refine wpAnyH_take (i := 4) (oi := ⟨_, _, _, _, _, _⟩) (v := ?_) rfl (by kernel_rfl) (by kernel_rfl) (by kernel_rfl) (fun _ _ _ h => h) (Or.inl ⟨by rfl, ?_⟩) hHeld ?_
              rotate_left
              · intro w hSw
                obtain ⟨hs1, hs2⟩ := hSw
                go_simp
                all_goals (first | with_reducible rfl | rw [if_pos (by omega)])
              try simp only [Act.put, List.setIfInBounds_toArray, List.set_cons_zero, List.set_cons_succ]
              refine wpAnyH_take (i := 5) (oi := ⟨_, _, _, _, _, _⟩) (v := ?_) rfl (by kernel_rfl) (by kernel_rfl) (by kernel_rfl) (fun _ _ _ h => h) (Or.inl ⟨by rfl, ?_⟩) hHeld ?_
              rotate_left
              · intro w hSw
                obtain ⟨hs1, hs2⟩ := hSw
                go_simp
                all_goals (first | with_reducible rfl | rw [if_pos (by omega)])
              try simp only [Act.put, List.setIfInBounds_toArray, List.set_cons_zero, List.set_cons_succ]
              refine wpAnyH_take (i := 6) (oi := ⟨_, _, _, _, _, _⟩) (v := ?_) rfl (by kernel_rfl) (by kernel_rfl) (by kernel_rfl) (fun _ _ _ h => h) (Or.inl ⟨by rfl, ?_⟩) hHeld ?_
              rotate_left
              · intro w hSw
                obtain ⟨hs1, hs2⟩ := hSw
                go_simp
                all_goals (first | with_reducible rfl | rw [if_pos (by omega)])
              try simp only [Act.put, List.setIfInBounds_toArray, List.set_cons_zero, List.set_cons_succ]
              refine wpAnyH_take (i := 7) (oi := ⟨_, _, _, _, _, _⟩) (v := ?_) rfl (by kernel_rfl) (by kernel_rfl) (by kernel_rfl) (fun _ _ _ h => h) (Or.inl ⟨by rfl, ?_⟩) hHeld ?_
              rotate_left
              · intro w hSw
                obtain ⟨hs1, hs2⟩ := hSw
                go_simp
                all_goals (first | with_reducible rfl | rw [if_pos (by omega)])
              try simp only [Act.put, List.setIfInBounds_toArray, List.set_cons_zero, List.set_cons_succ]
              refine wpAnyH_take (i := 8) (oi := ⟨_, _, _, _, _, _⟩) (v := ?_) rfl (by kernel_rfl) (by kernel_rfl) (by kernel_rfl) (fun _ _ _ h => h) (Or.inl ⟨by rfl, ?_⟩) hHeld ?_
              rotate_left
              · intro w hSw
                obtain ⟨hs1, hs2⟩ := hSw
                go_simp
                all_goals (first | with_reducible rfl | rw [if_pos (by omega)])
              try simp only [Act.put, List.setIfInBounds_toArray, List.set_cons_zero, List.set_cons_succ]
              refine wpAnyH_take (i := 9) (oi := ⟨_, _, _, _, _, _⟩) (v := ?_) rfl (by kernel_rfl) (by kernel_rfl) (by kernel_rfl) (fun _ _ _ h => h) (Or.inl ⟨by rfl, ?_⟩) hHeld ?_
              rotate_left
              · intro w hSw
                obtain ⟨hs1, hs2⟩ := hSw
                go_simp
                all_goals (first | with_reducible rfl | rw [if_pos (by omega)])
              try simp only [Act.put, List.setIfInBounds_toArray, List.set_cons_zero, List.set_cons_succ]
              refine wpAnyH_take (i := 10) (oi := ⟨_, _, _, _, _, _⟩) (v := ?_) rfl (by kernel_rfl) (by kernel_rfl) (by kernel_rfl) (fun _ _ _ h => h) (Or.inl ⟨by rfl, ?_⟩) hHeld ?_
              rotate_left
              · intro w hSw
                obtain ⟨hs1, hs2⟩ := hSw
                go_simp
                all_goals (first | with_reducible rfl | rw [if_pos (by omega)])
              try simp only [Act.put, List.setIfInBounds_toArray, List.set_cons_zero, List.set_cons_succ]
              refine wpAnyH_take (i := 11) (oi := ⟨_, _, _, _, _, _⟩) (v := ?_) rfl (by kernel_rfl) (by kernel_rfl) (by kernel_rfl) (fun _ _ _ h => h) (Or.inl ⟨by rfl, ?_⟩) hHeld ?_
              rotate_left
              · intro w hSw
                obtain ⟨hs1, hs2⟩ := hSw
                go_simp
                all_goals (first | with_reducible rfl | rw [if_pos (by omega)])
              try simp only [Act.put, List.setIfInBounds_toArray, List.set_cons_zero, List.set_cons_succ]
              refine wpAnyH_take (i := 12) (oi := ⟨_, _, _, _, _, _⟩) (v := ?_) rfl (by kernel_rfl) (by kernel_rfl) (by kernel_rfl) (fun _ _ _ h => h) (Or.inl ⟨by rfl, ?_⟩) hHeld ?_
              rotate_left
              · intro w hSw
                obtain ⟨hs1, hs2⟩ := hSw
                go_simp
                all_goals (first | with_reducible rfl | rw [if_pos (by omega)])
              try simp only [Act.put, List.setIfInBounds_toArray, List.set_cons_zero, List.set_cons_succ]
              refine wpAnyH_ready (rs := [13]) (by kernel_rfl) (by simp) ?_
              refine AllReadyH.cons (o := ⟨_, _, _, _, _, _⟩) rfl (fun K' hK => ?_) (AllReadyH.nil)
              go_simp
              have X2 : Ext wr ((wr.alloc (.cells #[.int .i64 (m.keep + p.keep), .int .i64 p.drop, .string p.put] 35)).drew) := ((Ext.refl wr).alloc _).drew
              refine hK.out _ _ (show _ ∧ _ from ⟨X2.cell e2, X2.cell e3⟩) (fun hHeld => ?_)
              clear hK K'
              try simp only [Act.put, List.setIfInBounds_toArray, List.set_cons_zero, List.set_cons_succ]
              obtain ⟨w2, hw2⟩ : ∃ W, (wr.alloc (.cells #[.int .i64 (m.keep + p.keep), .int .i64 p.drop, .string p.put] 35)).drew = W := ⟨_, rfl⟩
              have hR1 : RdS w2 3 1 [.int .i64 (m.keep + p.keep), .int .i64 p.drop, .string p.put] (.slice (some ⟨wr.heap.size, 0, none⟩) 1 1) := by rw [← hw2]; exact RdS.ext ((Ext.refl _).drew) (RdS.one (cs := #[.int .i64 (m.keep + p.keep), .int .i64 p.drop, .string p.put]) rfl)
              rw [hw2] at X2
              have O2 := owns_ext X2 hO
              have E2 := hE.trans X2
              have hHeld : w2.cell? ⟨ba, oa + i * 3 + 1, none⟩ = some (.int .i64 p.drop) ∧ w2.cell? ⟨ba, oa + i * 3 + 2, none⟩ = some (.string p.put) := ⟨X2.cell e2, X2.cell e3⟩
              rw [hw2]
              clear hw2
              refine wpAnyH_ready (rs := [14]) (by kernel_rfl) (by simp) ?_
              refine AllReadyH.cons (o := ⟨_, _, _, _, _, _⟩) rfl (fun K' hK => ?_) (AllReadyH.nil)
              refine wp_append_rd rfl T24 (by rfl) O2 (by rfl) hR1 (fun u hu => by simp only [List.mem_cons, List.not_mem_nil, or_false] at hu; rcases hu with rfl | rfl | rfl <;> rfl) (by omega) (by simp only [maxLen]; omega) E2.size ?_
              intro v3 w3 O3 hg3 hat3
              have hne : (Value.slice lA m.l.length lc).ownBlock ≠ some ba := fun hk => by have := owns_base O2 _ hk; omega
              have F3 := Fr.grown hg3
              have E3 : Ext w w3 := Fr.ext E2 F3 (fun k hk => owns_base O2 k hk)
              refine hK.out _ _ (show _ ∧ _ from ⟨F3.cell hne hHeld.1, F3.cell hne hHeld.2⟩) (fun hHeld => ?_)
              clear hK K'
              try simp only [Act.put, List.setIfInBounds_toArray, List.set_cons_zero, List.set_cons_succ]
              refine wpAnyH_take (i := 15) (oi := ⟨_, _, _, _, _, _⟩) (v := ?_) rfl (by kernel_rfl) (by kernel_rfl) (by kernel_rfl) (fun _ _ _ h => h) (Or.inl ⟨by rfl, ?_⟩) hHeld ?_
              rotate_left
              · intro w hSw
                obtain ⟨hs1, hs2⟩ := hSw
                go_simp
                all_goals (first | with_reducible rfl | rw [if_pos (by omega)])
              try simp only [Act.put, List.setIfInBounds_toArray, List.set_cons_zero, List.set_cons_succ]
              refine wpAnyH_done (by kernel_rfl) ?_ _
              clear hHeld
              go_wp2_with fail
              go_roundw
              case rel =>
                have el : (m.l ++ [⟨m.keep + p.keep, p.drop, p.put⟩] : List Pc).length = m.l.length + 1 := by simp
                exact ⟨i + 1, m.piece p, by rw [HR2.out], by go_num, by omega, by rw [HR2.out]; show World.ownsRow _ _ _ _ _ (m.l ++ [_] : List Pc).length (pcVals (m.l ++ [_])); rw [el, pcVals_append]; exact O3, nm2, hw2, hl3, HD, E3⟩
              case measure => simp [intOf]; omega
            · have hl := str_some hs
              have hr := HR.out
              rw [if_neg hA, if_neg hB] at hr
              have HR2 := Lib.hid hr
              obtain ⟨lA, lc, rfl, _⟩ := RdS.of_owns hO
              clear hr HR hA hB
              go_wp2_with fail
              refine wp_region_held_drew (S := fun W => W.cell? ⟨ba, oa + i * 3 + 1, none⟩ = some (.int .i64 p.drop) ∧ W.cell? ⟨ba, oa + i * 3 + 2, none⟩ = some (.string p.put)) (by kernel_rfl) (show _ ∧ _ from ⟨e2, e3⟩) (fun hHeld => ?_)
              refine wpAnyH_take (i := 0) (oi := ⟨_, _, _, _, _, _⟩) (v := ?_) rfl (by kernel_rfl) (by kernel_rfl) (by kernel_rfl) (fun _ _ _ h => h) (Or.inl ⟨by rfl, ?_⟩) hHeld ?_
              rotate_left
              · intro w hSw
                obtain ⟨hs1, hs2⟩ := hSw
                go_simp
                all_goals (first | with_reducible rfl | rw [if_pos (by omega)])
              try simp only [Act.put, List.setIfInBounds_toArray, List.set_cons_zero, List.set_cons_succ]
              refine wpAnyH_take (i := 1) (oi := ⟨_, _, _, _, _, _⟩) (v := ?_) rfl (by kernel_rfl) (by kernel_rfl) (by kernel_rfl) (fun _ _ _ h => h) (Or.inl ⟨by rfl, ?_⟩) hHeld ?_
              rotate_left
              · intro w hSw
                obtain ⟨hs1, hs2⟩ := hSw
                go_simp
                all_goals (first | with_reducible rfl | rw [if_pos (by omega)])
              try simp only [Act.put, List.setIfInBounds_toArray, List.set_cons_zero, List.set_cons_succ]
              refine wpAnyH_take (i := 2) (oi := ⟨_, _, _, _, _, _⟩) (v := ?_) rfl (by kernel_rfl) (by kernel_rfl) (by kernel_rfl) (fun _ _ _ h => h) (Or.inl ⟨by rfl, ?_⟩) hHeld ?_
              rotate_left
              · intro w hSw
                obtain ⟨hs1, hs2⟩ := hSw
                go_simp
                all_goals (first | with_reducible rfl | rw [if_pos (by omega)])
              try simp only [Act.put, List.setIfInBounds_toArray, List.set_cons_zero, List.set_cons_succ]
              refine wpAnyH_take (i := 3) (oi := ⟨_, _, _, _, _, _⟩) (v := ?_) rfl (by kernel_rfl) (by kernel_rfl) (by kernel_rfl) (fun _ _ _ h => h) (Or.inl ⟨by rfl, ?_⟩) hHeld ?_
              rotate_left
              · intro w hSw
                obtain ⟨hs1, hs2⟩ := hSw
                go_simp
                all_goals (first | with_reducible rfl | rw [if_pos (by omega)])
              try simp only [Act.put, List.setIfInBounds_toArray, List.set_cons_zero, List.set_cons_succ]
              refine wpAnyH_take (i := 4) (oi := ⟨_, _, _, _, _, _⟩) (v := ?_) rfl (by kernel_rfl) (by kernel_rfl) (by kernel_rfl) (fun _ _ _ h => h) (Or.inl ⟨by rfl, ?_⟩) hHeld ?_
              rotate_left
              · intro w hSw
                obtain ⟨hs1, hs2⟩ := hSw
                go_simp
                all_goals (first | with_reducible rfl | rw [if_pos (by omega)])
              try simp only [Act.put, List.setIfInBounds_toArray, List.set_cons_zero, List.set_cons_succ]
              refine wpAnyH_take (i := 5) (oi := ⟨_, _, _, _, _, _⟩) (v := ?_) rfl (by kernel_rfl) (by kernel_rfl) (by kernel_rfl) (fun _ _ _ h => h) (Or.inl ⟨by rfl, ?_⟩) hHeld ?_
              rotate_left
              · intro w hSw
                obtain ⟨hs1, hs2⟩ := hSw
                go_simp
                all_goals (first | with_reducible rfl | rw [if_pos (by omega)])
              try simp only [Act.put, List.setIfInBounds_toArray, List.set_cons_zero, List.set_cons_succ]
              refine wpAnyH_take (i := 6) (oi := ⟨_, _, _, _, _, _⟩) (v := ?_) rfl (by kernel_rfl) (by kernel_rfl) (by kernel_rfl) (fun _ _ _ h => h) (Or.inl ⟨by rfl, ?_⟩) hHeld ?_
              rotate_left
              · intro w hSw
                obtain ⟨hs1, hs2⟩ := hSw
                go_simp
                all_goals (first | with_reducible rfl | rw [if_pos (by omega)])
              try simp only [Act.put, List.setIfInBounds_toArray, List.set_cons_zero, List.set_cons_succ]
              refine wpAnyH_take (i := 7) (oi := ⟨_, _, _, _, _, _⟩) (v := ?_) rfl (by kernel_rfl) (by kernel_rfl) (by kernel_rfl) (fun _ _ _ h => h) (Or.inl ⟨by rfl, ?_⟩) hHeld ?_
              rotate_left
              · intro w hSw
                obtain ⟨hs1, hs2⟩ := hSw
                go_simp
                all_goals (first | with_reducible rfl | rw [if_pos (by omega)])
              try simp only [Act.put, List.setIfInBounds_toArray, List.set_cons_zero, List.set_cons_succ]
              refine wpAnyH_take (i := 8) (oi := ⟨_, _, _, _, _, _⟩) (v := ?_) rfl (by kernel_rfl) (by kernel_rfl) (by kernel_rfl) (fun _ _ _ h => h) (Or.inl ⟨by rfl, ?_⟩) hHeld ?_
              rotate_left
              · intro w hSw
                obtain ⟨hs1, hs2⟩ := hSw
                go_simp
                all_goals (first | with_reducible rfl | rw [if_pos (by omega)])
              try simp only [Act.put, List.setIfInBounds_toArray, List.set_cons_zero, List.set_cons_succ]
              refine wpAnyH_take (i := 9) (oi := ⟨_, _, _, _, _, _⟩) (v := ?_) rfl (by kernel_rfl) (by kernel_rfl) (by kernel_rfl) (fun _ _ _ h => h) (Or.inl ⟨by rfl, ?_⟩) hHeld ?_
              rotate_left
              · intro w hSw
                obtain ⟨hs1, hs2⟩ := hSw
                go_simp
                all_goals (first | with_reducible rfl | rw [if_pos (by omega)])
              try simp only [Act.put, List.setIfInBounds_toArray, List.set_cons_zero, List.set_cons_succ]
              refine wpAnyH_take (i := 10) (oi := ⟨_, _, _, _, _, _⟩) (v := ?_) rfl (by kernel_rfl) (by kernel_rfl) (by kernel_rfl) (fun _ _ _ h => h) (Or.inl ⟨by rfl, ?_⟩) hHeld ?_
              rotate_left
              · intro w hSw
                obtain ⟨hs1, hs2⟩ := hSw
                go_simp
                all_goals (first | with_reducible rfl | rw [if_pos (by omega)])
              try simp only [Act.put, List.setIfInBounds_toArray, List.set_cons_zero, List.set_cons_succ]
              refine wpAnyH_take (i := 11) (oi := ⟨_, _, _, _, _, _⟩) (v := ?_) rfl (by kernel_rfl) (by kernel_rfl) (by kernel_rfl) (fun _ _ _ h => h) (Or.inl ⟨by rfl, ?_⟩) hHeld ?_
              rotate_left
              · intro w hSw
                obtain ⟨hs1, hs2⟩ := hSw
                go_simp
                all_goals (first | with_reducible rfl | rw [if_pos (by omega)])
              try simp only [Act.put, List.setIfInBounds_toArray, List.set_cons_zero, List.set_cons_succ]
              refine wpAnyH_take (i := 12) (oi := ⟨_, _, _, _, _, _⟩) (v := ?_) rfl (by kernel_rfl) (by kernel_rfl) (by kernel_rfl) (fun _ _ _ h => h) (Or.inl ⟨by rfl, ?_⟩) hHeld ?_
              rotate_left
              · intro w hSw
                obtain ⟨hs1, hs2⟩ := hSw
                go_simp
                all_goals (first | with_reducible rfl | rw [if_pos (by omega)])
              try simp only [Act.put, List.setIfInBounds_toArray, List.set_cons_zero, List.set_cons_succ]
              refine wpAnyH_ready (rs := [13]) (by kernel_rfl) (by simp) ?_
              refine AllReadyH.cons (o := ⟨_, _, _, _, _, _⟩) rfl (fun K' hK => ?_) (AllReadyH.nil)
              go_simp
              have X2 : Ext wr ((wr.alloc (.cells #[.int .i64 (m.keep + p.keep), .int .i64 p.drop, .string p.put] 35)).drew) := ((Ext.refl wr).alloc _).drew
              refine hK.out _ _ (show _ ∧ _ from ⟨X2.cell e2, X2.cell e3⟩) (fun hHeld => ?_)
              clear hK K'
              try simp only [Act.put, List.setIfInBounds_toArray, List.set_cons_zero, List.set_cons_succ]
              obtain ⟨w2, hw2⟩ : ∃ W, (wr.alloc (.cells #[.int .i64 (m.keep + p.keep), .int .i64 p.drop, .string p.put] 35)).drew = W := ⟨_, rfl⟩
              have hR1 : RdS w2 3 1 [.int .i64 (m.keep + p.keep), .int .i64 p.drop, .string p.put] (.slice (some ⟨wr.heap.size, 0, none⟩) 1 1) := by rw [← hw2]; exact RdS.ext ((Ext.refl _).drew) (RdS.one (cs := #[.int .i64 (m.keep + p.keep), .int .i64 p.drop, .string p.put]) rfl)
              rw [hw2] at X2
              have O2 := owns_ext X2 hO
              have E2 := hE.trans X2
              have hHeld : w2.cell? ⟨ba, oa + i * 3 + 1, none⟩ = some (.int .i64 p.drop) ∧ w2.cell? ⟨ba, oa + i * 3 + 2, none⟩ = some (.string p.put) := ⟨X2.cell e2, X2.cell e3⟩
              rw [hw2]
              clear hw2
              refine wpAnyH_ready (rs := [14]) (by kernel_rfl) (by simp) ?_
              refine AllReadyH.cons (o := ⟨_, _, _, _, _, _⟩) rfl (fun K' hK => ?_) (AllReadyH.nil)
              refine wp_append_rd rfl T24 (by rfl) O2 (by rfl) hR1 (fun u hu => by simp only [List.mem_cons, List.not_mem_nil, or_false] at hu; rcases hu with rfl | rfl | rfl <;> rfl) (by omega) (by simp only [maxLen]; omega) E2.size ?_
              intro v3 w3 O3 hg3 hat3
              have hne : (Value.slice lA m.l.length lc).ownBlock ≠ some ba := fun hk => by have := owns_base O2 _ hk; omega
              have F3 := Fr.grown hg3
              have E3 : Ext w w3 := Fr.ext E2 F3 (fun k hk => owns_base O2 k hk)
              refine hK.out _ _ (show _ ∧ _ from ⟨F3.cell hne hHeld.1, F3.cell hne hHeld.2⟩) (fun hHeld => ?_)
              clear hK K'
              try simp only [Act.put, List.setIfInBounds_toArray, List.set_cons_zero, List.set_cons_succ]
              refine wpAnyH_take (i := 15) (oi := ⟨_, _, _, _, _, _⟩) (v := ?_) rfl (by kernel_rfl) (by kernel_rfl) (by kernel_rfl) (fun _ _ _ h => h) (Or.inl ⟨by rfl, ?_⟩) hHeld ?_
              rotate_left
              · intro w hSw
                obtain ⟨hs1, hs2⟩ := hSw
                go_simp
                all_goals (first | with_reducible rfl | rw [if_pos (by omega)])
              try simp only [Act.put, List.setIfInBounds_toArray, List.set_cons_zero, List.set_cons_succ]
              refine wpAnyH_done (by kernel_rfl) ?_ _
              clear hHeld
              go_wp2_with fail
              go_roundw
              case rel =>
                have el : (m.l ++ [⟨m.keep + p.keep, p.drop, p.put⟩] : List Pc).length = m.l.length + 1 := by simp
                exact ⟨i + 1, m.piece p, by rw [HR2.out], by go_num, by omega, by rw [HR2.out]; show World.ownsRow _ _ _ _ _ (m.l ++ [_] : List Pc).length (pcVals (m.l ++ [_])); rw [el, pcVals_append]; exact O3, nm2, hw2, hl3, HD, E3⟩
              case measure => simp [intOf]; omega
    · have HF : Hid (m = Mk.pieces ⟨[], 0⟩ l) := by rw [← HW.out, List.drop_eq_nil_of_le hlt]; exact Lib.hid rfl
      obtain ⟨lA, lc, rfl, _⟩ := RdS.of_owns hO
      clear HW
      go_wp2_with fail
      go_ret
      have e0 : normL l = m.l := by rw [HF.out]; rfl
      rw [e0]
      exact ⟨_, rfl, hO, hE⟩
end Go.Proofs.Ytkimbpeapolcbaa.Sy
