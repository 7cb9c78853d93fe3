/- Chapter 05: the document's Invert, walked. -/
import Derived.Test.YtmncjknfkkedmaaLxRNorm2
import Derived.Test.YtmncjknfkkedmaaLxRApply
import Derived.Test.YtmncjknfkkedmaaLxLawApply
namespace Go.Proofs.Ytmncjknfkkedmaa.Lx
open Go.RowKit Go.Proofs.Ytmncjknfkkedmaa.Bw Go.Proofs.Ytmncjknfkkedmaa.Bs

/-- What the document puts together. -/
def invOut (t : ByteArray) : Nat → List Pc → List Pc
  | _, [] => []
  | n, p :: r => ⟨p.keep, p.put.size, t.extract (n + p.keep.toNat) (n + p.keep.toNat + p.drop.toNat)⟩ :: invOut t (n + p.keep.toNat + p.drop.toNat) r
theorem invOut_at (t : ByteArray) (n : Nat) {l : List Pc} {i : Nat} {p : Pc} (hp : l[i]? = some p) : invOut t n (l.drop i) = ⟨p.keep, p.put.size, t.extract (n + p.keep.toNat) (n + p.keep.toNat + p.drop.toNat)⟩ :: invOut t (n + p.keep.toNat + p.drop.toNat) (l.drop (i + 1)) := by rw [drop_at hp]; rfl
theorem bl_tail (t : ByteArray) (n : Nat) : bl (t.extract n t.size) = (bl t).drop n := by rw [bl_extract, List.take_of_length_le (by simp [bl_len])]
theorem invGo_out (t : ByteArray) : ∀ {l : List Pc} (m : Mk) (n : Nat), Nn l → n + extL l ≤ t.size → invGo m (t.extract n t.size) l = m.pieces (invOut t n l)
  | [], _, _, _, _ => rfl
  | p :: r, m, n, h, he => by
    obtain ⟨k1, k2⟩ := h p List.mem_cons_self
    have h3 := extL_nn h.tail
    have e0 : extL (p :: r) = p.keep + p.drop + extL r := rfl
    obtain ⟨kn, hkn⟩ : ∃ x : Nat, p.keep = x := ⟨p.keep.toNat, by omega⟩
    obtain ⟨dn, hdn⟩ : ∃ x : Nat, p.drop = x := ⟨p.drop.toNat, by omega⟩
    show invGo (m.piece ⟨p.keep, p.put.size, ((t.extract n t.size).extract p.keep.toNat (t.extract n t.size).size).extract 0 p.drop.toNat⟩) (((t.extract n t.size).extract p.keep.toNat (t.extract n t.size).size).extract p.drop.toNat ((t.extract n t.size).extract p.keep.toNat (t.extract n t.size).size).size) r = (m.piece ⟨p.keep, p.put.size, t.extract (n + p.keep.toNat) (n + p.keep.toNat + p.drop.toNat)⟩).pieces (invOut t (n + p.keep.toNat + p.drop.toNat) r)
    rw [hkn, hdn, Int.toNat_natCast, Int.toNat_natCast]
    have e1 : (t.extract n t.size).extract kn (t.extract n t.size).size = t.extract (n + kn) t.size := bl_inj (by rw [bl_tail, bl_tail, bl_tail, List.drop_drop])
    rw [e1]
    have e2 : (t.extract (n + kn) t.size).extract 0 dn = t.extract (n + kn) (n + kn + dn) := bl_inj (by
      rw [bl_extract, bl_tail, bl_extract, List.drop_zero, show n + kn + dn - (n + kn) = dn - 0 by omega])
    have e3 : (t.extract (n + kn) t.size).extract dn (t.extract (n + kn) t.size).size = t.extract (n + kn + dn) t.size := bl_inj (by rw [bl_tail, bl_tail, bl_tail, List.drop_drop])
    rw [e2, e3, invGo_out t _ _ h.tail (by omega)]
theorem extract_all (t : ByteArray) : t.extract 0 t.size = t := bl_inj (by rw [bl_extract, List.drop_zero, List.take_of_length_le (by simp [bl_len])])
theorem invS_eq (t : ByteArray) {l : List Pc} (h : Nn l) (he : extL l ≤ t.size) : invS t l = normL (invOut t 0 (normL l)) := by
  have h1 := normL_nn h
  have h2 := normL_ext h
  have h3 := invGo_out t ⟨[], 0⟩ 0 h1 (by omega)
  rw [extract_all] at h3
  show (invGo ⟨[], 0⟩ t (normL l)).l = _
  rw [h3]
  rfl
theorem invOut_nn (t : ByteArray) : ∀ {l : List Pc} (n : Nat), Nn l → Nn (invOut t n l) ∧ (invOut t n l).length = l.length ∧ wt (invOut t n l) ≤ wt l
  | [], _, _ => ⟨fun _ h => absurd h List.not_mem_nil, rfl, Int.le_refl _⟩
  | p :: r, n, h => by
    obtain ⟨k1, k2⟩ := h p List.mem_cons_self
    obtain ⟨a, b, c⟩ := invOut_nn t (n + p.keep.toNat + p.drop.toNat) h.tail
    refine ⟨Nn.cons ⟨k1, by show (0 : Int) ≤ (p.put.size : Int); omega⟩ a, ?_, ?_⟩
    · show (invOut t _ r).length + 1 = r.length + 1
      rw [b]
    · show p.keep + (p.put.size : Int) + ((t.extract (n + p.keep.toNat) (n + p.keep.toNat + p.drop.toNat)).size : Int) + wt (invOut t _ r) ≤ p.keep + p.drop + p.put.size + wt r
      rw [ByteArray.size_extract]
      omega

set_option maxRecDepth 100000 in
set_option maxHeartbeats 1600000 in
theorem invertR_any (t : ByteArray) (l : List Pc) (v : Value) (w : World) (h : RdP w l v) (ht : t.size ≤ 1000000000) : Calls Try.prog 23 #[.string t, v] w fun e w' => ∃ v', e = .returned (.tuple #[v', .int .i64 (inE t l)]) ∧ RdP w' (inL t l) v' ∧ Ext w w' := by
  have hc := applyR_any t l v w h (by omega)
  obtain ⟨A, c, rfl, _⟩ := id h
  obtain ⟨r, hr⟩ : ∃ r, apE t l = r := ⟨_, rfl⟩
  rw [hr] at hc
  go_enter Try.func23, Try.ntmps23
  go_wp2_with fail
  refine hc.mono ?_
  clear hc
  rintro e w1 ⟨_, rfl, rfl, E1⟩
  by_cases h0 : r = 0
  · have t1 : (r != 0) = false := by rw [h0]; rfl
    obtain ⟨hok, hx⟩ := apE_ok (hr.trans h0)
    have HE : Hid (inE t l = if pcsRight (invS t l) then 0 else 3) := Lib.hid (by unfold inE; rw [hr, if_pos h0])
    clear hr
    obtain ⟨n1, n2, n3⟩ := right_nn hok
    have m1 := normL_nn n1
    have m2 := normL_wt n1
    have m3 := normL_len l
    have m4 := normL_ext n1
    have m5 := puts_ok hok
    have eS := invS_eq t n1 hx
    have hn := normR_any l _ w1 (h.ext E1) n1 (by omega) (by omega)
    go_wp2_with fail
    refine hn.mono ?_
    clear hn
    rintro e w2 ⟨v2, rfl, O2, E12⟩
    have E2 := E1.trans E12
    have R2 := RdP.of_owns O2 m5
    have b2 := O2.lt
    obtain ⟨nl, hnl⟩ : ∃ nl, normL l = nl := ⟨_, rfl⟩
    rw [hnl] at O2 R2 m1 m2 m3 m4 m5 eS
    have HES := Lib.hid eS
    clear eS hnl
    obtain ⟨A2, c2, rfl, a1, a2, a3⟩ := id R2
    clear O2 E12
    unfold maxLen at a2
    go_wp2_with fail
    go_loopw [8, 9, 10] (fun s8 s9 s10 wr => ∃ (i n : Nat) (out : List Pc), s9 = .int .i64 n ∧ s10 = .int .i64 i ∧ i ≤ nl.length ∧ wr.ownsRow w2.heap.size 29 3 s8 out.length (pcVals out) ∧ out.length = i ∧ n + extL (nl.drop i) ≤ t.size ∧ Hid (out ++ invOut t n (nl.drop i) = invOut t 0 nl) ∧ Ext w2 wr) (fun _ _ i _ => nl.length - (intOf i).toNat)
    case atStart => exact ⟨0, 0, [], rfl, rfl, Nat.zero_le _, ⟨rfl, .inl ⟨rfl, rfl⟩⟩, rfl, by rw [List.drop_zero]; omega, Lib.hid rfl, Ext.refl _⟩
    case round =>
      obtain ⟨i, n, out, rfl, rfl, hi, hO, hol, hex, HW, hE⟩ := hrel
      rcases Nat.lt_or_ge i nl.length with hlt | hlt
      · obtain ⟨p, hp⟩ : ∃ p, nl[i]? = some p := ⟨_, List.getElem?_eq_getElem hlt⟩
        obtain ⟨ba, oa, rfl, ra⟩ := a3 (by omega)
        have hba : ba < w2.heap.size := lt_of_cell (rdPcs_at ra hp).1
        obtain ⟨e1, e2, e3, e4⟩ := rdPcs_at (rdPcs_ext hE ra) hp
        obtain ⟨k1, k2⟩ := m1.at hp
        have q1 : (0 : Int) ≤ (i : Int) := by omega
        have q2 : (i : Int) < (nl.length : Int) := by omega
        have HX := extL_at hp
        have z1 := extL_nn (m1.drop (i + 1))
        have HA := invOut_at t n hp
        obtain ⟨kn, hkn⟩ : ∃ n : Nat, p.keep = n := ⟨p.keep.toNat, by omega⟩
        obtain ⟨dn, hdn⟩ : ∃ n : Nat, p.drop = n := ⟨p.drop.toNat, by omega⟩
        rw [hkn, hdn, Int.toNat_natCast, Int.toNat_natCast] at HA
        rw [hkn] at e1
        rw [hdn] at e2
        have HW2 : Hid ((out ++ [⟨kn, p.put.size, t.extract (n + kn) (n + kn + dn)⟩]) ++ invOut t (n + kn + dn) (nl.drop (i + 1)) = invOut t 0 nl) := Lib.hid (by rw [← HW.out, HA, List.append_assoc]; rfl)
        have hex2 : ((n + kn + dn : Nat) : Int) + extL (nl.drop (i + 1)) ≤ t.size := by omega
        have y1 : ((n : Int) + (kn : Int)).toNat = n + kn := by omega
        have y2 : ((n : Int) + (kn : Int) + (dn : Int)).toNat = n + kn + dn := by omega
        have j1 : n + kn + dn ≤ t.size := by omega
        have j2 : ((n : Int) + (kn : Int) + (dn : Int)) ≤ (t.size : Int) := by omega
        have j3 : ((n : Int) + (kn : Int)) ≤ (n : Int) + (kn : Int) + (dn : Int) := by omega
        have j4 : (0 : Int) ≤ (n : Int) + (kn : Int) := by omega
        have w9 : IntKind.i64.wrap ((n : Int) + (kn : Int) + (dn : Int)) = (n : Int) + (kn : Int) + (dn : Int) := by rw [IntKind.wrap_i64]; omega
        unfold maxLen at e4
        obtain ⟨lA, lc, rfl, _⟩ := RdS.of_owns hO
        clear HA HX z1 hkn hdn k1 k2 hp hex HW ra a3
        go_wp2_with fail
        refine wp_region_held_drew (S := fun W => W.cell? ⟨ba, oa + i * 3, none⟩ = some (.int .i64 kn) ∧ W.cell? ⟨ba, oa + i * 3 + 1, none⟩ = some (.int .i64 dn) ∧ W.cell? ⟨ba, oa + i * 3 + 2, none⟩ = some (.string p.put)) (by kernel_rfl) (show _ ∧ _ ∧ _ from ⟨e1, e2, e3⟩) (fun hHeld => ?_)
        refine wpAnyH_take (i := 0) (oi := ⟨_, _, _, _, _, _⟩) (v := ?_) rfl (by kernel_rfl) (by kernel_rfl) (by kernel_rfl) (fun _ _ _ h => h) (Or.inl ⟨by rfl, ?_⟩) hHeld ?_
        rotate_left
        · intro w hSw
          obtain ⟨hs0, hs1, hs2⟩ := hSw
          go_simp
          all_goals (first | with_reducible rfl | rw [if_pos (by omega)])
        try simp only [Act.put, List.setIfInBounds_toArray, List.set_cons_zero, List.set_cons_succ]
        refine wpAnyH_take (i := 1) (oi := ⟨_, _, _, _, _, _⟩) (v := ?_) rfl (by kernel_rfl) (by kernel_rfl) (by kernel_rfl) (fun _ _ _ h => h) (Or.inl ⟨by rfl, ?_⟩) hHeld ?_
        rotate_left
        · intro w hSw
          obtain ⟨hs0, hs1, hs2⟩ := hSw
          go_simp
          all_goals (first | with_reducible rfl | rw [if_pos (by omega)])
        try simp only [Act.put, List.setIfInBounds_toArray, List.set_cons_zero, List.set_cons_succ]
        refine wpAnyH_take (i := 2) (oi := ⟨_, _, _, _, _, _⟩) (v := ?_) rfl (by kernel_rfl) (by kernel_rfl) (by kernel_rfl) (fun _ _ _ h => h) (Or.inl ⟨by rfl, ?_⟩) hHeld ?_
        rotate_left
        · intro w hSw
          obtain ⟨hs0, hs1, hs2⟩ := hSw
          go_simp
          all_goals (first | with_reducible rfl | rw [if_pos (by omega)])
        try simp only [Act.put, List.setIfInBounds_toArray, List.set_cons_zero, List.set_cons_succ]
        refine wpAnyH_take (i := 3) (oi := ⟨_, _, _, _, _, _⟩) (v := ?_) rfl (by kernel_rfl) (by kernel_rfl) (by kernel_rfl) (fun _ _ _ h => h) (Or.inl ⟨by rfl, ?_⟩) hHeld ?_
        rotate_left
        · intro w hSw
          obtain ⟨hs0, hs1, hs2⟩ := hSw
          go_simp
          all_goals (first | with_reducible rfl | rw [if_pos (by omega)])
        try simp only [Act.put, List.setIfInBounds_toArray, List.set_cons_zero, List.set_cons_succ]
        refine wpAnyH_take (i := 4) (oi := ⟨_, _, _, _, _, _⟩) (v := ?_) rfl (by kernel_rfl) (by kernel_rfl) (by kernel_rfl) (fun _ _ _ h => h) (Or.inl ⟨by rfl, ?_⟩) hHeld ?_
        rotate_left
        · intro w hSw
          obtain ⟨hs0, hs1, hs2⟩ := hSw
          go_simp
          all_goals (first | with_reducible rfl | rw [if_pos (by omega)])
        try simp only [Act.put, List.setIfInBounds_toArray, List.set_cons_zero, List.set_cons_succ]
        refine wpAnyH_take (i := 5) (oi := ⟨_, _, _, _, _, _⟩) (v := ?_) rfl (by kernel_rfl) (by kernel_rfl) (by kernel_rfl) (fun _ _ _ h => h) (Or.inl ⟨by rfl, ?_⟩) hHeld ?_
        rotate_left
        · intro w hSw
          obtain ⟨hs0, hs1, hs2⟩ := hSw
          go_simp
          all_goals (first | with_reducible rfl | rw [if_pos (by omega)])
        try simp only [Act.put, List.setIfInBounds_toArray, List.set_cons_zero, List.set_cons_succ]
        refine wpAnyH_take (i := 6) (oi := ⟨_, _, _, _, _, _⟩) (v := ?_) rfl (by kernel_rfl) (by kernel_rfl) (by kernel_rfl) (fun _ _ _ h => h) (Or.inl ⟨by rfl, ?_⟩) hHeld ?_
        rotate_left
        · intro w hSw
          obtain ⟨hs0, hs1, hs2⟩ := hSw
          go_simp
          all_goals (first | with_reducible rfl | rw [if_pos (by omega)])
        try simp only [Act.put, List.setIfInBounds_toArray, List.set_cons_zero, List.set_cons_succ]
        refine wpAnyH_take (i := 7) (oi := ⟨_, _, _, _, _, _⟩) (v := ?_) rfl (by kernel_rfl) (by kernel_rfl) (by kernel_rfl) (fun _ _ _ h => h) (Or.inl ⟨by rfl, ?_⟩) hHeld ?_
        rotate_left
        · intro w hSw
          obtain ⟨hs0, hs1, hs2⟩ := hSw
          go_simp
          all_goals (first | with_reducible rfl | rw [if_pos (by omega)])
        try simp only [Act.put, List.setIfInBounds_toArray, List.set_cons_zero, List.set_cons_succ]
        refine wpAnyH_take (i := 8) (oi := ⟨_, _, _, _, _, _⟩) (v := ?_) rfl (by kernel_rfl) (by kernel_rfl) (by kernel_rfl) (fun _ _ _ h => h) (Or.inl ⟨by rfl, ?_⟩) hHeld ?_
        rotate_left
        · intro w hSw
          obtain ⟨hs0, hs1, hs2⟩ := hSw
          go_simp
          all_goals (first | with_reducible rfl | rw [if_pos (by omega)])
        try simp only [Act.put, List.setIfInBounds_toArray, List.set_cons_zero, List.set_cons_succ]
        refine wpAnyH_take (i := 9) (oi := ⟨_, _, _, _, _, _⟩) (v := ?_) rfl (by kernel_rfl) (by kernel_rfl) (by kernel_rfl) (fun _ _ _ h => h) (Or.inl ⟨by rfl, ?_⟩) hHeld ?_
        rotate_left
        · intro w hSw
          obtain ⟨hs0, hs1, hs2⟩ := hSw
          go_simp
          all_goals (first | with_reducible rfl | rw [if_pos (by omega)])
        try simp only [Act.put, List.setIfInBounds_toArray, List.set_cons_zero, List.set_cons_succ]
        refine wpAnyH_take (i := 10) (oi := ⟨_, _, _, _, _, _⟩) (v := ?_) rfl (by kernel_rfl) (by kernel_rfl) (by kernel_rfl) (fun _ _ _ h => h) (Or.inl ⟨by rfl, ?_⟩) hHeld ?_
        rotate_left
        · intro w hSw
          obtain ⟨hs0, hs1, hs2⟩ := hSw
          go_simp
          all_goals (first | with_reducible rfl | rw [if_pos (by omega)])
        try simp only [Act.put, List.setIfInBounds_toArray, List.set_cons_zero, List.set_cons_succ]
        refine wpAnyH_take (i := 11) (oi := ⟨_, _, _, _, _, _⟩) (v := ?_) rfl (by kernel_rfl) (by kernel_rfl) (by kernel_rfl) (fun _ _ _ h => h) (Or.inl ⟨by rfl, ?_⟩) hHeld ?_
        rotate_left
        · intro w hSw
          obtain ⟨hs0, hs1, hs2⟩ := hSw
          go_simp
          all_goals (first | with_reducible rfl | rw [if_pos (by omega)])
        try simp only [Act.put, List.setIfInBounds_toArray, List.set_cons_zero, List.set_cons_succ]
        refine wpAnyH_take (i := 12) (oi := ⟨_, _, _, _, _, _⟩) (v := ?_) rfl (by kernel_rfl) (by kernel_rfl) (by kernel_rfl) (fun _ _ _ h => h) (Or.inl ⟨by rfl, ?_⟩) hHeld ?_
        rotate_left
        · intro w hSw
          obtain ⟨hs0, hs1, hs2⟩ := hSw
          go_simp
          all_goals (first | with_reducible rfl | rw [if_pos (by omega)])
        try simp only [Act.put, List.setIfInBounds_toArray, List.set_cons_zero, List.set_cons_succ]
        refine wpAnyH_take (i := 13) (oi := ⟨_, _, _, _, _, _⟩) (v := ?_) rfl (by kernel_rfl) (by kernel_rfl) (by kernel_rfl) (fun _ _ _ h => h) (Or.inl ⟨by rfl, ?_⟩) hHeld ?_
        rotate_left
        · intro w hSw
          obtain ⟨hs0, hs1, hs2⟩ := hSw
          go_simp
          all_goals (first | with_reducible rfl | rw [if_pos (by omega)])
        try simp only [Act.put, List.setIfInBounds_toArray, List.set_cons_zero, List.set_cons_succ]
        refine wpAnyH_take (i := 14) (oi := ⟨_, _, _, _, _, _⟩) (v := ?_) rfl (by kernel_rfl) (by kernel_rfl) (by kernel_rfl) (fun _ _ _ h => h) (Or.inl ⟨by rfl, ?_⟩) hHeld ?_
        rotate_left
        · intro w hSw
          obtain ⟨hs0, hs1, hs2⟩ := hSw
          go_simp
          all_goals (first | with_reducible rfl | rw [if_pos (by omega)])
        try simp only [Act.put, List.setIfInBounds_toArray, List.set_cons_zero, List.set_cons_succ]
        refine wpAnyH_take (i := 15) (oi := ⟨_, _, _, _, _, _⟩) (v := ?_) rfl (by kernel_rfl) (by kernel_rfl) (by kernel_rfl) (fun _ _ _ h => h) (Or.inl ⟨by rfl, ?_⟩) hHeld ?_
        rotate_left
        · intro w hSw
          obtain ⟨hs0, hs1, hs2⟩ := hSw
          go_simp
          all_goals (first | with_reducible rfl | rw [if_pos (by omega)])
        try simp only [Act.put, List.setIfInBounds_toArray, List.set_cons_zero, List.set_cons_succ]
        refine wpAnyH_take (i := 16) (oi := ⟨_, _, _, _, _, _⟩) (v := ?_) rfl (by kernel_rfl) (by kernel_rfl) (by kernel_rfl) (fun _ _ _ h => h) (Or.inl ⟨by rfl, ?_⟩) hHeld ?_
        rotate_left
        · intro w hSw
          obtain ⟨hs0, hs1, hs2⟩ := hSw
          go_simp
          all_goals (first | with_reducible rfl | rw [if_pos (by omega)])
        try simp only [Act.put, List.setIfInBounds_toArray, List.set_cons_zero, List.set_cons_succ]
        refine wpAnyH_take (i := 17) (oi := ⟨_, _, _, _, _, _⟩) (v := ?_) rfl (by kernel_rfl) (by kernel_rfl) (by kernel_rfl) (fun _ _ _ h => h) (Or.inl ⟨by rfl, ?_⟩) hHeld ?_
        rotate_left
        · intro w hSw
          obtain ⟨hs0, hs1, hs2⟩ := hSw
          go_simp
          all_goals (first | with_reducible rfl | rw [if_pos (by omega)])
        try simp only [Act.put, List.setIfInBounds_toArray, List.set_cons_zero, List.set_cons_succ]
        refine wpAnyH_take (i := 18) (oi := ⟨_, _, _, _, _, _⟩) (v := ?_) rfl (by kernel_rfl) (by kernel_rfl) (by kernel_rfl) (fun _ _ _ h => h) (Or.inl ⟨by rfl, ?_⟩) hHeld ?_
        rotate_left
        · intro w hSw
          obtain ⟨hs0, hs1, hs2⟩ := hSw
          go_simp
          all_goals (first | with_reducible rfl | rw [if_pos (by omega)])
        try simp only [Act.put, List.setIfInBounds_toArray, List.set_cons_zero, List.set_cons_succ]
        refine wpAnyH_take (i := 19) (oi := ⟨_, _, _, _, _, _⟩) (v := ?_) rfl (by kernel_rfl) (by kernel_rfl) (by kernel_rfl) (fun _ _ _ h => h) (Or.inl ⟨by rfl, ?_⟩) hHeld ?_
        rotate_left
        · intro w hSw
          obtain ⟨hs0, hs1, hs2⟩ := hSw
          go_simp
          all_goals (first | with_reducible rfl | rw [if_pos (by omega)])
        try simp only [Act.put, List.setIfInBounds_toArray, List.set_cons_zero, List.set_cons_succ]
        refine wpAnyH_take (i := 20) (oi := ⟨_, _, _, _, _, _⟩) (v := ?_) rfl (by kernel_rfl) (by kernel_rfl) (by kernel_rfl) (fun _ _ _ h => h) (Or.inl ⟨by rfl, ?_⟩) hHeld ?_
        rotate_left
        · intro w hSw
          obtain ⟨hs0, hs1, hs2⟩ := hSw
          go_simp
          all_goals (first | with_reducible rfl | rw [if_pos (by omega)])
        try simp only [Act.put, List.setIfInBounds_toArray, List.set_cons_zero, List.set_cons_succ]
        refine wpAnyH_take (i := 21) (oi := ⟨_, _, _, _, _, _⟩) (v := ?_) rfl (by kernel_rfl) (by kernel_rfl) (by kernel_rfl) (fun _ _ _ h => h) (Or.inl ⟨by rfl, ?_⟩) hHeld ?_
        rotate_left
        · intro w hSw
          obtain ⟨hs0, hs1, hs2⟩ := hSw
          go_simp
          all_goals (first | with_reducible rfl | rw [if_pos (by omega)])
        try simp only [Act.put, List.setIfInBounds_toArray, List.set_cons_zero, List.set_cons_succ]
        refine wpAnyH_take (i := 22) (oi := ⟨_, _, _, _, _, _⟩) (v := ?_) rfl (by kernel_rfl) (by kernel_rfl) (by kernel_rfl) (fun _ _ _ h => h) (Or.inl ⟨by rfl, ?_⟩) hHeld ?_
        rotate_left
        · intro w hSw
          obtain ⟨hs0, hs1, hs2⟩ := hSw
          go_simp
          all_goals (first | with_reducible rfl | rw [if_pos (by omega)])
        try simp only [Act.put, List.setIfInBounds_toArray, List.set_cons_zero, List.set_cons_succ]
        refine wpAnyH_ready (rs := [23]) (by kernel_rfl) (by simp) ?_
        refine AllReadyH.cons (o := ⟨_, _, _, _, _, _⟩) rfl (fun K' hK => ?_) (AllReadyH.nil)
        go_simp
        obtain ⟨y, hy⟩ : ∃ y, t.extract (n + kn) (n + kn + dn) = y := ⟨_, rfl⟩
        have HY := Lib.hid hy
        rw [hy] at HW2
        try rw [hy]
        have X2 : Ext wr ((wr.alloc (.cells #[.int .i64 kn, .int .i64 p.put.size, .string y] 29)).drew) := ((Ext.refl wr).alloc _).drew
        refine hK.out _ _ (show _ ∧ _ ∧ _ from ⟨X2.cell e1, X2.cell e2, X2.cell e3⟩) (fun hHeld => ?_)
        clear hK K' hy
        try simp only [Act.put, List.setIfInBounds_toArray, List.set_cons_zero, List.set_cons_succ]
        obtain ⟨w4, hw4⟩ : ∃ W, (wr.alloc (.cells #[.int .i64 kn, .int .i64 p.put.size, .string y] 29)).drew = W := ⟨_, rfl⟩
        have hR1 : RdS w4 3 1 [.int .i64 kn, .int .i64 p.put.size, .string y] (.slice (some ⟨wr.heap.size, 0, none⟩) 1 1) := by rw [← hw4]; exact RdS.ext ((Ext.refl _).drew) (RdS.one (cs := #[.int .i64 kn, .int .i64 p.put.size, .string y]) rfl)
        rw [hw4] at X2
        have O4 := owns_ext X2 hO
        have E4 := hE.trans X2
        have hHeld : w4.cell? ⟨ba, oa + i * 3, none⟩ = some (.int .i64 kn) ∧ w4.cell? ⟨ba, oa + i * 3 + 1, none⟩ = some (.int .i64 dn) ∧ w4.cell? ⟨ba, oa + i * 3 + 2, none⟩ = some (.string p.put) := ⟨X2.cell e1, X2.cell e2, X2.cell e3⟩
        rw [hw4]
        clear hw4
        refine wpAnyH_ready (rs := [24]) (by kernel_rfl) (by simp) ?_
        refine AllReadyH.cons (o := ⟨_, _, _, _, _, _⟩) rfl (fun K' hK => ?_) (AllReadyH.nil)
        rw [hol] at O4
        refine wp_append_rd rfl T22 (by rfl) O4 (by rfl) hR1 (fun u hu => by simp only [List.mem_cons, List.not_mem_nil, or_false] at hu; rcases hu with rfl | rfl | rfl <;> rfl) (by omega) (by simp only [maxLen]; omega) E4.size ?_
        intro v3 w3 O3 hg3 hat3
        have hne : (Value.slice lA i lc).ownBlock ≠ some ba := fun hk => by have := owns_base O4 _ hk; omega
        have F3 := Fr.grown hg3
        have E3 : Ext w2 w3 := Fr.ext E4 F3 (fun k hk => owns_base O4 k hk)
        refine hK.out _ _ (show _ ∧ _ ∧ _ from ⟨F3.cell hne hHeld.1, F3.cell hne hHeld.2.1, F3.cell hne hHeld.2.2⟩) (fun hHeld => ?_)
        clear hK K'
        try simp only [Act.put, List.setIfInBounds_toArray, List.set_cons_zero, List.set_cons_succ]
        refine wpAnyH_take (i := 25) (oi := ⟨_, _, _, _, _, _⟩) (v := ?_) rfl (by kernel_rfl) (by kernel_rfl) (by kernel_rfl) (fun _ _ _ h => h) (Or.inl ⟨by rfl, ?_⟩) hHeld ?_
        rotate_left
        · intro w hSw
          obtain ⟨hs0, hs1, hs2⟩ := hSw
          go_simp
          all_goals (first | with_reducible rfl | rw [if_pos (by omega)])
        try simp only [Act.put, List.setIfInBounds_toArray, List.set_cons_zero, List.set_cons_succ]
        refine wpAnyH_done (by kernel_rfl) ?_ _
        clear hHeld
        replace e2 := F3.cell hne (X2.cell e2)
        go_wp2_with fail
        go_roundw
        case rel => exact ⟨i + 1, n + kn + dn, out ++ [⟨kn, p.put.size, y⟩], by go_num, by go_num, by omega, by rw [List.length_append, hol, pcVals_append]; exact O3, by rw [List.length_append, hol]; rfl, hex2, HW2, E3⟩
        case measure => simp [intOf]; omega
      · have HF : Hid (out = invOut t 0 nl) := Lib.hid (by rw [← HW.out, List.drop_eq_nil_of_le hlt]; simp [invOut])
        obtain ⟨z1, z2, z3⟩ := invOut_nn t 0 m1
        rw [← HF.out] at z1 z2 z3
        have okp : ∀ q ∈ out, okStr q.put := fun q hq => by
          have h1 := wt_mem z1 hq
          have h2 := z1 q hq
          unfold okStr maxLen; omega
        have hn := normR_any out _ wr (RdP.of_owns hO okp) z1 (by omega) (by omega)
        have EE := E2.trans hE
        have HS : Hid (normL out = invS t l) := Lib.hid (by rw [HES.out, HF.out])
        have n5 := normL_wt z1
        have n6 := normL_nn z1
        obtain ⟨lA, lc, rfl, _⟩ := RdS.of_owns hO
        clear HW hO hE okp hol z2
        go_wp2_with fail
        refine hn.mono ?_
        clear hn
        rintro e w5 ⟨v5, rfl, O5, E5⟩
        have E6 := EE.trans E5
        have R5 := RdP.of_owns O5 (fun q hq => by
          have h1 := wt_mem n6 hq
          have h2 := n6 q hq
          unfold okStr maxLen; omega)
        rw [HS.out] at R5
        have hc := rightR_any _ _ w5 R5
        obtain ⟨ty, hty⟩ : ∃ t', pcsRight (invS t l) = t' := ⟨_, rfl⟩
        rw [hty] at hc
        have HT := Lib.hid hty
        obtain ⟨A5, c5, rfl, _⟩ := id R5
        clear hty O5
        go_wp2_with fail
        refine hc.mono ?_
        clear hc
        rintro e w6 ⟨_, rfl, rfl, E56⟩
        have E7 := E6.trans E56
        replace R5 := R5.ext E56
        cases ty with
        | false =>
          go_wp2_with fail
          go_ret2
          have e0 : inE t l = 3 := by rw [HE.out, HT.out]; rfl
          rw [show inL t l = [] by unfold inL; rw [e0]; rfl, e0]
          exact ⟨_, rfl, RdP.nil _, E7⟩
        | true =>
          go_wp2_with fail
          go_ret2
          have e0 : inE t l = 0 := by rw [HE.out, HT.out]; rfl
          rw [show inL t l = invS t l by unfold inL; rw [e0]; rfl, e0]
          exact ⟨_, rfl, R5, E7⟩
  · have t1 : (r != 0) = true := by simpa using h0
    have e0 : inE t l = r := by unfold inE; rw [hr, if_neg h0]
    have e1 : inL t l = [] := by unfold inL; rw [e0, if_neg h0]
    have H0 := Lib.hid e0
    have H1 := Lib.hid e1
    clear e0 e1 hr
    go_wp2_with fail
    go_ret2
    rw [H0.out, H1.out]
    exact ⟨_, rfl, RdP.nil _, E1⟩
end Go.Proofs.Ytmncjknfkkedmaa.Lx
