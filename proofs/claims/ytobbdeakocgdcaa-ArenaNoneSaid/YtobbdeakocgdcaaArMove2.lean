/- Chapter 07: Move (25), done. (Printed by garmov.py.) -/
import Derived.Test.YtobbdeakocgdcaaArMove
namespace Go.Proofs.Ytobbdeakocgdcaa.Ar
open Go.RowKit Go.Proofs.Ytobbdeakocgdcaa.Bw

section
variable {w : World} {ρ : Nat → Tg} {base A : Nat} {S : St} {sv fv : Value} {bs : List Nat}
set_option maxRecDepth 100000 in
set_option maxHeartbeats 4000000 in
theorem move_yes {d : Nat → Nat} (h : AP w ρ base A S sv fv bs) (ht : TI S d) (n p0 q g : Nat) (h0 : n ≠ 0) (hn : S.liveB n = true) (hq : S.liveB q = true) (ha : ¬ Anc S q n) (he : (S.get q).takes (g : Int) = 0) (hpar : (S.get n).parent = (p0 : Int)) (hp0 : p0 < S.sl.length) (hm : n ∈ (S.get p0).kids) (hnp : n ≠ p0) (hbig : bs.length ≤ 1000000) (hkn : ∀ m, (S.get m).kids.length < 900000) :
    Calls Try.prog 25 #[.pointer (some ⟨A, 0, none⟩), .int .i64 (n : Int), .int .i64 (q : Int), .int .i64 (g : Int)] w fun e w' => e = .returned (.int .i64 0) ∧ ∃ ρ', AP w' ρ' base A (S.move n p0 q g) sv fv bs ∧ Step w ρ w' ρ' := by
  have h1 := live_any h n hbig
  have h2 := live_any h q hbig
  rw [hn, if_pos rfl] at h1
  rw [hq, if_pos rfl] at h2
  rw [liveB_nat] at hn hq
  simp only [Bool.and_eq_true, decide_eq_true_eq] at hn hq
  have h3 : Calls Try.prog 47 #[.pointer (some ⟨A, 0, none⟩), .int .i64 (q : Int), .int .i64 (n : Int)] w fun e w' => e = .returned (.bool false) ∧ w' = w := by
    refine (under_any h ht q n hq.1 hq.2 hbig).mono ?_
    rintro e w' ⟨r, rfl, hr, rfl⟩
    refine ⟨?_, rfl⟩
    rcases r with _ | _
    · rfl
    · exact absurd (hr.1 rfl) ha
  have h4 := takes_any h q g hq.1
  rw [he] at h4
  rw [show (q : Int).toNat = q from Int.toNat_natCast q] at h2
  rw [show (n : Int).toNat = n from Int.toNat_natCast n] at h1
  have hu := unlink_any h n p0 hn.1 hp0 hpar hm hbig
  have hnq : n ≠ q := by rintro rfl; exact ha (.refl _)
  have t1 : decide ((n : Int) = 0) = false := decide_eq_false (by omega)
  have t2 : ((n : Int) == 0) = false := by simp; omega
  obtain ⟨_, -, hgk⟩ := takes_ok he
  have hix : (S.get p0).kids.idxOf n < (S.get p0).kids.length := List.idxOf_lt_length_of_mem hm
  have hel : ((S.get p0).kids.erase n).length = (S.get p0).kids.length - 1 := List.length_erase_of_mem hm
  obtain ⟨S1, hS1⟩ : ∃ S1, S.setKids p0 ((S.get p0).kids.erase n) = S1 := ⟨_, rfl⟩
  have hg1 : ∀ m, S1.get m = if m = p0 then { S.get p0 with kids := (S.get p0).kids.erase n } else S.get m := fun m => by rw [← hS1]; exact setKids_get S p0 _ m hp0
  have hl1 : S1.sl.length = S.sl.length := by rw [← hS1]; exact setKids_len _ _ _
  have hpn1 : (S1.get n).parent = (p0 : Int) := by rw [hg1, if_neg hnp]; exact hpar
  obtain ⟨ix, hixe⟩ : ∃ i, (S.get p0).kids.idxOf n = i := ⟨_, rfl⟩
  obtain ⟨g', hge⟩ : ∃ x, gapOf (decide (p0 = q)) ix g = x := ⟨_, rfl⟩
  have hg'k : g' ≤ (S1.get q).kids.length := by
    rw [← hge, hg1]
    by_cases hqp : q = p0
    · subst hqp
      rw [if_pos rfl]
      show gapOf _ ix g ≤ ((S.get q).kids.erase n).length
      rw [hel, gapOf]
      split
      · rename_i hc
        have := hc.2
        omega
      · rename_i hc
        have : ¬ ix < g := fun h => hc ⟨decide_eq_true rfl, h⟩
        omega
    · rw [if_neg hqp, gapOf, if_neg (by rintro ⟨e, _⟩; exact hqp (of_decide_eq_true e).symm)]
      omega
  have hk1 : (S1.get q).kids.length < 900000 := by
    rw [hg1]
    split
    · show ((S.get p0).kids.erase n).length < 900000
      have := hkn p0
      omega
    · exact hkn q
  obtain ⟨S2, hS2⟩ : ∃ S2, S1.setKids q (insAt (S1.get q).kids g' n) = S2 := ⟨_, rfl⟩
  have hmv : S.move n p0 q g = ⟨S2.sl.set n { S2.get n with parent := (q : Int) }, S2.free⟩ := by
    unfold St.move
    simp only [hS1, hixe, hge, hS2]
  have hl2 : S2.sl.length = S.sl.length := by rw [← hS2, setKids_len, hl1]
  have hg2k : (S2.get n).kids.length < 900000 := by
    rw [← hS2, setKids_get S1 q _ n (by rw [hl1]; exact hq.1), if_neg hnq, hg1, if_neg hnp]
    exact hkn n
  have HS2 := Lib.hid hS2
  have HMV := Lib.hid hmv
  have HGE := Lib.hid hge
  rw [hS1, hixe] at hu
  have hixb : ix ≤ 1000000 := by have := hkn p0; omega
  have hgb : g ≤ 1000000 := by have := hkn q; omega
  have hnl := hn.1
  have hql := hq.1
  have hn16 : n < 16 * bs.length := Nat.lt_of_lt_of_le hnl h.room
  have hq16 : q < 16 * bs.length := Nat.lt_of_lt_of_le hql h.room
  obtain ⟨bn, hbn⟩ : ∃ b, bs[n / 16]? = some b := ⟨_, List.getElem?_eq_getElem (by omega)⟩
  obtain ⟨bq, hbq⟩ : ∃ b, bs[q / 16]? = some b := ⟨_, List.getElem?_eq_getElem (by omega)⟩
  have hsn : slotAt bs n = ⟨bn, n % 16 * 8, none⟩ := by simp [slotAt, List.getD, hbn]
  have hsq : slotAt bs q = ⟨bq, q % 16 * 8, none⟩ := by simp [slotAt, List.getD, hbq]
  rw [hsn] at h1
  rw [hsq] at h2 h4
  -- behind unlink: an insertion at q, then the parent
  have HINS := Lib.hid (show ∀ (w2 : World) (ρ2 : Nat → Tg), AP w2 ρ2 base A S1 sv fv bs → Step w ρ w2 ρ2 → ∃ kA kc, w2.cell? ⟨bq, q % 16 * 8 + 7, none⟩ = some (.slice kA (S1.get q).kids.length kc) ∧ w2.cell? ⟨bn, n % 16 * 8 + 6, none⟩ = some (.int .i64 (p0 : Int)) ∧
      Calls Try.prog 45 #[.slice kA (S1.get q).kids.length kc, .int .i64 (g' : Int), .slice (some ⟨w2.heap.size, 0, none⟩) 1 1] (w2.alloc (.cells #[.int .i64 (n : Int)] 3)) fun e w3 => ∃ A7 c7, e = .returned (.slice A7 (insAt (S1.get q).kids g' n).length c7) ∧ w3.cell? ⟨bq, q % 16 * 8 + 7, none⟩ = some (.slice kA (S1.get q).kids.length kc) ∧ w3.frozen? ⟨bq, q % 16 * 8 + 7, none⟩ = false ∧
        ∃ ρ3, AP (w3.setCells bq (q % 16 * 8 + 7) [.slice A7 (insAt (S1.get q).kids g' n).length c7]) ρ3 base A S2 sv fv bs ∧ Step w ρ (w3.setCells bq (q % 16 * 8 + 7) [.slice A7 (insAt (S1.get q).kids g' n).length c7]) ρ3 from by
    intro w2 ρ2 a2 st2
    obtain ⟨b6, cs6, av6, kv6, k1, k2, k3, k4, k5, k6⟩ := a2.slot hq16
    obtain ⟨b5, cs5, av5, kv5, j1, j2, j3, j4, j5, j6⟩ := a2.slot hn16
    have e6 : b6 = bq := by rw [hbq] at k1; exact (Option.some.inj k1).symm
    subst e6
    have e5 : b5 = bn := by rw [hbn] at j1; exact (Option.some.inj j1).symm
    subst e5
    obtain ⟨kA, kc, hkv, -, -⟩ := owns_slice k6.ks
    have E6 : Ext w2 (w2.alloc (.cells #[.int .i64 (n : Int)] 3)) := (Ext.refl _).alloc _
    have bv6 : NBox (w2.alloc (.cells #[.int .i64 (n : Int)] 3)) w2.heap.size 3 #[.int .i64 (n : Int)] := NBox.new _ _ _
    have a6 := a2.ext E6
    have hs6 := k6.fr (ρ' := ρ2) (Fr.of_ext E6 (fun _ => False)) (fun _ _ => id) (fun _ _ => id) (fun _ _ => rfl)
    have k36 := k3.ext E6
    have hins := insert_any kv6 (S1.get q).kids base g' n w2.heap.size _ hs6.ks hg'k (by omega) bv6 (fun e => by have := (k6.ks.lt _ e).2; omega) a6.lo
    have hbt6 : ρ2 b6 = .slab := by obtain ⟨_, _, _, h3, _⟩ := a6.slab _ b6 k1; exact h3
    refine ⟨kA, kc, by rw [k3.cell, ← hkv]; exact k5 7 _ rfl, by rw [j3.cell, ← hpn1]; exact j5 6 _ rfl, ?_⟩
    rw [← hkv]
    refine hins.mono ?_
    rintro e w3 ⟨v7, rfl, hO7, F7, hv7⟩
    obtain ⟨A7, c7, rfl, -, -⟩ := owns_slice hO7
    have g9 := k36.fr F7 (fun e => by have := hs6.kvt b6 e; rw [hbt6] at this; cases this)
    obtain ⟨ρ3, a3, s3⟩ := a6.kidsPut (by rw [hl1]; exact hql) F7 k1 k36 k4 k5 hs6 hO7 hv7 (by rw [len_insAt]; omega)
    rw [HS2.out] at a3
    exact ⟨A7, c7, rfl, by rw [g9.cell]; exact k5 7 _ rfl, g9.frozen _, ρ3, a3, st2.trans ((Step.ext E6).trans s3)⟩)
  have HPAR := Lib.hid (show ∀ (w4 : World) (ρ4 : Nat → Tg), AP w4 ρ4 base A S2 sv fv bs → Step w ρ w4 ρ4 → (∃ v, w4.cell? ⟨bn, n % 16 * 8 + 6, none⟩ = some (.int .i64 v)) ∧ w4.frozen? ⟨bn, n % 16 * 8 + 6, none⟩ = false ∧ ∃ ρ', AP (w4.setCells bn (n % 16 * 8 + 6) [.int .i64 (q : Int)]) ρ' base A (S.move n p0 q g) sv fv bs ∧ Step w ρ (w4.setCells bn (n % 16 * 8 + 6) [.int .i64 (q : Int)]) ρ' from by
    intro w4 ρ4 a4 s4
    obtain ⟨b5, cs5, av5, kv5, j1, j2, j3, j4, j5, j6⟩ := a4.slot hn16
    have e5 : b5 = bn := by rw [hbn] at j1; exact (Option.some.inj j1).symm
    subst e5
    refine ⟨⟨_, by rw [j3.cell]; exact j5 6 _ rfl⟩, j3.frozen _, ρ4, ?_, s4.trans (a4.put_step (Fr.refl _ (fun k => ρ4 k = .kids n)) j1 _ (fun _ _ => rfl))⟩
    rw [HMV.out]
    exact a4.put (s' := { S2.get n with parent := (q : Int) }) (av' := av5) (kv' := kv5) (by rw [hl2]; exact hnl) (Fr.refl _ _) (fun _ _ => rfl) (fun k hk => (a4.old k hk).2) j1 j3 j4 j5 (by simp) ⟨j6.da, j6.avt, j6.ks, j6.kvt⟩ (by simp [slCells]) (by show (S2.get n).kids.length ≤ 1000000; omega))
  clear h ht hn hq ha he hpar hm hS1 hS2 hmv hge hg1 hpn1 hix hel hixe hbn hbq hsn hsq hl1 hl2 hg2k hgk hkn
  go_enter Try.func25, Try.ntmps25
  go_upto_region 14 with (first
    | (go_at_call 42; first | (refine h1.mono ?_; clear h1; rintro e w1 ⟨rfl, rfl⟩) | (refine h2.mono ?_; clear h2; rintro e w1 ⟨rfl, rfl⟩))
    | (go_at_call 47; refine h3.mono ?_; rintro e w1 ⟨rfl, rfl⟩)
    | (go_at_call 44; refine h4.mono ?_; rintro e w1 ⟨rfl, rfl⟩)
    | (go_at_call 46; refine hu.mono ?_; clear hu h4 h3; rintro e w2 ⟨rfl, ρ2, a2, st2⟩; obtain ⟨kA, kc, c7, c6, hins⟩ := HINS.out _ _ a2 st2))
  clear a2 st2 HINS
  by_cases hpq : p0 = q
  · subst hpq
    have t3 : decide ((p0 : Int) = (p0 : Int)) = true := decide_eq_true rfl
    rcases Nat.lt_or_ge ix g with hig | hig
    · have t4 : decide ((ix : Int) < (g : Int)) = true := decide_eq_true (by omega)
      have hg1 : g' = g - 1 := by rw [← HGE.out, gapOf, if_pos ⟨decide_eq_true rfl, hig⟩]
      obtain ⟨gg, rfl⟩ : ∃ gg, g = gg + 1 := ⟨g - 1, by omega⟩
      obtain rfl : g' = gg := by omega
      clear hg1
      go_upto_region 17 with (first
        | (go_at_call 45; refine hins.mono ?_; clear hins c7 c6; rintro e w3 ⟨A7, c7, rfl, c7', f7, ρ3, a3, s3⟩))
      obtain ⟨w4, hw4⟩ : ∃ W, w3.setCell ⟨bq, p0 % 16 * 8 + 7, none⟩ (.slice A7 (insAt (S1.get p0).kids g' n).length c7) = W := ⟨_, rfl⟩
      rw [show w3.setCells bq (p0 % 16 * 8 + 7) [.slice A7 (insAt (S1.get p0).kids g' n).length c7] = w4 from hw4] at a3 s3
      rw [hw4]
      clear hw4 c7' f7
      obtain ⟨⟨v6, c6⟩, f6, hP⟩ := HPAR.out _ _ a3 s3
      go_wp2_with fail
      go_ret
      exact ⟨rfl, hP⟩
    · have t4 : decide ((ix : Int) < (g : Int)) = false := decide_eq_false (by omega)
      obtain rfl : g' = g := by rw [← HGE.out, gapOf, if_neg (fun h => by omega)]
      go_upto_region 17 with (first
        | (go_at_call 45; refine hins.mono ?_; clear hins c7 c6; rintro e w3 ⟨A7, c7, rfl, c7', f7, ρ3, a3, s3⟩))
      obtain ⟨w4, hw4⟩ : ∃ W, w3.setCell ⟨bq, p0 % 16 * 8 + 7, none⟩ (.slice A7 (insAt (S1.get p0).kids g' n).length c7) = W := ⟨_, rfl⟩
      rw [show w3.setCells bq (p0 % 16 * 8 + 7) [.slice A7 (insAt (S1.get p0).kids g' n).length c7] = w4 from hw4] at a3 s3
      rw [hw4]
      clear hw4 c7' f7
      obtain ⟨⟨v6, c6⟩, f6, hP⟩ := HPAR.out _ _ a3 s3
      go_wp2_with fail
      go_ret
      exact ⟨rfl, hP⟩
  · have t3 : decide ((p0 : Int) = (q : Int)) = false := decide_eq_false (by omega)
    have t5 : ((p0 : Int) == (q : Int)) = false := by simp; omega
    obtain rfl : g' = g := by rw [← HGE.out, gapOf, if_neg (fun h => hpq (of_decide_eq_true h.1))]
    go_upto_region 17 with (first
      | (go_at_call 45; refine hins.mono ?_; clear hins c7 c6; rintro e w3 ⟨A7, c7, rfl, c7', f7, ρ3, a3, s3⟩))
    obtain ⟨w4, hw4⟩ : ∃ W, w3.setCell ⟨bq, q % 16 * 8 + 7, none⟩ (.slice A7 (insAt (S1.get q).kids g' n).length c7) = W := ⟨_, rfl⟩
    rw [show w3.setCells bq (q % 16 * 8 + 7) [.slice A7 (insAt (S1.get q).kids g' n).length c7] = w4 from hw4] at a3 s3
    rw [hw4]
    clear hw4 c7' f7
    obtain ⟨⟨v6, c6⟩, f6, hP⟩ := HPAR.out _ _ a3 s3
    go_wp2_with fail
    go_ret
    exact ⟨rfl, hP⟩
end
end Go.Proofs.Ytobbdeakocgdcaa.Ar
