/- Chapter 05: the law LeaftextNorm. -/
import Derived.Test.YtmncjknfkkedmaaLxWorks
import Derived.Test.YtmncjknfkkedmaaLxRNorm2
import Derived.Test.YtmncjknfkkedmaaLxSmall
namespace Go.Proofs.Ytmncjknfkkedmaa.Lx
open Go.RowKit Go.Proofs.Ytmncjknfkkedmaa.Bw Go.Proofs.Ytmncjknfkkedmaa.Bs

set_option maxRecDepth 100000 in
set_option maxHeartbeats 2000000 in
theorem refNorm_any (l : List Pc) (v : Value) (w : World) (h : RdP w l v) : Calls Try.prog 16 #[v] w fun e w' => ∃ v', e = .returned v' ∧ w'.ownsRow w.heap.size 29 3 v' (normR l).length (pcVals (normR l)) ∧ Ext w w' := by
  have hc := rightR_any l v w h
  obtain ⟨A, c, rfl, _⟩ := id h
  obtain ⟨r, hr⟩ : ∃ r, pcsRight l = r := ⟨_, rfl⟩
  rw [hr] at hc
  have HR := Lib.hid hr
  clear hr
  go_enter Try.func16, Try.ntmps16
  go_wp2_with fail
  refine hc.mono ?_
  clear hc
  rintro e w1 ⟨_, rfl, rfl, E1⟩
  cases r with
  | false =>
    go_wp2_with fail
    go_ret
    have e0 : normR l = [] := by unfold normR; rw [HR.out]; rfl
    rw [e0]
    exact ⟨_, rfl, ⟨rfl, .inl ⟨rfl, rfl⟩⟩, E1⟩
  | true =>
    obtain ⟨n1, n2, n3⟩ := right_nn HR.out
    have hn := normR_any l _ w1 (h.ext E1) n1 (by omega) (by omega)
    go_wp2_with fail
    refine hn.mono ?_
    clear hn
    rintro e w2 ⟨v', rfl, O, E2⟩
    go_wp2_with fail
    go_ret
    have e0 : normR l = normL l := by unfold normR; rw [HR.out]; rfl
    rw [e0]
    exact ⟨_, rfl, owns_mono O E1.size, E1.trans E2⟩

theorem rdPcs_ok {w : World} {b : Nat} : ∀ {l : List Pc} {off : Nat}, rdPcs w b off l → ∀ p ∈ l, okStr p.put
  | [], _, _ => fun _ hp => absurd hp List.not_mem_nil
  | _ :: _, _, ⟨_, _, _, h4, h5⟩ => fun p hp => (List.mem_cons.1 hp).elim (fun e => e ▸ h4) (rdPcs_ok h5 p)
theorem RdP.okp {w : World} {l : List Pc} {v : Value} (h : RdP w l v) : ∀ p ∈ l, okStr p.put := by
  obtain ⟨A, c, rfl, a1, a2, a3⟩ := h
  intro p hp
  obtain ⟨b, off, _, hr⟩ := a3 (List.length_pos_of_mem hp)
  exact rdPcs_ok hr p hp
theorem RdP.rds {w : World} {l : List Pc} {v : Value} (h : RdP w l v) : RdS w 3 l.length (pcVals l) v := by
  obtain ⟨A, c, rfl, a1, a2, a3⟩ := h
  refine ⟨A, c, rfl, pcVals_len l, a1, a2, fun h0 => ?_⟩
  obtain ⟨b, off, rfl, hr⟩ := a3 h0
  exact ⟨b, off, rfl, fun j u hu => rdPcs_cell hr hu⟩
theorem vals_one (l : List Pc) : ∀ u ∈ pcVals l, u.oneCell' = true := by
  intro u hu
  obtain ⟨p, _, hp⟩ := List.mem_flatMap.1 hu
  simp only [Pc.vals, List.mem_cons, List.not_mem_nil, or_false] at hp
  rcases hp with rfl | rfl | rfl <;> rfl
theorem normR_ok {l : List Pc} : ∀ p ∈ normR l, okStr p.put := by
  unfold normR
  split
  · rename_i h; exact puts_ok h
  · intro p hp; exact absurd hp List.not_mem_nil
theorem pcsEq_refl (l : List Pc) : pcsEq l l = true := pcsEq_iff.2 rfl

set_option maxRecDepth 100000 in
set_option maxHeartbeats 4000000 in
theorem lawNorm (l : List Pc) (v : Value) (w : World) (h : RdP w l v) : Calls Try.prog 4 #[v] w (Ret w fun r _ => r = .bool true) := by
  have hc := small_any l v 400 w h (by decide) (by decide)
  obtain ⟨A, c, rfl, _⟩ := id h
  go_enter Try.func4, Try.ntmps4
  go_wp2_with fail
  refine hc.mono ?_
  clear hc
  rintro e w1 ⟨_, rfl, ⟨b, rfl, hb⟩, E1⟩
  cases b with
  | false =>
    have hk := works_any w1
    go_wp2_with fail
    refine hk.mono ?_
    clear hk
    rintro e w2 ⟨_, rfl, rfl, E2⟩
    go_wp2_with fail
    go_ret
    exact ⟨_, rfl, rfl, E1.trans E2⟩
  | true =>
    obtain ⟨b1, _⟩ := hb rfl
    clear hb
    have hR := (h.ext E1).rds
    have hok := h.okp
    have own0 : w1.ownsRow w1.heap.size 29 3 (.slice none 0 0) 0 (pcVals []) := ⟨rfl, .inl ⟨rfl, rfl⟩⟩
    go_wp2_with (at_builtin; refine wpList_append_rd rfl rfl T22 (v := _) (by rfl) own0 (by rfl) hR (vals_one l) (by omega) (by simp only [maxLen]; omega) (Nat.le_refl _) ?_)
    intro v2 w2 O2 hg2 hat2
    have O2' : w2.ownsRow w1.heap.size 29 3 v2 l.length (pcVals l) := by first | exact O2 | (rw [Nat.zero_add] at O2; exact O2)
    have E2 : Ext w w2 := Fr.ext E1 (Fr.grown hg2) (fun k hk => by simp [Value.ownBlock] at hk)
    have V2 := RowV.of_owns O2' hok
    have hn := Norm_any l v2 w2 V2.rd
    have g2 := O2'.lt
    obtain ⟨A2, c2, rfl, _⟩ := RdS.of_owns O2'
    clear O2 O2' hg2 hat2 own0 hR
    go_wp2_with fail
    refine hn.mono ?_
    clear hn
    rintro e w3 ⟨v3, rfl, O3, E23⟩
    have E3 := E2.trans E23
    have l3 := O3.lt
    replace V2 := V2.fr (Fr.of_ext E23 (fun _ => False)) (by simp)
    have hn := refNorm_any l _ w3 (h.ext E3)
    go_wp2_with fail
    refine hn.mono ?_
    clear hn
    rintro e w4 ⟨v4, rfl, O4, E34⟩
    have E4 := E3.trans E34
    replace V2 := V2.fr (Fr.of_ext E34 (fun _ => False)) (by simp)
    replace O3 := owns_ext E34 O3
    have g3 := owns_base O3
    have V3 := RowV.of_owns O3 normR_ok
    have V4 := RowV.of_owns O4 normR_ok
    have g4 := owns_base O4
    have hs := same_any (normR l) (normR l) v3 v4 w4 V3.rd V4.rd
    rw [pcsEq_refl] at hs
    have S3 := fun (hn : 0 < (normR l).length) => World.ownsRow.form O3 (by omega)
    have N3 : ∀ g, v3.ownBlock = some g → ∃ cur, NBox w4 g 29 cur ∧ (normR l).length * 3 ≤ cur.size := fun g hg => by
      rcases O3.2 with ⟨h1, _⟩ | ⟨g', cap, cur, h1, _, h2, h3, _, h4, _⟩
      · rw [h1] at hg; simp [Value.ownBlock] at hg
      · rw [h1] at hg
        obtain rfl : g' = g := by simpa [Value.ownBlock] using hg
        exact ⟨cur, h2, by omega⟩
    obtain ⟨A3, c3, rfl, _⟩ := RdS.of_owns O3
    obtain ⟨A4, c4, rfl, _⟩ := RdS.of_owns O4
    clear O3 O4 V3
    go_wp2_with fail
    refine hs.mono ?_
    clear hs
    rintro e w5 ⟨_, rfl, rfl, E45⟩
    have E5 := E4.trans E45
    replace V2 := V2.fr (Fr.of_ext E45 (fun _ => False)) (by simp)
    replace V4 := V4.fr (Fr.of_ext E45 (fun _ => False)) (by simp)
    obtain ⟨n, hn⟩ : ∃ n, (normR l).length = n := ⟨_, rfl⟩
    have N5 : ∀ g, (Value.slice A3 (normR l).length c3).ownBlock = some g → ∃ cur, NBox w5 g 29 cur ∧ n * 3 ≤ cur.size := fun g hg => by
      obtain ⟨cur, h1, h2⟩ := N3 g hg
      exact ⟨cur, h1.ext E45, by rw [← hn]; exact h2⟩
    rw [hn] at N5 S3 l3 g3 ⊢
    have hn4 : (normR l).length ≤ 8000 := by
      unfold normR
      split
      · have := normL_len l; omega
      · exact Nat.zero_le _
    rw [hn] at hn4
    have HN := Lib.hid hn
    clear N3 hn
    go_wp2_with fail
    go_loopw [6] (fun s6 wr => ∃ i : Nat, s6 = .int .i64 i ∧ i ≤ n ∧ Fr w5 wr (fun k => (Value.slice A3 n c3).ownBlock = some k) ∧ (∀ g, (Value.slice A3 n c3).ownBlock = some g → ∃ cur, NBox wr g 29 cur ∧ n * 3 ≤ cur.size)) (fun i _ => n - (intOf i).toNat)
    case atStart => exact ⟨0, rfl, Nat.zero_le _, Fr.refl _ _, N5⟩
    case round =>
      obtain ⟨i, rfl, hi, hF, hN⟩ := hrel
      rcases Nat.lt_or_ge i n with hlt | hlt
      · obtain ⟨g, cap, eS, _, _⟩ := S3 (by omega)
        obtain ⟨rfl, rfl⟩ : A3 = some ⟨g, 0, none⟩ ∧ c3 = cap := by simpa using eS
        clear eS
        obtain ⟨cur, hb, hsz⟩ := hN g rfl
        have c0 : wr.cell? ⟨g, i * 3, none⟩ = some (cur[i * 3]'(by omega)) := by rw [hb.cell]; simp
        have c1 : wr.cell? ⟨g, i * 3 + 1, none⟩ = some (cur[i * 3 + 1]'(by omega)) := by rw [hb.cell]; simp
        have c2' : wr.cell? ⟨g, i * 3 + 2, none⟩ = some (cur[i * 3 + 2]'(by omega)) := by rw [hb.cell]; simp
        have f0 := hb.frozen (i * 3)
        have f1 := hb.frozen (i * 3 + 1)
        have f2 := hb.frozen (i * 3 + 2)
        have q1 : (0 : Int) ≤ (i : Int) := by omega
        have q2 : (i : Int) < (n : Int) := by omega
        go_wp2_with fail
        go_roundw
        case rel =>
          have hb' := ((hb.set (i * 3) (.int .i64 (-1))).set (i * 3 + 1) (.int .i64 0)).set (i * 3 + 2) (.string ⟨#[]⟩)
          have F' := ((Fr.setCell wr g (i * 3) (.int .i64 (-1))).trans (Fr.setCell _ g (i * 3 + 1) (.int .i64 0))).trans (Fr.setCell _ g (i * 3 + 2) (.string ⟨#[]⟩))
          exact ⟨i + 1, by go_num, by omega, hF.trans (F'.mono (fun k hk => by rw [hk]; rfl)), fun g1 hg1 => by
            obtain rfl : g = g1 := Option.some.inj hg1
            exact ⟨_, hb', by simpa using hsz⟩⟩
        case measure => simp [intOf]; omega
      · have E6 : Ext w wr := Fr.ext E5 hF (fun k hk => by have := g3 k hk; have := E2.size; omega)
        have V2' := V2.fr hF (fun g hg h0 => by have := g2 g hg; have := g3 g h0; omega)
        have V4' := V4.fr hF (fun g hg h0 => by have := l3 g h0; have := g4 g hg; omega)
        have hs := same_any l l _ _ wr V2'.rd (h.ext E6)
        rw [pcsEq_refl] at hs
        clear S3 hN N5 V2 V4 g2 g3 g4 l3 hF
        go_wp2_with fail
        refine hs.mono ?_
        clear hs
        rintro e w7 ⟨_, rfl, rfl, E67⟩
        have E7 := E6.trans E67
        replace V4' := V4'.fr (Fr.of_ext E67 (fun _ => False)) (by simp)
        have hn := Norm_any l _ w7 (h.ext E7)
        go_wp2_with fail
        refine hn.mono ?_
        clear hn
        rintro e w8 ⟨v8, rfl, O8, E78⟩
        have E8 := E7.trans E78
        replace V4' := V4'.fr (Fr.of_ext E78 (fun _ => False)) (by simp)
        have hs := same_any (normR l) (normR l) v8 _ w8 (RdP.of_owns O8 normR_ok) V4'.rd
        rw [pcsEq_refl, HN.out] at hs
        go_wp2_with fail
        refine hs.mono ?_
        clear hs
        rintro e w9 ⟨_, rfl, rfl, E89⟩
        have E9 := E8.trans E89
        have hk := works_any w9
        go_wp2_with fail
        refine hk.mono ?_
        clear hk
        rintro e w10 ⟨_, rfl, rfl, E910⟩
        go_wp2_with fail
        go_ret
        exact ⟨_, rfl, rfl, E9.trans E910⟩
end Go.Proofs.Ytmncjknfkkedmaa.Lx
