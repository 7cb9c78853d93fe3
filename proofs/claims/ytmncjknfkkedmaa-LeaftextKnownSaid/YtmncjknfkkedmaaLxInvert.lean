/- Chapter 05: Invert. -/
import Derived.Test.YtmncjknfkkedmaaLxApply
namespace Go.Proofs.Ytmncjknfkkedmaa.Lx
open Go.RowKit Go.Proofs.Ytmncjknfkkedmaa.Bw Go.Proofs.Ytmncjknfkkedmaa.Bs

theorem extL_append : ∀ a b : List Pc, extL (a ++ b) = extL a + extL b
  | [], b => by simp [extL]
  | p :: r, b => by show _ + extL (r ++ b) = _ + extL r + extL b; rw [extL_append r b]; omega
theorem ext_onLast {f : Pc → Pc} {d : Int} (hf : ∀ p, (f p).keep + (f p).drop = p.keep + p.drop + d) : ∀ {l : List Pc}, l ≠ [] → extL (onLast f l) = extL l + d
  | [], h => absurd rfl h
  | [p], _ => by show (f p).keep + (f p).drop + 0 = p.keep + p.drop + 0 + d; rw [hf p]; omega
  | p :: q :: r, _ => by
    show p.keep + p.drop + extL (onLast f (q :: r)) = p.keep + p.drop + extL (q :: r) + d
    rw [ext_onLast hf (by simp)]; omega
def extM (m : Mk) : Int := extL m.l + m.keep
theorem extM_last (m : Mk) : extM m.last = extM m := by
  unfold Mk.last
  split
  · unfold extM
    simp only [extL_append]
    show extL m.l + (m.keep + 0 + 0) + 0 = _
    omega
  · rfl
theorem extM_put (m : Mk) (s : ByteArray) : extM (m.put s) = extM m := by
  unfold Mk.put
  split
  · have h := ext_onLast (f := fun p => { p with put := p.put ++ s }) (d := 0) (fun p => by simp only; omega) m.last_ne
    have h2 := extM_last m
    unfold extM at h2 ⊢
    simp only at h ⊢
    rw [h]; omega
  · rfl
theorem extM_drop (m : Mk) (n : Int) (h0 : 0 ≤ n) : extM (m.drop n) = extM m + n := by
  unfold Mk.drop
  split
  · have h := ext_onLast (f := fun p => { p with drop := p.drop + n }) (d := n) (fun p => by simp only; omega) m.last_ne
    have h2 := extM_last m
    unfold extM at h2 ⊢
    simp only at h ⊢
    rw [h]; omega
  · omega
theorem extM_more (m : Mk) (n : Int) : extM (m.more n) = extM m + n := by unfold extM Mk.more; simp only; omega
theorem extM_piece (m : Mk) {p : Pc} (h : 0 ≤ p.drop) : extM (m.piece p) = extM m + (p.keep + p.drop) := by
  rw [Mk.piece_eq, extM_drop _ _ h, extM_put, extM_more]; omega
theorem extM_pieces : ∀ {l : List Pc} (m : Mk), Nn l → extM (m.pieces l) = extM m + extL l
  | [], m, _ => by simp [Mk.pieces, extL]
  | p :: r, m, k => by
    show extM ((m.piece p).pieces r) = extM m + (p.keep + p.drop + extL r)
    rw [extM_pieces _ k.tail, extM_piece m (k p List.mem_cons_self).2]; omega
theorem normL_ext {l : List Pc} (h : Nn l) : extL (normL l) ≤ extL l := by
  have h1 := extM_pieces ⟨[], 0⟩ h
  have h2 := (NnM.pieces NnM.zero h).2
  have h3 : extM ⟨[], 0⟩ = 0 := rfl
  rw [h3] at h1
  unfold extM at h1
  show extL (Mk.pieces ⟨[], 0⟩ l).l ≤ _
  omega

def invGo (m : Mk) (t : ByteArray) : List Pc → Mk
  | [] => m
  | p :: r => invGo (m.piece ⟨p.keep, p.put.size, (t.extract p.keep.toNat t.size).extract 0 p.drop.toNat⟩) ((t.extract p.keep.toNat t.size).extract p.drop.toNat (t.extract p.keep.toNat t.size).size) r
def invS (t : ByteArray) (l : List Pc) : List Pc := (invGo ⟨[], 0⟩ t (normL l)).l
def inE (t : ByteArray) (l : List Pc) : Int := if apE t l = 0 then (if pcsRight (invS t l) then 0 else 3) else apE t l
def inL (t : ByteArray) (l : List Pc) : List Pc := if inE t l = 0 then invS t l else []
theorem invGo_at (m : Mk) (t : ByteArray) {l : List Pc} {i : Nat} {p : Pc} (hp : l[i]? = some p) : invGo m t (l.drop i) = invGo (m.piece ⟨p.keep, p.put.size, (t.extract p.keep.toNat t.size).extract 0 p.drop.toNat⟩) ((t.extract p.keep.toNat t.size).extract p.drop.toNat (t.extract p.keep.toNat t.size).size) (l.drop (i + 1)) := by rw [drop_at hp]; rfl

set_option maxRecDepth 100000 in
set_option maxHeartbeats 4000000 in
theorem invert_any (t : ByteArray) (l : List Pc) (v : Value) (w : World) (h : RdP w l v) (ht : t.size ≤ 1000000000000) : Calls Try.prog 22 #[.string t, v] w fun e w' => ∃ v', e = .returned (.tuple #[v', .int .i64 (inE t l)]) ∧ RdP w' (inL t l) v' ∧ Ext w w' := by
  have hc := apply_any t l v w h ht
  obtain ⟨A, c, rfl, _⟩ := id h
  obtain ⟨r, hr⟩ : ∃ r, apE t l = r := ⟨_, rfl⟩
  rw [hr] at hc
  have HR := Lib.hid hr
  go_enter Try.func22, Try.ntmps22
  go_wp2_with fail
  refine hc.mono ?_
  clear hc
  rintro e w1 ⟨_, rfl, rfl, E1⟩
  by_cases h0 : r = 0
  · have t1 : (r != 0) = false := by rw [h0]; rfl
    have hok : pcsRight l = true := by
      rw [h0] at hr
      unfold apE at hr
      split at hr
      · assumption
      · exact absurd hr (by decide)
    have hx : extL l ≤ t.size := by
      rw [h0] at hr
      unfold apE at hr
      rw [hok, if_pos rfl] at hr
      split at hr
      · assumption
      · exact absurd hr (by decide)
    have HE : Hid (inE t l = if pcsRight (invS t l) then 0 else 3) := Lib.hid (by unfold inE; rw [hr, if_pos h0])
    clear hr
    obtain ⟨n1, n2, n3⟩ := right_nn hok
    have m1 := normL_nn n1
    have m2 := normL_wt n1
    have m3 := normL_len l
    have m4 := normL_ext n1
    have m5 := puts_ok hok
    go_wp2_with fail
    obtain ⟨b, hb⟩ : ∃ b, w1.heap.size = b := ⟨_, rfl⟩
    obtain ⟨w2, hw2⟩ : ∃ W, w1.alloc (.cells #[.slice none 0 0, .int .i64 0] 57) = W := ⟨_, rfl⟩
    have E2 : Ext w w2 := by rw [← hw2]; exact E1.alloc _
    have N2 : NBox w2 b 57 #[.slice none 0 0, .int .i64 0] := by rw [← hw2, ← hb]; exact NBox.new _ _ _
    have hbw : w.heap.size ≤ b := by rw [← hb]; exact E1.size
    have hn := norm_any l _ w2 (h.ext E2) hok
    rw [hw2, hb]
    clear hw2 hb
    refine hn.mono ?_
    clear hn
    rintro e w3 ⟨v3, rfl, O3, hE3⟩
    have E3 := E2.trans hE3
    have N3 := N2.ext hE3
    have HS : Hid (invGo ⟨[], 0⟩ t (normL l) = invGo ⟨[], 0⟩ t (normL l)) := Lib.hid rfl
    have V3 := RowV.of_owns O3 m5
    have R3 := V3.rd
    have own3 := owns_base O3
    have w2b := N2.lt
    have eS : (invGo ⟨[], 0⟩ t (normL l)).l = invS t l := rfl
    generalize normL l = nl at *
    obtain ⟨A3, c3, rfl, _⟩ := R3
    clear O3 hE3 E2 N2
    have z3 := N3.lt
    go_wp2_with fail
    go_loopw [0, 24] (fun s0 s24 wr => ∃ (i : Nat) (x : ByteArray) (m : Mk) (lv : Value), s0 = .string x ∧ s24 = .int .i64 i ∧ i ≤ nl.length ∧ MkAt wr b w3.heap.size m lv ∧ NnM m ∧ wtM m + wt (nl.drop i) ≤ 10000000000 ∧ m.l.length ≤ 2 * i ∧ extL (nl.drop i) ≤ x.size ∧ x.size ≤ t.size ∧ Hid ((invGo m x (nl.drop i)).l = invS t l) ∧ Fr w3 wr (fun k => k = b)) (fun _ i _ => nl.length - (intOf i).toNat)
    case atStart => exact ⟨0, t, ⟨[], 0⟩, .slice none 0 0, rfl, rfl, Nat.zero_le _, ⟨N3, ⟨rfl, .inl ⟨rfl, rfl⟩⟩, N3.lt, Nat.le_refl _⟩, NnM.zero, by rw [show wtM ⟨[], 0⟩ = 0 from rfl, List.drop_zero]; omega, Nat.le_refl _, by rw [List.drop_zero]; omega, Nat.le_refl _, Lib.hid eS, Fr.refl _ _⟩
    case round =>
      obtain ⟨i, x, m, lv, rfl, rfl, hi, hM, nm, hwt, hml, hex, hxt, HW, hE⟩ := hrel
      rcases Nat.lt_or_ge i nl.length with hlt | hlt
      · obtain ⟨p, hp⟩ : ∃ p, nl[i]? = some p := ⟨_, List.getElem?_eq_getElem hlt⟩
        obtain ⟨A', c', eA, a1, a2, a3⟩ := (V3.fr hE (fun g hg e => by have := own3 g hg; omega)).rd
        obtain ⟨rfl, rfl⟩ : A3 = A' ∧ c3 = c' := by simpa using eA
        clear eA
        unfold maxLen at a2
        obtain ⟨ba, oa, rfl, ra⟩ := a3 (by omega)
        obtain ⟨e1, e2, e3, e4⟩ := rdPcs_at ra hp
        obtain ⟨k1, k2⟩ := m1.at hp
        have q1 : (0 : Int) ≤ (i : Int) := by omega
        have q2 : (i : Int) < (nl.length : Int) := by omega
        have HX := extL_at hp
        have HT := wt_at hp
        have z1 := extL_nn (m1.drop (i + 1))
        have z2 := wt_nn (m1.drop (i + 1))
        have z0 := wt_nn (m1.drop i)
        obtain ⟨kn, hkn⟩ : ∃ n : Nat, p.keep = n := ⟨p.keep.toNat, by omega⟩
        obtain ⟨dn, hdn⟩ : ∃ n : Nat, p.drop = n := ⟨p.drop.toNat, by omega⟩
        have HA := invGo_at m x hp
        rw [hkn, hdn, Int.toNat_natCast, Int.toNat_natCast] at HA
        obtain ⟨y, hy⟩ : ∃ y, x.extract kn x.size = y := ⟨_, rfl⟩
        have s1 : y.size = x.size - kn := by rw [← hy, ByteArray.size_extract]; omega
        rw [hy] at HA
        have s2 : (y.extract 0 dn).size = dn := by rw [ByteArray.size_extract]; omega
        have s3 : (y.extract dn y.size).size = y.size - dn := by rw [ByteArray.size_extract]; omega
        have HW2 : Hid ((invGo (m.piece ⟨kn, p.put.size, y.extract 0 dn⟩) (y.extract dn y.size) (nl.drop (i + 1))).l = invS t l) := Lib.hid (by rw [← HA]; exact HW.out)
        rw [hkn] at e1
        rw [hdn] at e2
        have nn2 := wt_nn nm.1
        have nn3 := nm.2
        have nw : 0 ≤ wtM m := by unfold wtM; omega
        have nm2 : NnM (m.piece ⟨kn, p.put.size, y.extract 0 dn⟩) := nm.piece (by show (0 : Int) ≤ kn; omega)
        have hw2 : wtM (m.piece ⟨kn, p.put.size, y.extract 0 dn⟩) + wt (nl.drop (i + 1)) ≤ 10000000000 := by
          rw [wtM_piece _ (by show (0 : Int) ≤ (p.put.size : Int); omega)]
          show wtM m + ((kn : Int) + (p.put.size : Int) + ((y.extract 0 dn).size : Int)) + _ ≤ _
          rw [s2]; omega
        have hl2 := m.piece_len ⟨kn, p.put.size, y.extract 0 dn⟩
        have hex2 : extL (nl.drop (i + 1)) ≤ ((y.size - dn : Nat) : Int) := by omega
        have bM := MB.of_wt (n := 90000) (C := 1000000000000) nm (by omega) (by omega)
        have hk1 : m.keep + (kn : Int) ≤ 1000000000000 := by unfold wtM at hwt; omega
        have j1 : kn ≤ x.size := by omega
        have j2 : dn ≤ y.size := by omega
        have j3 : kn ≤ 1000000000000 := by omega
        have j4 : dn ≤ 1000000000000 := by omega
        have j5 : p.put.size ≤ 1000000000000 := by omega
        have HY := Lib.hid hy
        have S1 := Lib.hid s1
        have S2 := Lib.hid s2
        have S3 := Lib.hid s3
        clear s1 s2 s3
        clear HA HX HT z0 z1 z2 hkn hdn k1 k2 hp hex hwt HW hy ra a3
        go_wp2_with fail
        rw [HY.out]
        obtain ⟨w4, hw4⟩ : ∃ W, wr.alloc (.cells #[.int .i64 kn, .int .i64 dn, .string p.put] 29) = W := ⟨_, rfl⟩
        have F4 : Fr wr w4 (fun _ => False) := by rw [← hw4]; exact Fr.of_ext ((Ext.refl wr).alloc _) _
        have E4 : Fr w3 w4 (fun k => k = b) := hE.trans (F4.mono (fun k h => h.elim))
        have P4 : NBox w4 wr.heap.size 29 #[.int .i64 kn, .int .i64 dn, .string p.put] := by rw [← hw4]; exact NBox.new _ _ _
        have hlv : ∀ g, lv.ownBlock = some g → g < wr.heap.size := fun g hg => (hM.2.1.lt g hg).2
        have hbl := hM.1.lt
        have M4 := hM.fr F4 (by simp) (by simp)
        have c0 := P4.cell 0
        have c1 := P4.cell 1
        have c2 := P4.cell 2
        rw [hw4]
        clear hw4 hE hM F4
        go_still_tail 10, (by kernel_rfl)
        change wpList _ _ _ _ _ w4.drew
        obtain ⟨w5, hw5⟩ : ∃ W, w4.drew = W := ⟨_, rfl⟩
        have hd : Ext w4 w5 := by rw [← hw5]; exact (Ext.refl w4).drew
        have P5 := P4.ext hd
        have E5 : Fr w3 w5 (fun k => k = b) := E4.trans (Fr.of_ext hd _)
        have M5 := M4.fr (Fr.of_ext hd (fun _ => False)) (by simp) (by simp)
        rw [hw5]
        clear hw5 hd c0 c1 c2 P4 E4 M4
        have hc := piece_any m b w3.heap.size lv ⟨kn, p.put.size, y.extract 0 dn⟩ w5 M5 (by have := bM.len; omega) bM.bnd (by show (y.extract 0 dn).size ≤ _; rw [S2.out]; omega) (by show (p.put.size : Int) ≤ _; omega) ⟨bM.k0, bM.k1⟩ (by show 0 ≤ (kn : Int) ∧ (kn : Int) ≤ _; omega) hk1
        go_wp2_with fail
        refine hc.mono ?_
        clear hc
        rintro e w6 ⟨lv6, rfl, M6, F6, G6⟩
        have E6 : Fr w3 w6 (fun k => k = b) := Fr.new ((E5.mono (fun k h => .inl h)).trans (F6.mono (fun k hk => hk.elim .inl (fun h => .inr (owns_base M5.2.1 k h)))))
        have P6 := P5.fr F6 (fun h0 => h0.elim (fun h => by omega) (fun h => by have := hlv _ h; omega))
        have c1 := P6.cell 1
        go_wp2_with fail
        go_roundw
        case rel => exact ⟨i + 1, _, _, lv6, rfl, by go_num, by omega, M6, nm2, hw2, by omega, by rw [S3.out]; exact hex2, by rw [S3.out]; have := S1.out; omega, HW2, E6⟩
        case measure => simp [intOf]; omega
      · have HF : Hid (m.l = invS t l) := Lib.hid (by rw [← HW.out, List.drop_eq_nil_of_le hlt]; rfl)
        have bM := MB.of_wt (n := 90000) (C := 1000000000000) nm (by have := wt_nn (m1.drop i); omega) (by omega)
        have okp := okStr_of bM (by decide)
        have EE : Ext w wr := Fr.ext E3 hE (fun k hk => by omega)
        have hc := done_any m b w3.heap.size lv wr hM okp
        have R := RdP.of_owns hM.2.1 okp
        obtain ⟨ty, hty⟩ : ∃ t, pcsRight m.l = t := ⟨_, rfl⟩
        rw [hty] at hc
        have HT := Lib.hid hty
        clear HW hty hM hE
        go_wp2_with fail
        refine hc.mono ?_
        clear hc
        rintro e w5 ⟨rfl, E5⟩
        have E6 := EE.trans E5
        replace R := R.ext E5
        rw [HF.out] at R HT
        cases ty with
        | false =>
          go_wp2_with fail
          go_ret2
          have e0 : inE t l = 3 := by rw [HE.out, HT.out]; rfl
          rw [show inL t l = [] by unfold inL; rw [e0]; rfl, e0]
          exact ⟨_, rfl, RdP.nil _, E6⟩
        | true =>
          go_wp2_with fail
          go_ret2
          have e0 : inE t l = 0 := by rw [HE.out, HT.out]; rfl
          rw [show inL t l = invS t l by unfold inL; rw [e0]; rfl, e0]
          exact ⟨_, rfl, R, E6⟩
  · have t1 : (r != 0) = true := by simpa using h0
    have e0 : inE t l = r := by unfold inE; rw [hr, if_neg h0]
    have e1 : inL t l = [] := by unfold inL; rw [e0, if_neg h0]
    have H0 := Lib.hid e0
    have H1 := Lib.hid e1
    clear e0 e1 hr
    go_wp2_with fail
    go_ret2
    rw [H0.out, H1.out]
    exact ⟨_, rfl, RdP.nil _, E1⟩
end Go.Proofs.Ytmncjknfkkedmaa.Lx
