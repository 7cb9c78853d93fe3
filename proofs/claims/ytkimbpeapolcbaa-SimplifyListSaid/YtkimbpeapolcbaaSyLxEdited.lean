/- Chapter 10: LxEdited turned to this seat. (Printed by gsyport.py.) -/
import Derived.Test.YtkimbpeapolcbaaSyLxRNorm2
import Derived.Test.YtkimbpeapolcbaaSyLxPlainA
namespace Go.Proofs.Ytkimbpeapolcbaa.Sy
open Go.RowKit Go.Proofs.Ytkimbpeapolcbaa.Bw Go.Proofs.Ytkimbpeapolcbaa.Bs

/-- An item: is it the text's; and its byte. -/
abbrev It := Bool × UInt8
def It.vals (x : It) : List Value := [.bool x.1, .int .u8 x.2.toNat]
def itVals (l : List It) : List Value := l.flatMap It.vals
theorem itVals_len (l : List It) : (itVals l).length = l.length * 2 := by
  induction l with
  | nil => rfl
  | cons p r ih =>
    have : itVals (p :: r) = It.vals p ++ itVals r := rfl
    rw [this, List.length_append, ih, List.length_cons]
    simp [It.vals]; omega
theorem itVals_append (l r : List It) : itVals (l ++ r) = itVals l ++ itVals r := by simp [itVals]
theorem itVals_one (l : List It) : ∀ u ∈ itVals l, u.oneCell' = true := by
  intro u hu
  obtain ⟨p, _, hp⟩ := List.mem_flatMap.1 hu
  simp only [It.vals, List.mem_cons, List.not_mem_nil, or_false] at hp
  rcases hp with rfl | rfl <;> rfl
/-- Items, edited. -/
def edM (l : List It) : List Pc → List It
  | [] => l
  | p :: r => l.take p.keep.toNat ++ (bl p.put).map (fun c => (false, c)) ++ edM (l.drop (p.keep + p.drop).toNat) r
theorem edM_at (l : List It) {e : List Pc} {i : Nat} {p : Pc} (hp : e[i]? = some p) : edM l (e.drop i) = l.take p.keep.toNat ++ (bl p.put).map (fun c => (false, c)) ++ edM (l.drop (p.keep + p.drop).toNat) (e.drop (i + 1)) := by rw [drop_at hp]; rfl
theorem itVals_get {l : List It} {i j : Nat} {x : It} (h : l[i]? = some x) (hj : j < 2) : (itVals l)[i * 2 + j]? = (It.vals x)[j]? := by
  induction l generalizing i with
  | nil => simp at h
  | cons y r ih =>
    have e : itVals (y :: r) = It.vals y ++ itVals r := rfl
    have el : (It.vals y).length = 2 := rfl
    cases i with
    | zero =>
      simp at h
      subst h
      rw [e, List.getElem?_append_left (by omega)]
      congr 1
      omega
    | succ i =>
      rw [e, List.getElem?_append_right (by omega), ← ih (by simpa using h)]
      congr 1
      omega
theorem itVals_drop (l : List It) (i : Nat) : itVals (l.drop i) = (itVals l).drop (i * 2) := by
  induction l generalizing i with
  | nil => simp [itVals]
  | cons y r ih =>
    cases i with
    | zero => rfl
    | succ i =>
      show itVals (r.drop i) = _
      rw [ih]
      have e : itVals (y :: r) = .bool y.1 :: .int .u8 y.2.toNat :: itVals r := rfl
      rw [e, show (i + 1) * 2 = i * 2 + 1 + 1 by omega]
      rfl
theorem itVals_take (l : List It) (i : Nat) : itVals (l.take i) = (itVals l).take (i * 2) := by
  induction l generalizing i with
  | nil => simp [itVals]
  | cons y r ih =>
    cases i with
    | zero => simp [itVals]
    | succ i =>
      have e : itVals (y :: r) = .bool y.1 :: .int .u8 y.2.toNat :: itVals r := rfl
      rw [e, show (i + 1) * 2 = i * 2 + 1 + 1 by omega]
      show It.vals y ++ itVals (r.take i) = _
      rw [ih]
      rfl
/-- A part of a row of items. -/
theorem RdS.part {W : World} {l : List It} {b off c : Nat} (hc : c ≤ maxLen) (hcell : ∀ j u, (itVals l)[j]? = some u → W.cell? ⟨b, off + j, none⟩ = some u) {i k cc : Nat} {A : Option Addr} (hk : i + k ≤ l.length) (hcc : k ≤ cc) (hc2 : cc ≤ c) (hA : 0 < k → A = some ⟨b, off + i * 2, none⟩) :
    RdS W 2 k (itVals ((l.drop i).take k)) (.slice A k cc) := by
  refine ⟨A, cc, rfl, ?_, hcc, Nat.le_trans hc2 hc, fun h0 => ⟨b, off + i * 2, hA h0, fun j u hu => ?_⟩⟩
  · rw [itVals_len, List.length_take, List.length_drop]
    congr 1
    omega
  · rw [itVals_take, itVals_drop] at hu
    have hj : j < k * 2 := by
      rcases Nat.lt_or_ge j (k * 2) with h | h
      · exact h
      · rw [List.getElem?_eq_none (by rw [List.length_take]; omega)] at hu; cases hu
    rw [List.getElem?_take, if_pos hj, List.getElem?_drop] at hu
    have := hcell _ _ hu
    rwa [show off + i * 2 + j = off + (i * 2 + j) by omega]
theorem T87 : SliceT Try.prog 87 89 (.agg #[.bool false, .int .u8 0]) 2 2 := SliceT.mk' Try.underlying87 (by kernel_rfl) rfl (by decide)
set_option maxRecDepth 100000 in
set_option maxHeartbeats 4000000 in
theorem edited_any (l : List It) (e : List Pc) (v ve : Value) (w : World) (h : RdS w 2 l.length (itVals l) v) (he : RdP w e ve) (nn : Nn e) (hx : extL e < (l.length : Int)) (hl : l.length ≤ 100000) (hp : putLen e ≤ 100000) :
    Calls Try.prog 67 #[v, ve] w fun r w' => ∃ v', r = .returned v' ∧ w'.ownsRow w.heap.size 89 2 v' (edM l e).length (itVals (edM l e)) ∧ Ext w w' := by
  obtain ⟨A, c, rfl, _, lc, cm, lcell⟩ := h
  obtain ⟨Ae, ce, rfl, a1, a2, a3⟩ := he
  have x0 := (extL_nn nn).1
  obtain ⟨b, off, rfl, cells⟩ := lcell (by omega)
  have cm' := cm
  unfold maxLen at a2 cm
  go_enter Try.func67, Try.ntmps67
  go_wp2_with fail
  go_loopw [5, 6, 7] (fun s5 s6 s7 wr => ∃ (i n : Nat) (out : List It), s6 = .int .i64 n ∧ s7 = .int .i64 i ∧ i ≤ e.length ∧ wr.ownsRow w.heap.size 89 2 s5 out.length (itVals out) ∧ n + extL (e.drop i) < (l.length : Int) ∧ out.length + (putLen (e.drop i) : Nat) ≤ n + 100000 ∧ Hid (out ++ edM (l.drop n) (e.drop i) = edM l e) ∧ Ext w wr) (fun _ _ i _ => e.length - (intOf i).toNat)
  case atStart => exact ⟨0, 0, [], rfl, rfl, Nat.zero_le _, ⟨rfl, .inl ⟨rfl, rfl⟩⟩, by rw [List.drop_zero]; omega, by rw [List.drop_zero]; simpa using hp, Lib.hid rfl, Ext.refl w⟩
  case round =>
    obtain ⟨i, n, out, rfl, rfl, hi, hO, hex, hol, HW, hE⟩ := hrel
    rcases Nat.lt_or_ge i e.length with hlt | hlt
    · obtain ⟨p, hpp⟩ : ∃ p, e[i]? = some p := ⟨_, List.getElem?_eq_getElem hlt⟩
      obtain ⟨ba, oa, rfl, ra⟩ := a3 (by omega)
      obtain ⟨f1, f2, f3, _⟩ := rdPcs_at ra hpp
      obtain ⟨e1, e2, e3, e4⟩ := rdPcs_at (rdPcs_ext hE ra) hpp
      obtain ⟨k1, k2⟩ := nn.at hpp
      have HX := extL_at hpp
      have HA := edM_at (l.drop n) hpp
      have z1 := extL_nn (nn.drop (i + 1))
      have HPL : putLen (e.drop i) = p.put.size + putLen (e.drop (i + 1)) := by rw [drop_at hpp]; rfl
      obtain ⟨kn, hkn⟩ : ∃ n : Nat, p.keep = n := ⟨p.keep.toNat, by omega⟩
      obtain ⟨dn, hdn⟩ : ∃ n : Nat, p.drop = n := ⟨p.drop.toNat, by omega⟩
      rw [hkn] at e1
      rw [hdn] at e2
      rw [hkn] at f1
      rw [hdn] at f2
      rw [hkn, hdn, Int.toNat_natCast, show ((kn : Int) + (dn : Int)).toNat = kn + dn by omega, List.drop_drop] at HA
      have q1 : (0 : Int) ≤ (i : Int) := by omega
      have q2 : (i : Int) < (e.length : Int) := by omega
      have j1 : n + kn + dn < l.length := by omega
      have j5 : n < c := by omega
      have j6 : ¬ (c = n) := by omega
      have j7 : ¬ (c - n = 0) := by omega
      have j8 : (n : Int) + (kn : Int) - (n : Int) = (kn : Int) := by omega
      have hexN : ((n + kn + dn : Nat) : Int) + extL (e.drop (i + 1)) < (l.length : Int) := by omega
      have j2 : (n : Int) ≤ (n : Int) + (kn : Int) := by omega
      have j3 : (n : Int) + (kn : Int) ≤ (c : Int) := by omega
      have j4 : ((n : Int) + (kn : Int)).toNat = n + kn := by omega
      have HW1 : (out ++ (l.drop n).take kn) ++ (bl p.put).map (fun c => (false, c)) ++ edM (l.drop (n + (kn + dn))) (e.drop (i + 1)) = edM l e := by rw [← HW.out, HA]; simp only [List.append_assoc]
      obtain ⟨lA, lC, rfl, _⟩ := RdS.of_owns hO
      have HRD : Hid (RdS wr 2 kn (itVals ((l.drop n).take kn)) (.slice (some ⟨b, off + n * 2, none⟩) kn (c - n))) := Lib.hid (RdS.part cm' (fun j u hu => hE.cell (cells j u hu)) (by omega) (by omega) (by omega) (fun _ => rfl))
      have HOO := Lib.hid hO
      have HON := Lib.hid (itVals_one ((l.drop n).take kn))
      have HSZ := Lib.hid hE.size
      clear HA HX z1 hkn hdn k1 k2 hpp HW ra a3 hO
      go_wp2_with (at_builtin; refine wpList_append_rd rfl rfl T87 (v := _) (by rfl) HOO.out (by rfl) HRD.out HON.out (by omega) (by simp only [maxLen]; omega) HSZ.out ?_)
      intro v5 w5 O5 hg5 hat5
      have F5 := Fr.grown hg5
      have hown : ∀ k, (Value.slice lA out.length lC).ownBlock = some k → w.heap.size ≤ k := fun k hk => owns_base HOO.out k hk
      have E5 : Ext w w5 := Fr.ext hE F5 hown
      have hlen1 : ((l.drop n).take kn).length = kn := by rw [List.length_take, List.length_drop]; omega
      have HO5 : Hid (w5.ownsRow w.heap.size 89 2 v5 (out ++ (l.drop n).take kn).length (itVals (out ++ (l.drop n).take kn))) := Lib.hid (by rw [List.length_append, hlen1, itVals_append]; exact O5)
      have hol5 : (out ++ (l.drop n).take kn).length = out.length + kn := by rw [List.length_append, hlen1]
      have HLN := Lib.hid hol5
      generalize out ++ (l.drop n).take kn = o5 at *
      clear O5 hg5 hat5 F5 hown HRD HOO HON HSZ e1 e2 e3 hlen1 hol5
      obtain ⟨l5, k5, rfl, _⟩ := RdS.of_owns HO5.out
      go_wp2_with fail
      go_loopw [5, 8] (fun s5 s8 wk => ∃ (k : Nat) (o6 : List It), s8 = .int .i64 k ∧ k ≤ p.put.size ∧ wk.ownsRow w.heap.size 89 2 s5 o6.length (itVals o6) ∧ o6.length = o5.length + k ∧ Hid (o6 ++ ((bl p.put).drop k).map (fun c => (false, c)) = o5 ++ (bl p.put).map (fun c => (false, c))) ∧ Ext w wk) (fun _ k _ => p.put.size - (intOf k).toNat)
      case atStart => exact ⟨0, o5, rfl, Nat.zero_le _, HO5.out, rfl, Lib.hid (by rw [List.drop_zero]), E5⟩
      case round =>
        obtain ⟨k, o6, rfl, hk, hO, hol6, HS, hE6⟩ := hrel
        have e1 := hE6.cell f1
        have e2 := hE6.cell f2
        have e3 := hE6.cell f3
        rcases Nat.lt_or_ge k p.put.size with hkd | hkd
        · obtain ⟨lA, lC, rfl, _⟩ := RdS.of_owns hO
          have r1 : (0 : Int) ≤ (k : Int) := by omega
          have r2 : (k : Int) < (p.put.size : Int) := by omega
          have HL6 := Lib.hid hol6
          clear hol6
          obtain ⟨x, hx'⟩ : ∃ x, p.put[k] = x := ⟨_, rfl⟩
          have hdk : (bl p.put).drop k = x :: (bl p.put).drop (k + 1) := by
            have hlt : k < (bl p.put).length := by rw [bl_len]; exact hkd
            rw [List.drop_eq_getElem_cons hlt, ← hx']
            rfl
          have HS2 : Hid ((o6 ++ [(false, x)]) ++ ((bl p.put).drop (k + 1)).map (fun c => (false, c)) = o5 ++ (bl p.put).map (fun c => (false, c))) := Lib.hid (by
            rw [← HS.out, hdk]
            simp)
          have HRD : Hid (RdS (wr.alloc (.cells #[.bool false, .int .u8 x.toNat] 89)) 2 1 (itVals [(false, x)]) (.slice (some ⟨wr.heap.size, 0, none⟩) 1 1)) := Lib.hid (RdS.one (cs := #[.bool false, .int .u8 x.toNat]) rfl)
          have HON := Lib.hid (itVals_one [(false, x)])
          have HOO := Lib.hid (owns_ext ((Ext.refl wr).alloc (.cells #[.bool false, .int .u8 x.toNat] 89)) hO)
          have HSZ := Lib.hid (Nat.le_trans hE6.size ((Ext.refl wr).alloc (.cells #[.bool false, .int .u8 x.toNat] 89)).size)
          have hb6 : o6.length ≤ 300000 := by rw [HL6.out, HLN.out]; omega
          clear hO HS hdk
          go_wp2_with (at_builtin; refine wpList_append_rd rfl rfl T87 (v := _) (by rfl) HOO.out (by rfl) HRD.out HON.out (by omega) (by simp only [maxLen]; omega) HSZ.out ?_)
          intro v7 w7 O7 hg7 hat7
          have E7 : Ext w w7 := Fr.ext (hE6.alloc _) (Fr.grown hg7) (fun k hk => owns_base HOO.out k hk)
          go_wp2_with fail
          go_roundw
          case rel => exact ⟨k + 1, o6 ++ [(false, x)], by go_num, by omega, by rw [List.length_append, itVals_append]; exact O7, by rw [List.length_append, HL6.out, List.length_singleton]; omega, HS2, E7⟩
          case measure => simp [intOf]; omega
        · have hkk : k = p.put.size := by omega
          have HS2 : o6 = o5 ++ (bl p.put).map (fun c => (false, c)) := by
            rw [← HS.out, hkk, List.drop_eq_nil_of_le (by rw [bl_len]; exact Nat.le_refl _)]
            simp
          have HW6 : Hid (o6 ++ edM (l.drop (n + kn + dn)) (e.drop (i + 1)) = edM l e) := Lib.hid (by rw [HS2, ← HW1, Nat.add_assoc])
          have hL6 : o6.length = out.length + kn + p.put.size := by rw [hol6, HLN.out, hkk]
          have HL6 := Lib.hid hL6
          have hex2 : ((n + kn + dn : Nat) : Int) + extL (e.drop (i + 1)) < (l.length : Int) := hexN
          obtain ⟨lA, lC, rfl, _⟩ := RdS.of_owns hO
          have w9 : IntKind.i64.wrap ((n : Int) + (kn : Int)) = (n : Int) + (kn : Int) := by rw [IntKind.wrap_i64]; omega
          have w10 : IntKind.i64.wrap ((n : Int) + (kn : Int) + (dn : Int)) = (n : Int) + (kn : Int) + (dn : Int) := by rw [IntKind.wrap_i64]; omega
          clear hol6 HS HS2 hL6
          go_wp2_with fail
          go_quiet (fail)
          go_wp2_with fail
          go_roundw
          case rel => exact ⟨i + 1, n + kn + dn, o6, by go_num, by go_num, by omega, hO, hex2, by rw [HL6.out]; omega, HW6, by first | exact hE6.drewN _ | exact hE6⟩
          case measure => simp [intOf]; omega
    · have HW2 : out ++ l.drop n = edM l e := by rw [← HW.out, List.drop_eq_nil_of_le hlt]; rfl
      have hn0 : n < l.length := by have := (extL_nn (nn.drop i)).1; omega
      have HRD : Hid (RdS wr 2 (l.length - n) (itVals (l.drop n)) (.slice (some ⟨b, off + n * 2, none⟩) (l.length - n) (c - n))) := Lib.hid (by
        have := RdS.part (k := l.length - n) (i := n) (cc := c - n) (A := some ⟨b, off + n * 2, none⟩) cm' (fun j u hu => hE.cell (cells j u hu)) (by omega) (by omega) (by omega) (fun _ => rfl)
        rwa [List.take_of_length_le (by rw [List.length_drop]; omega)] at this)
      have HON := Lib.hid (itVals_one (l.drop n))
      have HOO := Lib.hid hO
      have HSZ := Lib.hid hE.size
      have HWW := Lib.hid HW2
      have hob : out.length ≤ 300000 := by omega
      have j5 : n < c := by omega
      have j6 : ¬ (c = n) := by omega
      have j7 : ¬ (c - n = 0) := by omega
      have j8 : (n : Int) ≤ (l.length : Int) := by omega
      have j9 : n ≤ l.length := by omega
      obtain ⟨lA, lC, rfl, _⟩ := RdS.of_owns hO
      clear hO HW HW2
      go_wp2_with (at_builtin; refine wpList_append_rd rfl rfl T87 (v := _) (by rfl) HOO.out (by rfl) HRD.out HON.out (by omega) (by simp only [maxLen]; omega) HSZ.out ?_)
      intro v7 w7 O7 hg7 hat7
      have E7 : Ext w w7 := Fr.ext hE (Fr.grown hg7) (fun k hk => owns_base HOO.out k hk)
      go_wp2_with fail
      go_ret
      rw [← HWW.out]
      exact ⟨_, rfl, by rw [List.length_append, List.length_drop, itVals_append]; exact O7, E7⟩
end Go.Proofs.Ytkimbpeapolcbaa.Sy
