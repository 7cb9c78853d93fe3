/- Chapter 05: Norm, Apply. -/
import Derived.Test.YtmncjknfkkedmaaLxDone
import Derived.Test.YtmncjknfkkedmaaLxBuild
namespace Go.Proofs.Ytmncjknfkkedmaa.Lx
open Go.RowKit Go.Proofs.Ytmncjknfkkedmaa.Bw Go.Proofs.Ytmncjknfkkedmaa.Bs

def normR (l : List Pc) : List Pc := if pcsRight l then normL l else []
theorem puts_ok {l : List Pc} (h : pcsRight l = true) : ∀ p ∈ normL l, okStr p.put := fun p hp => by
  obtain ⟨h1, h2, h3⟩ := right_nn h
  have h4 := wt_mem (normL_nn h1) hp
  have h5 := normL_wt h1
  have h6 := normL_nn h1 p hp
  unfold okStr maxLen; omega
set_option maxRecDepth 100000 in
set_option maxHeartbeats 2000000 in
theorem Norm_any (l : List Pc) (v : Value) (w : World) (h : RdP w l v) : Calls Try.prog 15 #[v] w fun e w' => ∃ v', e = .returned v' ∧ w'.ownsRow w.heap.size 29 3 v' (normR l).length (pcVals (normR l)) ∧ Ext w w' := by
  have hc := right_any l v w h
  obtain ⟨A, c, rfl, _⟩ := id h
  obtain ⟨r, hr⟩ : ∃ r, pcsRight l = r := ⟨_, rfl⟩
  rw [hr] at hc
  have HR := Lib.hid hr
  clear hr
  go_enter Try.func15, Try.ntmps15
  go_wp2_with fail
  refine hc.mono ?_
  clear hc
  rintro e w1 ⟨_, rfl, rfl, E1⟩
  cases r with
  | false =>
    go_wp2_with fail
    go_ret
    have e0 : normR l = [] := by unfold normR; rw [HR.out]; rfl
    rw [e0]
    exact ⟨_, rfl, ⟨rfl, .inl ⟨rfl, rfl⟩⟩, E1⟩
  | true =>
    have hn := norm_any l _ w1 (h.ext E1) HR.out
    go_wp2_with fail
    refine hn.mono ?_
    clear hn
    rintro e w2 ⟨v', rfl, O, E2⟩
    go_wp2_with fail
    go_ret
    have e0 : normR l = normL l := by unfold normR; rw [HR.out]; rfl
    rw [e0]
    exact ⟨_, rfl, owns_mono O E1.size, E1.trans E2⟩

/-- Of how many bytes an edit tells. -/
def extL : List Pc → Int
  | [] => 0
  | p :: r => p.keep + p.drop + extL r
theorem extL_nn : ∀ {l : List Pc}, Nn l → 0 ≤ extL l ∧ extL l ≤ wt l
  | [], _ => ⟨Int.le_refl _, Int.le_refl _⟩
  | p :: r, h => by
    have h1 := extL_nn h.tail
    have h2 := h p List.mem_cons_self
    show 0 ≤ p.keep + p.drop + extL r ∧ p.keep + p.drop + extL r ≤ p.keep + p.drop + p.put.size + wt r
    omega
theorem Nn.at {l : List Pc} (h : Nn l) {i : Nat} {p : Pc} (hp : l[i]? = some p) : 0 ≤ p.keep ∧ 0 ≤ p.drop := h p (List.mem_of_getElem? hp)
theorem Nn.drop {l : List Pc} (h : Nn l) (i : Nat) : Nn (l.drop i) := fun p hp => h p (List.mem_of_mem_drop hp)
theorem extL_at {l : List Pc} {i : Nat} {p : Pc} (hp : l[i]? = some p) : extL (l.drop i) = p.keep + p.drop + extL (l.drop (i + 1)) := by rw [drop_at hp]; rfl
set_option maxRecDepth 100000 in
set_option maxHeartbeats 2000000 in
theorem extent_any (l : List Pc) (v : Value) (w : World) (h : RdP w l v) (hn : Nn l) (hw : wt l ≤ 1000000000000) : Calls Try.prog 29 #[v] w (Ret w fun r _ => r = .int .i64 (extL l)) := by
  obtain ⟨A, c, rfl, a1, a2, a3⟩ := h
  unfold maxLen at a2
  go_enter Try.func29, Try.ntmps29
  go_wp2_with fail
  go_loopw [3, 8] (fun s3 s8 wr => ∃ (i : Nat) (n : Int), s3 = .int .i64 n ∧ s8 = .int .i64 i ∧ i ≤ l.length ∧ 0 ≤ n ∧ Hid (n + extL (l.drop i) = extL l) ∧ Ext w wr) (fun _ i _ => l.length - (intOf i).toNat)
  case atStart => exact ⟨0, 0, rfl, rfl, Nat.zero_le _, Int.le_refl _, Lib.hid (by simp), Ext.refl w⟩
  case round =>
    obtain ⟨i, n, rfl, rfl, hi, hn0, HW, hE⟩ := hrel
    rcases Nat.lt_or_ge i l.length with hlt | hlt
    · obtain ⟨p, hp⟩ : ∃ p, l[i]? = some p := ⟨_, List.getElem?_eq_getElem hlt⟩
      obtain ⟨ba, oa, rfl, ra⟩ := a3 (by omega)
      obtain ⟨e1, e2, e3, e4⟩ := rdPcs_at (rdPcs_ext hE ra) hp
      obtain ⟨k1, k2⟩ := hn.at hp
      have HD : Hid (n + (p.keep + p.drop) + extL (l.drop (i + 1)) = extL l) := Lib.hid (by
        have h1 := HW.out
        rw [extL_at hp] at h1; omega)
      have x1 := extL_nn hn
      have x2 := extL_nn (hn.drop (i + 1))
      have x3 : n + (p.keep + p.drop) + extL (l.drop (i + 1)) = extL l := HD.out
      have q1 : (0 : Int) ≤ (i : Int) := by omega
      have q2 : (i : Int) < (l.length : Int) := by omega
      have b1 : p.keep + p.drop ≤ 1000000000000 := by omega
      have b2 : n + (p.keep + p.drop) ≤ 1000000000000 := by omega
      unfold maxLen at e4
      clear hp ra a3 HW x1 x2 x3
      go_wp2_with fail
      go_roundw
      case rel => exact ⟨i + 1, _, rfl, by go_num, by omega, by omega, HD, hE.alloc _⟩
      case measure => simp [intOf]; omega
    · have HF : Hid (n = extL l) := Lib.hid (by rw [← HW.out, List.drop_eq_nil_of_le hlt]; simp [extL])
      clear HW
      go_wp2_with fail
      go_ret
      exact ⟨_, rfl, by show Value.int .i64 n = _; rw [HF.out], hE⟩

/-- A text, edited. -/
def applyB (t : ByteArray) : List Pc → ByteArray
  | [] => t
  | p :: r => t.extract 0 p.keep.toNat ++ p.put ++ applyB (t.extract (p.keep + p.drop).toNat t.size) r
def apE (t : ByteArray) (l : List Pc) : Int := if pcsRight l then (if extL l ≤ t.size then 0 else 50) else 2
def apS (t : ByteArray) (l : List Pc) : ByteArray := if apE t l = 0 then applyB t l else ⟨#[]⟩
theorem applyB_at (t : ByteArray) {l : List Pc} {i : Nat} {p : Pc} (hp : l[i]? = some p) : applyB t (l.drop i) = t.extract 0 p.keep.toNat ++ p.put ++ applyB (t.extract (p.keep + p.drop).toNat t.size) (l.drop (i + 1)) := by rw [drop_at hp]; rfl
theorem wt_at {l : List Pc} {i : Nat} {p : Pc} (hp : l[i]? = some p) : wt (l.drop i) = p.keep + p.drop + p.put.size + wt (l.drop (i + 1)) := by rw [drop_at hp]; rfl
theorem wt_drop {l : List Pc} (h : Nn l) (i : Nat) : wt (l.drop i) ≤ wt l := by
  have h1 := wt_append (l.take i) (l.drop i)
  rw [List.take_append_drop] at h1
  have h2 : Nn (l.take i) := fun p hp => h p (List.mem_of_mem_take hp)
  have h3 := wt_nn h2
  omega
set_option maxRecDepth 100000 in
set_option maxHeartbeats 4000000 in
theorem apply_any (t : ByteArray) (l : List Pc) (v : Value) (w : World) (h : RdP w l v) (ht : t.size ≤ 1000000000000) : Calls Try.prog 18 #[.string t, v] w (Ret w fun r _ => r = .tuple #[.string (apS t l), .int .i64 (apE t l)]) := by
  have hc := right_any l v w h
  obtain ⟨A, c, rfl, a1, a2, a3⟩ := id h
  obtain ⟨r, hr⟩ : ∃ r, pcsRight l = r := ⟨_, rfl⟩
  rw [hr] at hc
  have HR := Lib.hid hr
  clear hr
  go_enter Try.func18, Try.ntmps18
  go_wp2_with fail
  refine hc.mono ?_
  clear hc
  rintro e w1 ⟨_, rfl, rfl, E1⟩
  cases r with
  | false =>
    go_wp2_with fail
    go_ret2
    have e0 : apE t l = 2 := by unfold apE; rw [HR.out]; rfl
    have e1 : apS t l = ⟨#[]⟩ := by unfold apS; rw [e0]; rfl
    exact ⟨_, rfl, by show Value.tuple #[.string ⟨#[]⟩, .int .i64 2] = _; rw [e0, e1], E1⟩
  | true =>
    obtain ⟨n1, n2, n3⟩ := right_nn HR.out
    have he := extent_any l _ w1 (h.ext E1) n1 (by omega)
    go_wp2_with fail
    refine he.mono ?_
    clear he
    rintro e w2 ⟨_, rfl, rfl, hE2⟩
    have E2 := E1.trans hE2
    clear E1 hE2
    rcases Int.lt_or_le (t.size : Int) (extL l) with hx | hx
    · have t1 : decide ((t.size : Int) < extL l) = true := decide_eq_true hx
      have HX := Lib.hid hx
      clear hx
      go_wp2_with fail
      go_ret2
      have e0 : apE t l = 50 := by unfold apE; rw [HR.out, if_pos rfl]; exact if_neg (Int.not_le.2 HX.out)
      have e1 : apS t l = ⟨#[]⟩ := by unfold apS; rw [e0]; rfl
      exact ⟨_, rfl, by show Value.tuple #[.string ⟨#[]⟩, .int .i64 50] = _; rw [e0, e1], E2⟩
    · have t1 : decide ((t.size : Int) < extL l) = false := decide_eq_false (by omega)
      have e0 : apE t l = 0 := by unfold apE; rw [HR.out, if_pos rfl]; exact if_pos hx
      have e1 : apS t l = applyB t l := by unfold apS; rw [e0]; rfl
      have H0 := Lib.hid e0
      have H1 := Lib.hid e1
      clear e0 e1
      go_wp2_with fail
      obtain ⟨b, hb⟩ : ∃ b, w2.heap.size = b := ⟨_, rfl⟩
      obtain ⟨w3, hw3⟩ : ∃ W, w2.alloc (.cells #[.pointer none, .slice none 0 0] 49) = W := ⟨_, rfl⟩
      have E3 : Ext w w3 := by rw [← hw3]; exact E2.alloc _
      have hbw : w.heap.size ≤ b := by rw [← hb]; exact E2.size
      have B3 : BuAt w3 b none (.slice none 0 0) ⟨#[]⟩ := by
        rw [← hw3, ← hb]
        exact ⟨NBox.new _ _ _, ⟨rfl, .inl ⟨rfl, rfl⟩⟩, by simp [Value.ownBlock], .inl rfl⟩
      rw [hw3, hb]
      clear hw3 hb E2
      go_loopw [0, 21] (fun s0 s21 wr => ∃ (i : Nat) (x acc : ByteArray) (q : Option Addr) (bv : Value), s0 = .string x ∧ s21 = .int .i64 i ∧ i ≤ l.length ∧ Hid (acc ++ applyB x (l.drop i) = applyB t l) ∧ extL (l.drop i) ≤ x.size ∧ x.size ≤ t.size ∧ acc.size + x.size + wt (l.drop i) ≤ 2000000000000 ∧ BuAt wr b q bv acc ∧ Ext w wr) (fun _ i _ => l.length - (intOf i).toNat)
      case atStart => exact ⟨0, t, ⟨#[]⟩, _, _, rfl, rfl, Nat.zero_le _, Lib.hid (by show (⟨#[]⟩ : ByteArray) ++ applyB t l = _; exact ByteArray.empty_append), by simpa using hx, Nat.le_refl _, by show ((0 : Nat) : Int) + _ + wt l ≤ _; omega, B3, E3⟩
      case round =>
        clear B3 E3
        obtain ⟨i, x, acc, q, bv, rfl, rfl, hi, HW, hex, hxt, hsz, hBu, hE⟩ := hrel
        rcases Nat.lt_or_ge i l.length with hlt | hlt
        · obtain ⟨p, hp⟩ : ∃ p, l[i]? = some p := ⟨_, List.getElem?_eq_getElem hlt⟩
          obtain ⟨ba, oa, rfl, ra⟩ := a3 (by omega)
          obtain ⟨e1, e2, e3, e4⟩ := rdPcs_at (rdPcs_ext hE ra) hp
          obtain ⟨k1, k2⟩ := n1.at hp
          have q1 : (0 : Int) ≤ (i : Int) := by omega
          have q2 : (i : Int) < (l.length : Int) := by omega
          have HX := extL_at hp
          have HT := wt_at hp
          have z1 := extL_nn (n1.drop (i + 1))
          have z2 := wt_nn (n1.drop (i + 1))
          obtain ⟨kn, hkn⟩ : ∃ n : Nat, p.keep = n := ⟨p.keep.toNat, by omega⟩
          obtain ⟨dn, hdn⟩ : ∃ n : Nat, p.drop = n := ⟨p.drop.toNat, by omega⟩
          have HA := applyB_at x hp
          have HW2 : Hid (acc ++ x.extract 0 kn ++ p.put ++ applyB (x.extract (kn + dn) x.size) (l.drop (i + 1)) = applyB t l) := Lib.hid (by
            rw [← HW.out, HA, hkn, hdn, ByteArray.append_assoc, ByteArray.append_assoc, ByteArray.append_assoc]
            rfl)
          have s1 : (x.extract 0 kn).size = kn := by rw [ByteArray.size_extract]; omega
          have s2 : (x.extract (kn + dn) x.size).size = x.size - (kn + dn) := by rw [ByteArray.size_extract]; omega
          rw [hkn] at e1
          rw [hdn] at e2
          have j1 : kn + dn ≤ x.size := by omega
          have j2 : kn ≤ x.size := by omega
          have j3 : (acc.size : Int) + (kn : Int) + p.put.size ≤ 2000000000000 := by omega
          have j4 : extL (l.drop (i + 1)) ≤ ((x.size - (kn + dn) : Nat) : Int) := by omega
          have j5 : (acc.size : Int) + kn + p.put.size + ((x.size - (kn + dn) : Nat) : Int) + wt (l.drop (i + 1)) ≤ 2000000000000 := by omega
          clear HA HX HT z1 z2 hkn hdn k1 k2 hp hex hsz HW
          go_wp2_with fail
          obtain ⟨w4, hw4⟩ : ∃ W, wr.alloc (.cells #[.int .i64 kn, .int .i64 dn, .string p.put] 29) = W := ⟨_, rfl⟩
          have F4 : Fr wr w4 (fun _ => False) := by rw [← hw4]; exact Fr.of_ext ((Ext.refl wr).alloc _) _
          have E4 : Ext w w4 := by rw [← hw4]; exact hE.alloc _
          have P4 : NBox w4 wr.heap.size 29 #[.int .i64 kn, .int .i64 dn, .string p.put] := by rw [← hw4]; exact NBox.new _ _ _
          have blt := hBu.1.lt
          have B4 := hBu.fr F4 (by simp) (by simp)
          rw [hw4]
          clear hw4 hE hBu F4
          have hc := writeString_any b q bv acc (x.extract 0 kn) w4 B4 (by rw [s1]; omega)
          refine hc.mono ?_
          clear hc
          rintro e w5 ⟨v5, rfl, B5, F5⟩
          have P5 := P4.fr F5 (fun h0 => h0.elim (fun h => by omega) (fun h => P4.not_own B4.2.1 (by decide) h))
          have E5 : Ext w w5 := Fr.ext E4 F5 (fun k hk => hk.elim (fun h => by omega) (fun h => by have := owns_base B4.2.1 k h; omega))
          clear P4 B4 F5 E4
          have c2 := P5.cell 2
          have hc := writeString_any b _ v5 _ p.put w5 B5 (by rw [ByteArray.size_append, s1]; omega)
          go_wp2_with fail
          refine hc.mono ?_
          clear hc c2
          rintro e w6 ⟨v6, rfl, B6, F6⟩
          have P6 := P5.fr F6 (fun h0 => h0.elim (fun h => by omega) (fun h => P5.not_own B5.2.1 (by decide) h))
          have E6 : Ext w w6 := Fr.ext E5 F6 (fun k hk => hk.elim (fun h => by omega) (fun h => by have := owns_base B5.2.1 k h; omega))
          clear P5 B5 F6 E5
          have c0 := P6.cell 0
          have c1 := P6.cell 1
          have j6 : ((kn : Int) + dn) ≤ (x.size : Int) := by omega
          go_wp2_with fail
          go_roundw
          case rel => exact ⟨i + 1, x.extract (kn + dn) x.size, acc ++ x.extract 0 kn ++ p.put, _, v6, rfl, by go_num, by omega, HW2, by rw [s2]; exact j4, by rw [s2]; omega, by rw [s2, ByteArray.size_append, ByteArray.size_append, s1]; omega, B6, E6⟩
          case measure => simp [intOf]; omega
        · have HF : Hid (acc ++ x = applyB t l) := Lib.hid (by rw [← HW.out, List.drop_eq_nil_of_le hlt]; rfl)
          have hc := writeString_any b q bv acc x wr hBu (by have := wt_nn (n1.drop i); omega)
          clear HW
          go_wp2_with fail
          refine hc.mono ?_
          clear hc
          rintro e w5 ⟨v5, rfl, B5, F5⟩
          have E5 : Ext w w5 := Fr.ext hE F5 (fun k hk => hk.elim (fun h => by omega) (fun h => by have := owns_base hBu.2.1 k h; omega))
          have hc := Try.Builder_String_any_k b b (acc ++ x).data.toList w5 B5.is (Nat.le_of_lt B5.1.lt)
          go_wp2_with fail
          refine hc.mono ?_
          clear hc
          rintro e w6 ⟨rfl, _, hb6, _⟩
          go_wp2_with fail
          go_ret2
          have E6 : Ext w w6 := ⟨hb6.os.trans E5.os, hb6.tape.trans E5.tape, hb6.output.trans E5.output, Nat.le_trans E5.size hb6.size, fun k hk => (hb6.block k (by omega)).trans (E5.block k hk)⟩
          refine ⟨_, rfl, ?_, E6⟩
          show Value.tuple #[.string (acc ++ x), .int .i64 0] = _
          rw [H1.out, H0.out, HF.out]
end Go.Proofs.Ytmncjknfkkedmaa.Lx
