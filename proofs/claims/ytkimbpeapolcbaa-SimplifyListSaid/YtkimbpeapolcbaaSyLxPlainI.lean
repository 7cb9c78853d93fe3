/- Chapter 10: LxRApply turned to this seat. (Printed by gsyport.py.) -/
import Derived.Test.YtkimbpeapolcbaaSyLxApply
import Derived.Test.YtkimbpeapolcbaaSyLxRNorm2
import Derived.Test.YtkimbpeapolcbaaSyLxPlainA
import Derived.Test.YtkimbpeapolcbaaSyLxView
import Derived.Test.YtkimbpeapolcbaaSyLxPlainV
import Derived.Test.YtkimbpeapolcbaaSyLxCPlain
namespace Go.Proofs.Ytkimbpeapolcbaa.Sy
open Go.RowKit Go.Proofs.Ytkimbpeapolcbaa.Bw Go.Proofs.Ytkimbpeapolcbaa.Bs

set_option maxRecDepth 100000 in
set_option maxHeartbeats 2000000 in
theorem extentR_any (l : List Pc) (v : Value) (w : World) (h : RdP w l v) (hn : Nn l) (hw : wt l ≤ 1000000000000) : Calls Try.prog 65 #[v] w (Ret w fun r _ => r = .int .i64 (extL l)) := by
  obtain ⟨A, c, rfl, a1, a2, a3⟩ := h
  unfold maxLen at a2
  go_enter Try.func65, Try.ntmps65
  go_wp2_with fail
  go_loopw [3, 4] (fun s3 s8 wr => ∃ (i : Nat) (n : Int), s3 = .int .i64 n ∧ s8 = .int .i64 i ∧ i ≤ l.length ∧ 0 ≤ n ∧ Hid (n + extL (l.drop i) = extL l) ∧ Ext w wr) (fun _ i _ => l.length - (intOf i).toNat)
  case atStart => exact ⟨0, 0, rfl, rfl, Nat.zero_le _, Int.le_refl _, Lib.hid (by simp), Ext.refl w⟩
  case round =>
    obtain ⟨i, n, rfl, rfl, hi, hn0, HW, hE⟩ := hrel
    rcases Nat.lt_or_ge i l.length with hlt | hlt
    · obtain ⟨p, hp⟩ : ∃ p, l[i]? = some p := ⟨_, List.getElem?_eq_getElem hlt⟩
      obtain ⟨ba, oa, rfl, ra⟩ := a3 (by omega)
      obtain ⟨e1, e2, e3, e4⟩ := rdPcs_at (rdPcs_ext hE ra) hp
      obtain ⟨k1, k2⟩ := hn.at hp
      have HD : Hid (n + p.keep + p.drop + extL (l.drop (i + 1)) = extL l) := Lib.hid (by
        have h1 := HW.out
        rw [extL_at hp] at h1; omega)
      have x1 := extL_nn hn
      have x2 := extL_nn (hn.drop (i + 1))
      have x3 : n + p.keep + p.drop + extL (l.drop (i + 1)) = extL l := HD.out
      have q1 : (0 : Int) ≤ (i : Int) := by omega
      have q2 : (i : Int) < (l.length : Int) := by omega
      have b1 : n + p.keep ≤ 1000000000000 := by omega
      have b2 : n + p.keep + p.drop ≤ 1000000000000 := by omega
      have w1 : IntKind.i64.wrap (n + p.keep) = n + p.keep := by rw [IntKind.wrap_i64]; omega
      have w2 : IntKind.i64.wrap (n + p.keep + p.drop) = n + p.keep + p.drop := by rw [IntKind.wrap_i64]; omega
      unfold maxLen at e4
      clear hp ra a3 HW x1 x2 x3
      go_wp2_with fail
      go_quiet (fail)
      go_wp2_with fail
      go_roundw
      case rel => exact ⟨i + 1, _, rfl, by go_num, by omega, by omega, HD, hE.drewN _⟩
      case measure => simp [intOf]; omega
    · have HF : Hid (n = extL l) := Lib.hid (by rw [← HW.out, List.drop_eq_nil_of_le hlt]; simp [extL])
      clear HW
      go_wp2_with fail
      go_ret
      exact ⟨_, rfl, by show Value.int .i64 n = _; rw [HF.out], hE⟩
end Go.Proofs.Ytkimbpeapolcbaa.Sy
namespace Go.Proofs.Ytkimbpeapolcbaa.Sy
open Go.RowKit Go.Proofs.Ytkimbpeapolcbaa.Bw Go.Proofs.Ytkimbpeapolcbaa.Bs

/-- What the document puts together. -/
def invOut (t : ByteArray) : Nat → List Pc → List Pc
  | _, [] => []
  | n, p :: r => ⟨p.keep, p.put.size, t.extract (n + p.keep.toNat) (n + p.keep.toNat + p.drop.toNat)⟩ :: invOut t (n + p.keep.toNat + p.drop.toNat) r
theorem invOut_at (t : ByteArray) (n : Nat) {l : List Pc} {i : Nat} {p : Pc} (hp : l[i]? = some p) : invOut t n (l.drop i) = ⟨p.keep, p.put.size, t.extract (n + p.keep.toNat) (n + p.keep.toNat + p.drop.toNat)⟩ :: invOut t (n + p.keep.toNat + p.drop.toNat) (l.drop (i + 1)) := by rw [drop_at hp]; rfl
theorem bl_tail (t : ByteArray) (n : Nat) : bl (t.extract n t.size) = (bl t).drop n := by rw [bl_extract, List.take_of_length_le (by simp [bl_len])]
theorem invGo_out (t : ByteArray) : ∀ {l : List Pc} (m : Mk) (n : Nat), Nn l → n + extL l ≤ t.size → invGo m (t.extract n t.size) l = m.pieces (invOut t n l)
  | [], _, _, _, _ => rfl
  | p :: r, m, n, h, he => by
    obtain ⟨k1, k2⟩ := h p List.mem_cons_self
    have h3 := extL_nn h.tail
    have e0 : extL (p :: r) = p.keep + p.drop + extL r := rfl
    obtain ⟨kn, hkn⟩ : ∃ x : Nat, p.keep = x := ⟨p.keep.toNat, by omega⟩
    obtain ⟨dn, hdn⟩ : ∃ x : Nat, p.drop = x := ⟨p.drop.toNat, by omega⟩
    show invGo (m.piece ⟨p.keep, p.put.size, ((t.extract n t.size).extract p.keep.toNat (t.extract n t.size).size).extract 0 p.drop.toNat⟩) (((t.extract n t.size).extract p.keep.toNat (t.extract n t.size).size).extract p.drop.toNat ((t.extract n t.size).extract p.keep.toNat (t.extract n t.size).size).size) r = (m.piece ⟨p.keep, p.put.size, t.extract (n + p.keep.toNat) (n + p.keep.toNat + p.drop.toNat)⟩).pieces (invOut t (n + p.keep.toNat + p.drop.toNat) r)
    rw [hkn, hdn, Int.toNat_natCast, Int.toNat_natCast]
    have e1 : (t.extract n t.size).extract kn (t.extract n t.size).size = t.extract (n + kn) t.size := bl_inj (by rw [bl_tail, bl_tail, bl_tail, List.drop_drop])
    rw [e1]
    have e2 : (t.extract (n + kn) t.size).extract 0 dn = t.extract (n + kn) (n + kn + dn) := bl_inj (by
      rw [bl_extract, bl_tail, bl_extract, List.drop_zero, show n + kn + dn - (n + kn) = dn - 0 by omega])
    have e3 : (t.extract (n + kn) t.size).extract dn (t.extract (n + kn) t.size).size = t.extract (n + kn + dn) t.size := bl_inj (by rw [bl_tail, bl_tail, bl_tail, List.drop_drop])
    rw [e2, e3, invGo_out t _ _ h.tail (by omega)]
theorem extract_all (t : ByteArray) : t.extract 0 t.size = t := bl_inj (by rw [bl_extract, List.drop_zero, List.take_of_length_le (by simp [bl_len])])
theorem invS_eq (t : ByteArray) {l : List Pc} (h : Nn l) (he : extL l ≤ t.size) : invS t l = normL (invOut t 0 (normL l)) := by
  have h1 := normL_nn h
  have h2 := normL_ext h
  have h3 := invGo_out t ⟨[], 0⟩ 0 h1 (by omega)
  rw [extract_all] at h3
  show (invGo ⟨[], 0⟩ t (normL l)).l = _
  rw [h3]
  rfl
theorem invOut_nn (t : ByteArray) : ∀ {l : List Pc} (n : Nat), Nn l → Nn (invOut t n l) ∧ (invOut t n l).length = l.length ∧ wt (invOut t n l) ≤ wt l
  | [], _, _ => ⟨fun _ h => absurd h List.not_mem_nil, rfl, Int.le_refl _⟩
  | p :: r, n, h => by
    obtain ⟨k1, k2⟩ := h p List.mem_cons_self
    obtain ⟨a, b, c⟩ := invOut_nn t (n + p.keep.toNat + p.drop.toNat) h.tail
    refine ⟨Nn.cons ⟨k1, by show (0 : Int) ≤ (p.put.size : Int); omega⟩ a, ?_, ?_⟩
    · show (invOut t _ r).length + 1 = r.length + 1
      rw [b]
    · show p.keep + (p.put.size : Int) + ((t.extract (n + p.keep.toNat) (n + p.keep.toNat + p.drop.toNat)).size : Int) + wt (invOut t _ r) ≤ p.keep + p.drop + p.put.size + wt r
      rw [ByteArray.size_extract]
      omega
end Go.Proofs.Ytkimbpeapolcbaa.Sy
namespace Go.Proofs.Ytkimbpeapolcbaa.Sy
open Go.RowKit Go.Proofs.Ytkimbpeapolcbaa.Bw Go.Proofs.Ytkimbpeapolcbaa.Bs

theorem RdS.lits (W : World) (l : List Pc) (hl : l.length ≤ maxLen) : RdS (W.alloc (.cells (pcVals l).toArray 35)) 3 l.length (pcVals l) (.slice (some ⟨W.heap.size, 0, none⟩) l.length l.length) := by
  refine ⟨_, _, rfl, pcVals_len l, Nat.le_refl _, hl, fun _ => ⟨W.heap.size, 0, rfl, fun j u hu => ?_⟩⟩
  rw [Nat.zero_add, (NBox.new W 35 (pcVals l).toArray).cell]
  simpa using hu
theorem vals_one' (l : List Pc) : ∀ u ∈ pcVals l, u.oneCell' = true := by
  intro u hu
  obtain ⟨p, _, hp⟩ := List.mem_flatMap.1 hu
  simp only [Pc.vals, List.mem_cons, List.not_mem_nil, or_false] at hp
  rcases hp with rfl | rfl | rfl <;> rfl
theorem bhStep_nn (first : Bool) (x y : ByteArray × Bool) : Nn (bhStep first x y) ∧ wt (bhStep first x y) ≤ x.1.size + y.1.size + 1 := by
  obtain ⟨x1, x2⟩ := x
  obtain ⟨y1, y2⟩ := y
  have e : ((⟨#[]⟩ : ByteArray).size : Int) = 0 := rfl
  constructor
  · intro p hp
    cases first <;> cases x2 <;> cases y2 <;> simp [bhStep] at hp <;> (rcases hp with rfl | rfl | rfl) <;> exact ⟨by dsimp only; omega, by dsimp only; omega⟩
  · cases first <;> cases x2 <;> cases y2 <;> simp [bhStep, wt, e] <;> omega
theorem bhP_nn (first : Bool) : ∀ (a b : Vw), (∀ x ∈ a, x.1.size ≤ 1000000) → (∀ x ∈ b, x.1.size ≤ 1000000) → Nn (bhP first a b) ∧ wt (bhP first a b) ≤ 2000001 * (a.length : Int)
  | [], b, _, _ => by
    have e : bhP first [] b = [] := by cases b <;> rfl
    rw [e]
    exact ⟨fun _ h => absurd h List.not_mem_nil, Int.le_refl _⟩
  | x :: r, [], _, _ => ⟨fun _ h => absurd h List.not_mem_nil, by show (0 : Int) ≤ _; omega⟩
  | x :: r, y :: s, ha, hb => by
    obtain ⟨h1, h2⟩ := bhStep_nn first x y
    obtain ⟨h3, h4⟩ := bhP_nn first r s (fun z hz => ha z (List.mem_cons_of_mem _ hz)) (fun z hz => hb z (List.mem_cons_of_mem _ hz))
    have h5 := ha x List.mem_cons_self
    have h6 := hb y List.mem_cons_self
    refine ⟨h1.append h3, ?_⟩
    show wt (bhStep first x y ++ bhP first r s) ≤ 2000001 * ((r.length + 1 : Nat) : Int)
    rw [wt_append]
    omega
theorem bhP_at (first : Bool) {a b : Vw} {i : Nat} {x y : ByteArray × Bool} (ha : a[i]? = some x) (hb : b[i]? = some y) : bhP first (a.drop i) (b.drop i) = bhStep first x y ++ bhP first (a.drop (i + 1)) (b.drop (i + 1)) := by rw [drop_at ha, drop_at hb]; rfl
theorem bhP_nil (first : Bool) {a b : Vw} (h : a = []) : bhP first a b = [] := by rw [h]; cases b <;> rfl
end Go.Proofs.Ytkimbpeapolcbaa.Sy
namespace Go.Proofs.Ytkimbpeapolcbaa.Sy
open Go.RowKit Go.Proofs.Ytkimbpeapolcbaa.Bw Go.Proofs.Ytkimbpeapolcbaa.Bs

/-- The places that Transform looks at. -/
def tN (a b : List Pc) : Nat := (max (extL (normL a)) (extL (normL b))).toNat
theorem VAt.ext {W W' : World} {P : List ByteArray} {D : List Bool} {v : Value} (h : VAt W P D v) (e : Ext W W') : VAt W' P D v := by
  obtain ⟨g1, g2, c1, c2, rfl, h1, h2, h3, h4⟩ := h
  exact ⟨g1, g2, c1, c2, rfl, h1.ext e, h2.ext e, h3, h4⟩
theorem RdP.okp2 {l : List Pc} (hn : Nn l) (hw : wt l ≤ 1000000) : ∀ p ∈ l, okStr p.put := fun p hp => by
  have h1 := wt_mem hn hp
  have h2 := hn p hp
  unfold okStr maxLen
  omega
theorem putF_size : ∀ {l : List Pc} {n i : Nat} {C : Nat}, (∀ p ∈ l, p.put.size ≤ C) → (putF l n i).size ≤ C
  | [], _, _, _, _ => Nat.zero_le _
  | p :: r, n, i, C, h => by
    show (if _ then p.put else putF r _ i).size ≤ C
    split
    · exact h p List.mem_cons_self
    · exact putF_size (fun q hq => h q (List.mem_cons_of_mem _ hq))
theorem vwF_size {l : List Pc} {N C : Nat} (hn : Nn l) (hr : NR l) (h : ∀ p ∈ l, p.put.size ≤ C) : ∀ x ∈ vwF l N, x.1.size ≤ C := by
  intro x hx
  obtain ⟨i, hi⟩ := List.mem_iff_getElem?.1 hx
  have hl : i < (vwF l N).length := (List.getElem?_eq_some_iff.1 hi).1
  rw [vwF_len] at hl
  rw [vwF_get N hn hr (by omega)] at hi
  rw [← Option.some.inj hi]
  exact putF_size h
end Go.Proofs.Ytkimbpeapolcbaa.Sy
namespace Go.Proofs.Ytkimbpeapolcbaa.Sy
open Go.RowKit Go.Proofs.Ytkimbpeapolcbaa.Bw Go.Proofs.Ytkimbpeapolcbaa.Bs

theorem last_keep_zero {m : Mk} (h : 0 ≤ m.keep) : m.last.keep = 0 := by
  unfold Mk.last
  split
  · rfl
  · rename_i hn
    have : ¬ (0 < m.keep) := fun h1 => hn (.inl h1)
    omega
/-- Behind a put or a drop the last piece goes on. -/
theorem last_of {l : List Pc} (h : l ≠ []) : (Mk.mk l 0).last = ⟨l, 0⟩ := if_neg (fun h' => h'.elim (fun h' => by simp only at h'; omega) (fun h' => h h'))
theorem put_of {l : List Pc} (h : l ≠ []) {u : ByteArray} (hu : 0 < u.size) : (Mk.mk l 0).put u = ⟨onLast (fun p => { p with put := p.put ++ u }) l, 0⟩ := by
  have e : (Mk.mk l 0).put u = ⟨onLast (fun p => { p with put := p.put ++ u }) (Mk.mk l 0).last.l, (Mk.mk l 0).last.keep⟩ := if_pos hu
  rw [e, last_of h]
theorem drop_of {l : List Pc} (h : l ≠ []) {n : Int} (hn : 0 < n) : (Mk.mk l 0).drop n = ⟨onLast (fun p => { p with drop := p.drop + n }) l, 0⟩ := by
  have e : (Mk.mk l 0).drop n = ⟨onLast (fun p => { p with drop := p.drop + n }) (Mk.mk l 0).last.l, (Mk.mk l 0).last.keep⟩ := if_pos hn
  rw [e, last_of h]
theorem put_eq {m : Mk} (hm : 0 ≤ m.keep) {u : ByteArray} (hu : 0 < u.size) : m.put u = ⟨onLast (fun p => { p with put := p.put ++ u }) m.last.l, 0⟩ := by
  have e : m.put u = ⟨onLast (fun p => { p with put := p.put ++ u }) m.last.l, m.last.keep⟩ := if_pos hu
  rw [e, last_keep_zero hm]
theorem drop_eq {m : Mk} (hm : 0 ≤ m.keep) {n : Int} (hn : 0 < n) : m.drop n = ⟨onLast (fun p => { p with drop := p.drop + n }) m.last.l, 0⟩ := by
  have e : m.drop n = ⟨onLast (fun p => { p with drop := p.drop + n }) m.last.l, m.last.keep⟩ := if_pos hn
  rw [e, last_keep_zero hm]
theorem put_put {m : Mk} (hm : 0 ≤ m.keep) (u v : ByteArray) : (m.put u).put v = m.put (u ++ v) := by
  rcases Nat.eq_zero_or_pos u.size with hu | hu
  · rw [put_none m hu, bytes_empty hu]
    congr 1
  · rcases Nat.eq_zero_or_pos v.size with hv | hv
    · rw [put_none _ hv, append_none hv]
    · have huv : 0 < (u ++ v).size := by rw [ByteArray.size_append]; omega
      rw [put_eq hm hu, put_of (onLast_ne m.last_ne) hv, put_eq hm huv, onLast_onLast]
      simp only [ByteArray.append_assoc]
theorem drop_drop' {m : Mk} (hm : 0 ≤ m.keep) {a b : Int} (ha : 0 ≤ a) (hb : 0 ≤ b) : (m.drop a).drop b = m.drop (a + b) := by
  rcases Int.lt_or_le 0 a with h1 | h1
  · rcases Int.lt_or_le 0 b with h2 | h2
    · rw [drop_eq hm h1, drop_of (onLast_ne m.last_ne) h2, drop_eq hm (show 0 < a + b by omega), onLast_onLast]
      simp only [Int.add_assoc]
    · rw [show b = 0 by omega, drop_zero_, Int.add_zero]
  · rw [show a = 0 by omega, drop_zero_, Int.zero_add]
theorem drop_put {m : Mk} (hm : 0 ≤ m.keep) (u : ByteArray) {n : Int} (hn : 0 ≤ n) : (m.drop n).put u = (m.put u).drop n := by
  rcases Nat.eq_zero_or_pos u.size with hu | hu
  · rw [put_none _ hu, put_none _ hu]
  · rcases Int.lt_or_le 0 n with h2 | h2
    · rw [drop_eq hm h2, put_of (onLast_ne m.last_ne) hu, put_eq hm hu, drop_of (onLast_ne m.last_ne) h2, onLast_onLast, onLast_onLast]
    · rw [show n = 0 by omega, drop_zero_, drop_zero_]
end Go.Proofs.Ytkimbpeapolcbaa.Sy
namespace Go.Proofs.Ytkimbpeapolcbaa.Sy
open Go.RowKit Go.Proofs.Ytkimbpeapolcbaa.Bw Go.Proofs.Ytkimbpeapolcbaa.Bs

theorem outL_acc : ∀ (l : List Pc) (a t : List UInt8), outL (runL (a, t) l) = a ++ outL (runL ([], t) l)
  | [], _, _ => rfl
  | p :: r, a, t => by
    show outL (runL (stepL (a, t) p) r) = a ++ outL (runL (stepL ([], t) p) r)
    unfold stepL
    simp only
    rw [outL_acc r, outL_acc r ([] ++ _ ++ _)]
    simp [List.append_assoc]
theorem out_cons (p : Pc) (r : List Pc) (x : List UInt8) : outL (runL ([], x) (p :: r)) = x.take p.keep.toNat ++ bl p.put ++ outL (runL ([], x.drop (p.keep + p.drop).toNat) r) := by
  show outL (runL (stepL ([], x) p) r) = _
  unfold stepL
  simp only
  rw [outL_acc]
  simp
theorem inv_run (t : ByteArray) : ∀ (l : List Pc) (n : Nat) (acc : List UInt8), Nn l → n + extL l ≤ t.size →
    runL (acc, outL (runL ([], (bl t).drop n) l)) (invOut t n l) = (acc ++ ((bl t).drop n).take (extL l).toNat, (bl t).drop (n + (extL l).toNat)) ∧ extL (invOut t n l) ≤ ((outL (runL ([], (bl t).drop n) l)).length : Int)
  | [], n, acc, _, _ => by
    constructor
    · show (acc, [] ++ (bl t).drop n) = (acc ++ List.take 0 _, (bl t).drop (n + 0))
      simp
    · show (0 : Int) ≤ _; omega
  | p :: r, n, acc, h, he => by
    obtain ⟨k1, k2⟩ := h p List.mem_cons_self
    have h3 := extL_nn h.tail
    have e0 : extL (p :: r) = p.keep + p.drop + extL r := rfl
    obtain ⟨k, hk⟩ : ∃ x : Nat, p.keep = x := ⟨p.keep.toNat, by omega⟩
    obtain ⟨d, hd⟩ : ∃ x : Nat, p.drop = x := ⟨p.drop.toNat, by omega⟩
    obtain ⟨e, he'⟩ : ∃ x : Nat, extL r = x := ⟨(extL r).toNat, by omega⟩
    have e1 : (extL (p :: r)).toNat = k + d + e := by omega
    have hlen : k ≤ ((bl t).drop n).length := by rw [List.length_drop, bl_len]; omega
    rw [out_cons, hk, hd, Int.toNat_natCast, show ((k : Int) + (d : Int)).toNat = k + d by omega, List.drop_drop]
    obtain ⟨ih1, ih2⟩ := inv_run t r (n + k + d) (acc ++ ((bl t).drop n).take (k + d)) h.tail (by omega)
    obtain ⟨A, hA⟩ : ∃ A, outL (runL ([], (bl t).drop (n + (k + d))) r) = A := ⟨_, rfl⟩
    rw [show n + k + d = n + (k + d) by omega, hA] at ih1 ih2
    rw [hA]
    have hpiece : invOut t n (p :: r) = ⟨p.keep, p.put.size, t.extract (n + k) (n + k + d)⟩ :: invOut t (n + (k + d)) r := by
      show (⟨p.keep, p.put.size, t.extract (n + p.keep.toNat) (n + p.keep.toNat + p.drop.toNat)⟩ : Pc) :: invOut t (n + p.keep.toNat + p.drop.toNat) r = _
      rw [hk, hd, Int.toNat_natCast, Int.toNat_natCast, show n + k + d = n + (k + d) by omega]
    rw [hpiece]
    constructor
    · show runL (stepL (acc, ((bl t).drop n).take k ++ bl p.put ++ A) ⟨p.keep, p.put.size, t.extract (n + k) (n + k + d)⟩) (invOut t (n + (k + d)) r) = _
      have hstep : stepL (acc, ((bl t).drop n).take k ++ bl p.put ++ A) ⟨p.keep, p.put.size, t.extract (n + k) (n + k + d)⟩ = (acc ++ ((bl t).drop n).take (k + d), A) := by
        unfold stepL
        simp only [hk, Int.toNat_natCast]
        have e2 : ((k : Int) + (p.put.size : Int)).toNat = k + p.put.size := by omega
        have e3 : bl (t.extract (n + k) (n + k + d)) = (((bl t).drop n).drop k).take d := by
          rw [bl_extract, List.drop_drop, show n + k + d - (n + k) = d by omega]
        have e4 : (((bl t).drop n).take k ++ bl p.put).length = k + p.put.size := by rw [List.length_append, bl_len, List.length_take]; omega
        rw [e2, e3, List.drop_left' e4, List.append_assoc (((bl t).drop n).take k), List.take_left' (by rw [List.length_take]; omega), List.take_add, List.append_assoc]
      rw [hstep, ih1, he', Int.toNat_natCast, e1]
      rw [show n + (k + d) + e = n + (k + d + e) by omega, List.append_assoc]
      congr 2
      rw [List.take_add (i := k + d), List.drop_drop]
    · show p.keep + (p.put.size : Int) + extL (invOut t (n + (k + d)) r) ≤ _
      rw [List.length_append, List.length_append, bl_len, List.length_take]
      omega
theorem inv_undo {t : ByteArray} {l : List Pc} (h : apE t l = 0) (hw : sumP l ≤ 1000) (hl : l.length ≤ 900) : inE t l = 0 ∧ apE (apS t l) (inL t l) = 0 ∧ apS (apS t l) (inL t l) = t := by
  obtain ⟨h1, h2⟩ := apE_ok h
  obtain ⟨n1, _, _⟩ := right_nn h1
  have hwt : wt l ≤ 1000 := by rw [← sumP_eq n1]; exact hw
  have m1 := normL_nn n1
  have m2 := normL_wt n1
  have m3 := normL_len l
  have m4 := normL_ext n1
  obtain ⟨o1, o2, o3⟩ := invOut_nn t 0 m1
  have eS := invS_eq t n1 h2
  have hr : pcsRight (invS t l) = true := by rw [eS]; exact right_normL o1 (by omega) (by omega)
  have hE : inE t l = 0 := by unfold inE; rw [if_pos h, hr]; rfl
  have hL : inL t l = invS t l := by unfold inL; rw [if_pos hE]
  have hs : apS t l = applyB t (normL l) := by rw [apS_ok h, apply_normL t n1]
  obtain ⟨r1, r2⟩ := inv_run t (normL l) 0 [] m1 (by omega)
  rw [List.drop_zero, ← bl_apply] at r1 r2
  rw [bl_len] at r2
  have hap : applyB (applyB t (normL l)) (invS t l) = t := by
    apply bl_inj
    rw [bl_apply, eS, run_normL _ o1, r1]
    unfold outL
    simp
  have hx : extL (invS t l) ≤ (apS t l).size := by
    rw [hs, eS]
    have := normL_ext o1
    omega
  have hE2 : apE (apS t l) (invS t l) = 0 := by unfold apE; rw [hr, if_pos rfl]; exact if_pos hx
  rw [hL]
  exact ⟨hE, hE2, by rw [apS_ok hE2, hs, hap]⟩
theorem out_len : ∀ {l : List Pc} (x : List UInt8), Nn l → (outL (runL ([], x) l)).length ≤ x.length + putLen l
  | [], x, _ => by show ([] ++ x).length ≤ x.length + 0; simp
  | p :: r, x, h => by
    obtain ⟨k1, k2⟩ := h p List.mem_cons_self
    have ih := out_len (x.drop (p.keep + p.drop).toNat) h.tail
    rw [out_cons, List.length_append, List.length_append, List.length_take, bl_len]
    rw [List.length_drop] at ih
    show _ ≤ x.length + (p.put.size + putLen r)
    omega
theorem apS_size (t : ByteArray) (l : List Pc) : (apS t l).size ≤ t.size + 1048576 := by
  by_cases h : apE t l = 0
  · obtain ⟨h1, h2⟩ := apE_ok h
    obtain ⟨n1, _, _⟩ := right_nn h1
    have hp : putLen l ≤ 1048576 := by
      simp only [pcsRight, Bool.and_eq_true, decide_eq_true_eq] at h1
      have := (pcsOk_nn h1.2).2.2
      omega
    have := out_len (bl t) n1
    rw [apS_ok h, ← bl_len, bl_apply]
    rw [bl_len] at this
    omega
  · have : apS t l = ⟨#[]⟩ := by unfold apS; rw [if_neg h]
    rw [this]
    exact Nat.zero_le _
end Go.Proofs.Ytkimbpeapolcbaa.Sy
