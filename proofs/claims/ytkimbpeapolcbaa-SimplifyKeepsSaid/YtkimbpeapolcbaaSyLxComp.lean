/- Chapter 10: LxComp turned to this seat. (Printed by gsyport.py.) -/
import Derived.Test.YtkimbpeapolcbaaSyLxPlainT
namespace Go.Proofs.Ytkimbpeapolcbaa.Sy
open Go.RowKit Go.Proofs.Ytkimbpeapolcbaa.Bw Go.Proofs.Ytkimbpeapolcbaa.Bs

def posS : Option Value → Nat
 | some (.string s) => one s
 | _ => 0
def psiAt (w : World) (g : Nat) : Nat → Nat → Nat
 | _, 0 => 0
 | off, n + 1 => posV (w.cell? ⟨g, off, none⟩) + posV (w.cell? ⟨g, off + 1, none⟩) + posS (w.cell? ⟨g, off + 2, none⟩) + psiAt w g (off + 3) n
def psiBox (w : World) (B : Nat) : Nat := match w.cell? ⟨B, 0, none⟩ with
 | some (.slice (some a) n _) => psiAt w a.block a.off n
 | _ => 0
def oneV : Value → Nat
 | .string s => one s
 | _ => 0
theorem psiAt_eq {w : World} {g : Nat} : ∀ {l : List Pc} {off : Nat}, rdPcs w g off l → psiAt w g off l.length = psi l
 | [], _, _ => rfl
 | p :: r, off, ⟨h1, h2, h3, _, h5⟩ => by
  show posV _ + posV _ + posS _ + psiAt w g (off + 3) r.length = psi1 p + psi r
  rw [h1, h2, h3, psiAt_eq h5]
  rfl
theorem psiBox_eq {w : World} {B : Nat} {G : Option Nat} {l : List Pc} (h : RowAt w B G l) : psiBox w B = psi l := by
 obtain ⟨v, hN, A, c, rfl, h1, h2, h3⟩ := h
 have c0 := hN.cell 0
 unfold psiBox
 rw [c0]
 cases l with
 | nil => cases A <;> rfl
 | cons p r =>
  obtain ⟨g, off, cur, _, rfl, _, hr⟩ := h3 (by simp)
  exact psiAt_eq hr
/-- Where the blocks lie. -/
structure CD (w0 : World) (N : Nat) (Gp Gq : Option Nat) : Prop where
 bn : w0.heap.size ≤ N
 gp : ∀ g, Gp = some g → w0.heap.size ≤ g ∧ g < N
 gq : ∀ g, Gq = some g → w0.heap.size ≤ g ∧ g < N
 pq : ∀ g, Gp = some g → Gq = some g → False
/-- Compose's state in memory. -/
structure CAt (W w0 : World) (N : Nat) (Gp Gq : Option Nat) (p q : List Pc) (x : Mk) (lx : Value) : Prop where
 rp : RowAt W N Gp p
 rq : RowAt W (N + 1) Gq q
 mx : MkAt W (N + 2) (N + 3) x lx
 ext : Ext w0 W
theorem CAt.onX {W W' w0 : World} {N : Nat} {Gp Gq : Option Nat} {p q : List Pc} {x : Mk} {lx : Value} (D : CD w0 N Gp Gq) (h : CAt W w0 N Gp Gq p q x lx) {x' : Mk} {lx' : Value}
  (M : MkAt W' (N + 2) (N + 3) x' lx') (F : Fr W W' (fun k => k = N + 2 ∨ lx.ownBlock = some k)) : CAt W' w0 N Gp Gq p q x' lx' := by
 have ox : ∀ k, lx.ownBlock = some k → N + 3 ≤ k := fun k hk => owns_base h.mx.2.1 k hk
 have d1 := D.bn
 refine ⟨h.rp.fr F ?_ ?_, h.rq.fr F ?_ ?_, M, Fr.ext h.ext F ?_⟩
 ·rintro (e | e)
  ·omega
  ·have := ox _ e; omega
 ·rintro g hg (e | e)
  ·have := D.gp g hg; omega
  ·have := ox _ e; have := D.gp g hg; omega
 ·rintro (e | e)
  ·omega
  ·have := ox _ e; omega
 ·rintro g hg (e | e)
  ·have := D.gq g hg; omega
  ·have := ox _ e; have := D.gq g hg; omega
 ·rintro k (e | e)
  ·omega
  ·have := ox _ e; omega
theorem CAt.rows {W W' w0 : World} {N : Nat} {Gp Gq : Option Nat} {p q : List Pc} {x : Mk} {lx : Value} (D : CD w0 N Gp Gq) (h : CAt W w0 N Gp Gq p q x lx) {p' q' : List Pc}
  (M : RowAt W' N Gp p') (M2 : RowAt W' (N + 1) Gq q') (F : Fr W W' (fun k => k = N ∨ k = N + 1 ∨ Gp = some k ∨ Gq = some k)) : CAt W' w0 N Gp Gq p' q' x lx := by
 have ox : ∀ k, lx.ownBlock = some k → N + 3 ≤ k := fun k hk => owns_base h.mx.2.1 k hk
 have d1 := D.bn
 refine ⟨M, M2, h.mx.fr F ?_ ?_, Fr.ext h.ext F ?_⟩
 ·rintro (e | e | e | e)
  ·omega
  ·omega
  ·have := D.gp _ e; omega
  ·have := D.gq _ e; omega
 ·rintro g hg (e | e | e | e)
  ·have := ox g hg; omega
  ·have := ox g hg; omega
  ·have := ox g hg; have := D.gp _ e; omega
  ·have := ox g hg; have := D.gq _ e; omega
 ·rintro k (e | e | e | e)
  ·omega
  ·omega
  ·have := D.gp _ e; omega
  ·have := D.gq _ e; omega
theorem CAt.ofP {W W' w0 : World} {N : Nat} {Gp Gq : Option Nat} {p q : List Pc} {x : Mk} {lx : Value} (D : CD w0 N Gp Gq) (h : CAt W w0 N Gp Gq p q x lx) {p' : List Pc} (M : RowAt W' N Gp p') (F : Fr W W' (fun k => k = N ∨ Gp = some k)) : CAt W' w0 N Gp Gq p' q x lx :=
 h.rows D M (h.rq.fr F (fun e => e.elim (fun e => by omega) (fun e => by have := D.gp _ e; omega)) (fun g hg e => e.elim (fun e => by have := D.gq g hg; omega) (fun e => D.pq g e hg))) (F.mono (fun k hk => hk.elim .inl (fun e => .inr (.inr (.inl e)))))
theorem CAt.ofQ {W W' w0 : World} {N : Nat} {Gp Gq : Option Nat} {p q : List Pc} {x : Mk} {lx : Value} (D : CD w0 N Gp Gq) (h : CAt W w0 N Gp Gq p q x lx) {q' : List Pc} (M : RowAt W' (N + 1) Gq q') (F : Fr W W' (fun k => k = N + 1 ∨ Gq = some k)) : CAt W' w0 N Gp Gq p q' x lx :=
 h.rows D (h.rp.fr F (fun e => e.elim (fun e => by omega) (fun e => by have := D.gq _ e; omega)) (fun g hg e => e.elim (fun e => by have := D.gp g hg; omega) (fun e => D.pq g hg e))) M (F.mono (fun k hk => hk.elim (fun e => .inr (.inl e)) (fun e => .inr (.inr (.inr e)))))
theorem CAt.moreX {W w0 : World} {N : Nat} {Gp Gq : Option Nat} {p q : List Pc} {x : Mk} {lx : Value} (D : CD w0 N Gp Gq) (h : CAt W w0 N Gp Gq p q x lx) (n : Int) : CAt (W.setCell ⟨N + 2, 1, none⟩ (.int .i64 (x.keep + n))) w0 N Gp Gq p q (x.more n) lx :=
 h.onX D (h.mx.more n) ((Fr.setCell _ _ _ _).mono (fun _ h => .inl h))
theorem CAt.ext' {W W' w0 : World} {N : Nat} {Gp Gq : Option Nat} {p q : List Pc} {x : Mk} {lx : Value} (h : CAt W w0 N Gp Gq p q x lx) (E : Ext W W') : CAt W' w0 N Gp Gq p q x lx :=
 ⟨h.rp.fr (Fr.of_ext E (fun _ => False)) (by simp) (by simp), h.rq.fr (Fr.of_ext E (fun _ => False)) (by simp) (by simp), h.mx.fr (Fr.of_ext E (fun _ => False)) (by simp) (by simp), h.ext.trans E⟩
theorem step_fresh {s : CS} {p' Q : List Pc} {FR : ByteArray} {n : Nat} (hQ : ¬ 0 < (rPutS s.q).size) (hf : s.fetch = ⟨p', s.q, s.x, FR⟩) (hfr : 0 < FR.size) (hs : rSkip (rPut s.q) = Q) (hn : frN Q FR = (n : Int)) :
  s.step = some ⟨p', rTake (min (n : Int) (rN Q)) Q, if rD Q then s.x else s.x.put (FR.extract 0 n), FR.extract n FR.size⟩ := by
 unfold CS.step
 rw [if_neg hQ, hf]
 dsimp only
 rw [if_pos hfr, hs, hn, Int.toNat_natCast]
theorem step_drop {s : CS} {p' P Q : List Pc} {FR : ByteArray} (hQ : ¬ 0 < (rPutS s.q).size) (hf : s.fetch = ⟨p', s.q, s.x, FR⟩) (hfr : ¬ 0 < FR.size) (hs : rSkip (rPut s.q) = Q) (hp : rSkip p' = P) (hd : rD P = true) :
  s.step = some ⟨rTake (rN P) P, Q, s.x.drop (rN P), FR⟩ := by
 unfold CS.step
 rw [if_neg hQ, hf]
 dsimp only
 rw [if_neg hfr, hs, hp, if_pos hd]
theorem step_go {s : CS} {p' P Q : List Pc} {FR : ByteArray} {n : Int} (hQ : ¬ 0 < (rPutS s.q).size) (hf : s.fetch = ⟨p', s.q, s.x, FR⟩) (hfr : ¬ 0 < FR.size) (hs : rSkip (rPut s.q) = Q) (hp : rSkip p' = P) (hd : rD P = false) (hb : bSome P Q = true) (hn : bN P Q = n) :
  s.step = some ⟨rTake (min n (rN P)) P, rTake (min n (rN Q)) Q, goC (rD Q) n s.x, FR⟩ := by
 unfold CS.step
 rw [if_neg hQ, hf]
 dsimp only
 rw [if_neg hfr, hs, hp, if_neg (by rw [hd]; decide), if_pos hb, hn]
theorem step_done {s : CS} {p' P Q : List Pc} {FR : ByteArray} (hQ : ¬ 0 < (rPutS s.q).size) (hf : s.fetch = ⟨p', s.q, s.x, FR⟩) (hfr : ¬ 0 < FR.size) (hs : rSkip (rPut s.q) = Q) (hp : rSkip p' = P) (hd : rD P = false) (hb : bSome P Q = false) : s.step = none := by
 unfold CS.step
 rw [if_neg hQ, hf]
 dsimp only
 rw [if_neg hfr, hs, hp, if_neg (by rw [hd]; decide), if_neg (by rw [hb]; decide)]
theorem ext_all (t : ByteArray) : t.extract 0 t.size = t := ByteArray.extract_zero_size
theorem ext_none (t : ByteArray) : t.extract t.size t.size = ByteArray.empty := by
 apply ByteArray.ext
 simp
theorem RB.nn {C : Nat} {l : List Pc} (h : RB C l) : Nn l := fun p hp => ⟨(h p hp).1, (h p hp).2.2.1⟩
theorem RowAt.lt {W : World} {B : Nat} {G : Option Nat} {l : List Pc} (h : RowAt W B G l) : B < W.heap.size := by
 obtain ⟨v, h, _⟩ := h
 exact h.lt
def coX (a b : List Pc) : Mk := cRun ((CS.mk (normL a) (normL b) ⟨[], 0⟩ ⟨#[]⟩).psi + 1) ⟨normL a, normL b, ⟨[], 0⟩, ⟨#[]⟩⟩
def coE (a b : List Pc) : Int := if pcsRight a && pcsRight b then (if pcsRight (coX a b).l then 0 else 3) else 2
def coL (a b : List Pc) : List Pc := if coE a b = 0 then (coX a b).l else []
set_option maxRecDepth 100000 in
set_option maxHeartbeats 8000000 in
theorem compose_any (a b : List Pc) (va vb : Value) (w : World) (ha : RdP w a va) (hb : RdP w b vb) : Calls Try.prog 36 #[va, vb] w fun e w' => ∃ v', e = .returned (.tuple #[v', .int .i64 (coE a b)]) ∧ RdP w' (coL a b) v' ∧ Ext w w' := by
 have hca := right_any a va w ha
 obtain ⟨Aa, ca, rfl, _⟩ := id ha
 obtain ⟨Ab, cb, rfl, _⟩ := id hb
 obtain ⟨ra, hra⟩ : ∃ r, pcsRight a = r := ⟨_, rfl⟩
 obtain ⟨rb, hrb⟩ : ∃ r, pcsRight b = r := ⟨_, rfl⟩
 rw [hra] at hca
 have HA := Lib.hid hra
 have HB := Lib.hid hrb
 clear hra hrb
 go_enter Try.func36, Try.ntmps36
 go_wp2_with fail
 refine hca.mono ?_
 clear hca
 rintro e w2 ⟨_, rfl, rfl, E2⟩
 cases ra
 ·go_wp2_with fail
  go_ret2
  have e0 : coE a b = 2 := by unfold coE; rw [HA.out]; rfl
  rw [show coL a b = [] by unfold coL; rw [e0]; rfl, e0]
  exact ⟨_, rfl, RdP.nil _, E2⟩
 have hcb := right_any b _ w2 (hb.ext E2)
 rw [HB.out] at hcb
 go_wp2_with fail
 refine hcb.mono ?_
 clear hcb
 rintro e w3 ⟨_, rfl, rfl, hE3⟩
 have E3 := E2.trans hE3
 clear E2 hE3
 cases rb
 ·go_wp2_with fail
  go_ret2
  have e0 : coE a b = 2 := by unfold coE; rw [HA.out, HB.out]; rfl
  rw [show coL a b = [] by unfold coL; rw [e0]; rfl, e0]
  exact ⟨_, rfl, RdP.nil _, E3⟩
 have hna := norm_any a _ _ (ha.ext E3) HA.out
 go_wp2_with fail
 refine hna.mono ?_
 clear hna
 rintro e w4 ⟨v4, rfl, O4, hE4⟩
 have E4 := E3.trans hE4
 have hnb := norm_any b _ _ (hb.ext E4) HB.out
 go_wp2_with fail
 refine hnb.mono ?_
 clear hnb
 rintro e w5 ⟨v5, rfl, O5, hE5⟩
 have E5 := E4.trans hE5
 have f4 := O4.lt
 have f5 := O5.lt
 replace O4 := owns_ext hE5 O4
 have z3 := E3.size
 have z4 := hE4.size
 have z5 := hE5.size
 have ra1 := right_nn HA.out
 have rb1 := right_nn HB.out
 have n1 := normL_nn ra1.1
 have n2 := normL_nn rb1.1
 have q1 := normL_wt ra1.1
 have q2 := normL_wt rb1.1
 have m1 := normL_len a
 have m2 := normL_len b
 have i1 := psi_le (normL a)
 have i2 := psi_le (normL b)
 obtain ⟨FIN, hFIN⟩ : ∃ F, coX a b = F := ⟨_, rfl⟩
 have HFI : Hid (cRun ((CS.mk (normL a) (normL b) ⟨[], 0⟩ ⟨#[]⟩).psi + 1) ⟨normL a, normL b, ⟨[], 0⟩, ⟨#[]⟩⟩ = FIN) := Lib.hid hFIN
 have ok0 : (CS.mk (normL a) (normL b) ⟨[], 0⟩ ⟨#[]⟩).Ok 20000000000 100000 := by
  refine ⟨n1, n2, NnM.zero, ?_, ?_⟩
  ·show wtM ⟨[], 0⟩ + wt (normL a) + wt (normL b) + ((0 : Nat) : Int) ≤ _
   rw [show wtM ⟨[], 0⟩ = 0 from rfl]; omega
  ·show 0 + (psi (normL a) + psi (normL b) + one ⟨#[]⟩) ≤ _
   have : one ⟨#[]⟩ = 0 := rfl
   omega
 have HFIN := Lib.hid hFIN
 have wa := ra1.2.1
 have wb := rb1.2.1
 generalize normL a = la at *
 generalize normL b = lb at *
 clear hFIN ra1 rb1 m1 m2 i1 i2
 have sa : ∀ p ∈ la, okStr p.put := fun p hp => by
  have h1 := wt_mem n1 hp
  have h2 := n1 p hp
  unfold okStr maxLen; omega
 have sb : ∀ p ∈ lb, okStr p.put := fun p hp => by
  have h1 := wt_mem n2 hp
  have h2 := n2 p hp
  unfold okStr maxLen; omega
 have V4 := RowV.of_owns O4 sa
 have V5 := RowV.of_owns O5 sb
 have D : CD w w5.heap.size v4.ownBlock v5.ownBlock := ⟨by omega, fun g hg => by have := f4 g hg; omega, fun g hg => by have := f5 g hg; omega, fun g h1 h2 => by have := f4 g h1; have := f5 g h2; omega⟩
 obtain ⟨Gp, hGp⟩ : ∃ G, v4.ownBlock = G := ⟨_, rfl⟩
 obtain ⟨Gq, hGq⟩ : ∃ G, v5.ownBlock = G := ⟨_, rfl⟩
 rw [hGp] at V4 D
 rw [hGq] at V5 D
 obtain ⟨A4, c4, rfl, _⟩ := RdS.of_owns O4
 obtain ⟨A5, c5, rfl, _⟩ := RdS.of_owns O5
 clear O4 O5 f4 f5 hGp hGq q1 q2 wa wb
 go_wp2_with fail
 obtain ⟨N, hN⟩ : ∃ N, w5.heap.size = N := ⟨_, rfl⟩
 obtain ⟨w6, hw6⟩ : ∃ W, ((w5.alloc (.cells #[.slice A4 la.length c4] 74)).alloc (.cells #[.slice A5 lb.length c5] 74)).alloc (.cells #[.slice none 0 0, .int .i64 0] 76) = W := ⟨_, rfl⟩
 have TA : CAt w6 w N Gp Gq la lb ⟨[], 0⟩ (.slice none 0 0) := by
  obtain ⟨u1, hu1⟩ : ∃ W, w5.alloc (.cells #[.slice A4 la.length c4] 74) = W := ⟨_, rfl⟩
  have b1 : NBox u1 N 74 #[.slice A4 la.length c4] := by rw [← hu1, ← hN]; exact NBox.new _ _ _
  have x1 : Ext w5 u1 := by rw [← hu1]; exact (Ext.refl _).alloc _
  have s1 : u1.heap.size = N + 1 := by rw [← hu1, ← hN]; simp
  rw [hu1] at hw6
  obtain ⟨u2, hu2⟩ : ∃ W, u1.alloc (.cells #[.slice A5 lb.length c5] 74) = W := ⟨_, rfl⟩
  have b2 : NBox u2 (N + 1) 74 #[.slice A5 lb.length c5] := by rw [← hu2, ← s1]; exact NBox.new _ _ _
  have x2 : Ext u1 u2 := by rw [← hu2]; exact (Ext.refl _).alloc _
  have s2 : u2.heap.size = N + 2 := by rw [← hu2]; simp [s1]
  rw [hu2] at hw6
  have b3 : NBox w6 (N + 2) 76 #[.slice none 0 0, .int .i64 0] := by rw [← hw6, ← s2]; exact NBox.new _ _ _
  have x3 : Ext u2 w6 := by rw [← hw6]; exact (Ext.refl _).alloc _
  have s3 : w6.heap.size = N + 3 := by rw [← hw6]; simp [s2]
  have x56 := (x1.trans x2).trans x3
  exact ⟨⟨_, b1.ext (x2.trans x3), V4.fr (Fr.of_ext x56 (fun _ => False)) (by simp)⟩, ⟨_, b2.ext x3, V5.fr (Fr.of_ext x56 (fun _ => False)) (by simp)⟩, ⟨b3, ⟨rfl, .inl ⟨rfl, rfl⟩⟩, by omega, by omega⟩, E5.trans x56⟩
 rw [hw6, hN, show N + 1 + 1 = N + 2 from rfl]
 rw [hN] at D
 clear hw6 V4 V5 hN z3 z4 z5 E3 E4 E5 hE4 hE5
 go_loopw [9] (fun s9 wr => ∃ (p q : List Pc) (x : Mk) (f : ByteArray) (lx : Value), s9 = .string f ∧ CAt wr w N Gp Gq p q x lx ∧ (CS.mk p q x f).Ok 20000000000 100000 ∧ Hid (∃ k, (CS.mk p q x f).psi < k ∧ cRun k ⟨p, q, x, f⟩ = FIN)) (fun s9 wr => psiBox wr N + psiBox wr (N + 1) + oneV s9)
 case atStart => exact ⟨la, lb, ⟨[], 0⟩, ⟨#[]⟩, _, rfl, TA, ok0, Lib.hid ⟨_, Nat.lt_succ_self _, HFI.out⟩⟩
 case round =>
  clear TA ok0 HFI sa sb n1 n2
  obtain ⟨p, q, x, f, lx, rfl, hC, ok, HF⟩ := hrel
  have hM : Hid (psiBox wr N + psiBox wr (N + 1) + oneV (.string f) = (CS.mk p q x f).psi) := Lib.hid (by rw [psiBox_eq hC.rp, psiBox_eq hC.rq]; rfl)
  have HS : ∀ t : CS, (CS.mk p q x f).step = some t → t.Ok 20000000000 100000 ∧ t.psi < (CS.mk p q x f).psi ∧ Hid (∃ k, t.psi < k ∧ cRun k t = FIN) := fun t ht => by
   obtain ⟨h1, h2⟩ := CS.step_ok ok ht
   refine ⟨h1, h2, Lib.hid ?_⟩
   obtain ⟨k, h3, h4⟩ := HF.out
   cases k with
   | zero => omega
   | succ k =>
    refine ⟨k, by omega, ?_⟩
    have e : cRun (k + 1) ⟨p, q, x, f⟩ = cRun k t := by
     show (match (CS.mk p q x f).step with | none => _ | some t => cRun k t) = _
     rw [ht]
    rw [← e]; exact h4
  have HN0 : (CS.mk p q x f).step = none → Hid (x = FIN) := fun ht => Lib.hid (by
   obtain ⟨k, h3, h4⟩ := HF.out
   cases k with
   | zero => omega
   | succ k =>
    have e : cRun (k + 1) ⟨p, q, x, f⟩ = x := by
     show (match (CS.mk p q x f).step with | none => _ | some t => cRun k t) = _
     rw [ht]
    rw [← e]; exact h4)
  have bx := MB.of_wt (n := 900000) (C := 1000000000000) ok.nx (by have := ok.tx; have := wt_nn ok.np; have := wt_nn ok.nq; simp only at *; omega) (by have := ok.lx; simp only at *; omega)
  have Rp : RB 1000000000000 p := RB.of_wt ok.np (by have := ok.tx; have h2 := wt_nn ok.nq; have h3 := wt_nn ok.nx.1; have h4 := ok.nx.2; unfold wtM at this; simp only at *; omega)
  have Rq : RB 1000000000000 q := RB.of_wt ok.nq (by have := ok.tx; have h2 := wt_nn ok.np; have h3 := wt_nn ok.nx.1; have h4 := ok.nx.2; unfold wtM at this; simp only at *; omega)
  have fb : f.size ≤ 1000000000000 := by have := ok.tx; have h1 := wt_nn ok.np; have h2 := wt_nn ok.nq; have h3 := wt_nn ok.nx.1; have h4 := ok.nx.2; unfold wtM at this; simp only at *; omega
  have np : Nn p := ok.np
  have nq : Nn q := ok.nq
  clear ok HF
  obtain ⟨v, Nv, V⟩ := hC.rq
  have c0 := Nv.cell 0
  have hc := rput_any Gq q v wr V
  go_wp2_with fail
  refine hc.mono ?_
  clear hc c0
  rintro e w7 ⟨rfl, V7, F7⟩
  have hC7 := hC.ofQ D ⟨v, Nv.fr F7 (fun e => by have := D.gq _ e; omega), V7⟩ (F7.mono (fun k hk => .inr hk))
  clear Nv V V7 F7 hC
  have zq : (rPutS q).size ≤ 1000000000000 := Rq.putS
  by_cases hQ : 0 < (rPutS q).size
  ·have t1 : decide (0 < (rPutS q).size) = true := decide_eq_true hQ
   obtain ⟨g1, g2, g3⟩ := HS ⟨p, rPut q, x.put (rPutS q), f⟩ (by unfold CS.step; exact if_pos hQ)
   have hc := put_any x (N + 2) (N + 3) lx (rPutS q) w7 hC7.mx (by have := bx.len; omega) (fun r hr => (bx.bnd r hr).1) zq
   clear HS HN0 hQ
   go_wp2_with fail
   refine hc.mono ?_
   clear hc
   rintro e w8 ⟨l8, rfl, M8, F8, G8⟩
   have hC8 := hC7.onX D M8 F8
   go_wp2_with fail
   go_roundw
   case rel => exact ⟨_, _, _, _, _, rfl, hC8, g1, g3⟩
   case measure =>
    rw [hM.out, psiBox_eq hC8.rp, psiBox_eq hC8.rq]
    exact g2
  ·have t1 : decide (0 < (rPutS q).size) = false := decide_eq_false hQ
   rcases Nat.eq_zero_or_pos f.size with hf | hf
   ·have hl := str_empty hf
    have hff := str_none hf
    obtain ⟨u, Nu, U⟩ := hC7.rp
    have c0 := Nu.cell 0
    have hc := rput_any Gp p u w7 U
    go_wp2_with fail
    refine hc.mono ?_
    clear hc c0
    rintro e w8 ⟨rfl, U8, F8⟩
    have hC8 := hC7.ofP D ⟨u, Nu.fr F8 (fun e => by have := D.gp _ e; omega), U8⟩ (F8.mono (fun k hk => .inr hk))
    clear Nu U U8 F8 hC7 hl
    have HFE : Hid ((CS.mk p q x f).fetch = ⟨rPut p, q, x, rPutS p⟩) := Lib.hid (if_neg (by show ¬ 0 < f.size; omega))
    have fp : (rPutS p).size ≤ 1000000000000 := Rp.putS
    have Rp' := Rp.put
    obtain ⟨Q, hQQ⟩ : ∃ Q, rSkip (rPut q) = Q := ⟨_, rfl⟩
    have HQQ := Lib.hid hQQ
    have HSK : Hid (rSkip Q = Q) := Lib.hid (by rw [← hQQ]; exact skip_skip _)
    have RQ : RB 1000000000000 Q := by rw [← hQQ]; exact Rq.put.skip
    have nQ : Nn Q := RQ.nn
    obtain ⟨kn, hkn⟩ : ∃ kn : Nat, rN Q = kn := ⟨(rN Q).toNat, by have := RQ.n; omega⟩
    have hkb : kn ≤ 1000000000000 := by have := RQ.n.2; omega
    have HRN := Lib.hid hkn
    have hc := run_any (N + 1) Gq (rPut q) w8 hC8.rq (fun e => by have := D.gq _ e; omega)
    rw [hQQ, hkn] at hc
    clear hQQ hkn
    go_wp2_with fail
    refine hc.mono ?_
    clear hc
    rintro e w9 ⟨rfl, R9, F9⟩
    have hC9 := hC8.ofQ D R9 (F9.mono (fun k hk => .inl hk))
    clear R9 F9 hC8
    by_cases hfr : 0 < (rPutS p).size
    ·have hl := str_some hfr
     cases Q with
     | nil =>
      have HGD : Hid (rD ([] : List Pc) = false) := Lib.hid rfl
      have HFN : Hid (frN [] (rPutS p) = (((rPutS p).size : Nat) : Int)) := Lib.hid (if_neg (by decide))
      have HMN : Hid (min (((rPutS p).size : Nat) : Int) (rN []) = 0) := Lib.hid (by show min _ 0 = _; omega)
      have HRN : Hid (rN ([] : List Pc) = ((0 : Nat) : Int)) := Lib.hid rfl
      have g9 : rD ([] : List Pc) = false := rfl
      have g8 : decide (0 < ([] : List Pc).length) = false := rfl
      have j1 : ¬ ((((rPutS p).size : Nat) : Int) ≤ 0) := by omega
      have j2 : ¬ ((rPutS p).size = 0) := by omega
      obtain ⟨g1, g2, g3⟩ := HS _ (step_fresh hQ HFE.out hfr HQQ.out (n := (rPutS p).size) HFN.out)
      clear HS HN0
      rw [HGD.out, if_neg (by decide)] at g1 g2 g3
      rw [HMN.out] at g1 g2 g3
      rw [ext_none] at g1 g2 g3
      rw [ext_all] at g1 g2 g3
      have hc := put_any x (N + 2) (N + 3) lx (rPutS p) w9 hC9.mx (by have := bx.len; omega) (fun r hr => (bx.bnd r hr).1) (by omega)
      go_wp2_with fail
      refine hc.mono ?_
      clear hc
      rintro e w11 ⟨l11, rfl, M11, F11, G11⟩
      have hC11 := hC9.onX D M11 F11
      clear M11 F11 G11
      go_wp2_with fail
      obtain ⟨v, Nv, V⟩ := hC11.rq
      have c0 := Nv.cell 0
      have hlG : ∀ g, Gq = some g → g < N := fun g hg => by have := D.gq g hg; omega
      have hNW : N < w11.heap.size := hC11.rp.lt
      refine wp_region_held_drew (S := fun X => X.cell? ⟨N + 1, 0, none⟩ = some v) (by kernel_rfl) (show _ = _ from c0) (fun hHeld => ?_)
      refine wpAnyH_take (i := 0) (oi := ⟨_, _, _, _, _, _⟩) (v := ?_) rfl (by kernel_rfl) (by kernel_rfl) (by kernel_rfl) (fun _ _ _ h => h) (Or.inl ⟨by rfl, ?_⟩) hHeld ?_
      rotate_left
      ·intro w hSw
       try dsimp only at hSw
       go_simp
       all_goals (first | with_reducible rfl | rw [if_pos (by omega)])
      try simp only [Act.put, aS]
      refine wpAnyH_take (i := 1) (oi := ⟨_, _, _, _, _, _⟩) (v := ?_) rfl (by kernel_rfl) (by kernel_rfl) (by kernel_rfl) (fun _ _ _ h => h) (Or.inl ⟨by rfl, ?_⟩) hHeld ?_
      rotate_left
      ·intro w hSw
       try dsimp only at hSw
       go_simp
       all_goals (first | with_reducible rfl | rw [if_pos (by omega)])
      try simp only [Act.put, aS]
      refine wpAnyH_take (i := 2) (oi := ⟨_, _, _, _, _, _⟩) (v := ?_) rfl (by kernel_rfl) (by kernel_rfl) (by kernel_rfl) (fun _ _ _ h => h) (Or.inl ⟨by rfl, ?_⟩) hHeld ?_
      rotate_left
      ·intro w hSw
       try dsimp only at hSw
       go_simp
       all_goals (first | with_reducible rfl | rw [if_pos (by omega)])
      try simp only [Act.put, aS]
      have hCd := hC11.ext' ((Ext.refl w11).drew)
      obtain ⟨Wd, hWd⟩ : ∃ X, w11.drew = X := ⟨_, rfl⟩
      rw [hWd] at hHeld hCd
      rw [hWd]
      have hNd : w11.heap.size = Wd.heap.size := by rw [← hWd]; rfl
      have Vd : RowV Wd Gq (([] : List Pc)) v := by rw [← hWd]; exact V.fr (Fr.of_ext ((Ext.refl w11).drew) (fun _ => False)) (by simp)
      have Nd : NBox Wd (N + 1) 74 #[v] := by rw [← hWd]; exact Nv.ext ((Ext.refl w11).drew)
      clear hWd hC11 V Nv c0
      refine wpAnyH_ready (rs := [3]) (by kernel_rfl) (by simp) ?_
      refine AllReadyH.cons (o := ⟨_, _, _, _, _, _⟩) rfl (fun K' hK => ?_) (AllReadyH.nil)
      go_simp
      have hl := left_any Gq (([] : List Pc)) v Wd Vd (fun g hg => by have := hlG g hg; omega)
      rw [HSK.out, HRN.out] at hl
      go_at_call 61
      refine hl.mono ?_
      clear hl
      rintro e Wl ⟨rfl, hEl⟩
      have Vl := Vd.fr (Fr.of_ext hEl (fun _ => False)) (by simp)
      have Nl := Nd.ext hEl
      replace hCd := hCd.ext' hEl
      refine hK.out _ _ (show _ = _ from Nl.cell 0) (fun hHeld => ?_)
      clear hK K' Vd Nd hNd
      try simp only [Act.put, aS]
      refine wpAnyH_ready (rs := [4]) (by kernel_rfl) (by simp) ?_
      refine AllReadyH.cons (o := ⟨_, _, _, _, _, _⟩) rfl (fun K' hK => ?_) (AllReadyH.nil)
      go_simp
      refine hK.out _ _ hHeld (fun hHeld => ?_)
      clear hK K'
      try simp only [Act.put, aS]
      refine wpAnyH_ready (rs := [5]) (by kernel_rfl) (by simp) ?_
      refine AllReadyH.cons (o := ⟨_, _, _, _, _, _⟩) rfl (fun K' hK => ?_) (AllReadyH.nil)
      go_simp
      have ht := take_any 1000000000000 (by decide) Gq (([] : List Pc)) v (0) Wl Vl (RQ) (by omega) (by omega)
      go_at_call 60
      refine ht.mono ?_
      clear ht
      rintro e w12 ⟨rfl, Vt, Ft⟩
      have Nt := Nl.fr Ft (fun e => by have := hlG _ e; omega)
      have hC12 := hCd.ofQ D ⟨v, Nt, Vt⟩ (Ft.mono (fun k hk => .inr hk))
      refine hK.out _ _ (show _ = _ from Nt.cell 0) (fun hHeld => ?_)
      clear hK K' hCd Vl Nl Ft
      try simp only [Act.put, aS]
      refine wpAnyH_done (by kernel_rfl) ?_ _
      clear hHeld hlG hNW Nt Vt
      go_wp2_with fail
      go_roundw
      case rel => exact ⟨_, _, _, _, _, rfl, hC12, g1, g3⟩
      case measure =>
       rw [hM.out, psiBox_eq hC12.rp, psiBox_eq hC12.rq]
       exact g2
     | cons c r =>
      have g8 : decide (0 < (c :: r : List Pc).length) = true := decide_eq_true (by simp)
      rcases Nat.lt_or_ge (rPutS p).size kn with hkf | hkf
      ·have HFN : Hid (frN (c :: r) (rPutS p) = (((rPutS p).size : Nat) : Int)) := Lib.hid (by unfold frN; rw [if_pos (by simp), HRN.out]; omega)
       have HMN : Hid (min (((rPutS p).size : Nat) : Int) (rN (c :: r)) = (((rPutS p).size : Nat) : Int)) := Lib.hid (by rw [HRN.out]; omega)
       have j1 : ¬ ((kn : Int) ≤ ((rPutS p).size : Int)) := by omega
       have j2 : ¬ (kn ≤ (rPutS p).size) := by omega
       have j5 : ¬ (kn < (rPutS p).size) := by omega
       have j6 : ¬ ((kn : Int) < ((rPutS p).size : Int)) := by omega
       have j3 : (((rPutS p).size : Int) ≤ (kn : Int)) := by omega
       have j4 : (rPutS p).size ≤ kn := by omega
       cases hgd : rD (c :: r) with
       | true =>
        have HGD := Lib.hid hgd
        obtain ⟨g1, g2, g3⟩ := HS _ (step_fresh hQ HFE.out hfr HQQ.out (n := (rPutS p).size) HFN.out)
        clear HS HN0
        rw [HGD.out, if_pos rfl] at g1 g2 g3
        rw [HMN.out] at g1 g2 g3
        rw [ext_none] at g1 g2 g3
        go_wp2_with fail
        obtain ⟨v, Nv, V⟩ := hC9.rq
        have c0 := Nv.cell 0
        have hlG : ∀ g, Gq = some g → g < N := fun g hg => by have := D.gq g hg; omega
        have hNW : N < w9.heap.size := hC9.rp.lt
        refine wp_region_held_drew (S := fun X => X.cell? ⟨N + 1, 0, none⟩ = some v) (by kernel_rfl) (show _ = _ from c0) (fun hHeld => ?_)
        refine wpAnyH_take (i := 0) (oi := ⟨_, _, _, _, _, _⟩) (v := ?_) rfl (by kernel_rfl) (by kernel_rfl) (by kernel_rfl) (fun _ _ _ h => h) (Or.inl ⟨by rfl, ?_⟩) hHeld ?_
        rotate_left
        ·intro w hSw
         try dsimp only at hSw
         go_simp
         all_goals (first | with_reducible rfl | rw [if_pos (by omega)])
        try simp only [Act.put, aS]
        refine wpAnyH_take (i := 1) (oi := ⟨_, _, _, _, _, _⟩) (v := ?_) rfl (by kernel_rfl) (by kernel_rfl) (by kernel_rfl) (fun _ _ _ h => h) (Or.inl ⟨by rfl, ?_⟩) hHeld ?_
        rotate_left
        ·intro w hSw
         try dsimp only at hSw
         go_simp
         all_goals (first | with_reducible rfl | rw [if_pos (by omega)])
        try simp only [Act.put, aS]
        refine wpAnyH_take (i := 2) (oi := ⟨_, _, _, _, _, _⟩) (v := ?_) rfl (by kernel_rfl) (by kernel_rfl) (by kernel_rfl) (fun _ _ _ h => h) (Or.inl ⟨by rfl, ?_⟩) hHeld ?_
        rotate_left
        ·intro w hSw
         try dsimp only at hSw
         go_simp
         all_goals (first | with_reducible rfl | rw [if_pos (by omega)])
        try simp only [Act.put, aS]
        have hCd := hC9.ext' ((Ext.refl w9).drew)
        obtain ⟨Wd, hWd⟩ : ∃ X, w9.drew = X := ⟨_, rfl⟩
        rw [hWd] at hHeld hCd
        rw [hWd]
        have hNd : w9.heap.size = Wd.heap.size := by rw [← hWd]; rfl
        have Vd : RowV Wd Gq ((c :: r)) v := by rw [← hWd]; exact V.fr (Fr.of_ext ((Ext.refl w9).drew) (fun _ => False)) (by simp)
        have Nd : NBox Wd (N + 1) 74 #[v] := by rw [← hWd]; exact Nv.ext ((Ext.refl w9).drew)
        clear hWd hC9 V Nv c0
        refine wpAnyH_ready (rs := [3]) (by kernel_rfl) (by simp) ?_
        refine AllReadyH.cons (o := ⟨_, _, _, _, _, _⟩) rfl (fun K' hK => ?_) (AllReadyH.nil)
        go_simp
        have hl := left_any Gq ((c :: r)) v Wd Vd (fun g hg => by have := hlG g hg; omega)
        rw [HSK.out, HRN.out] at hl
        go_at_call 61
        refine hl.mono ?_
        clear hl
        rintro e Wl ⟨rfl, hEl⟩
        have Vl := Vd.fr (Fr.of_ext hEl (fun _ => False)) (by simp)
        have Nl := Nd.ext hEl
        replace hCd := hCd.ext' hEl
        refine hK.out _ _ (show _ = _ from Nl.cell 0) (fun hHeld => ?_)
        clear hK K' Vd Nd hNd
        try simp only [Act.put, aS]
        refine wpAnyH_ready (rs := [4]) (by kernel_rfl) (by simp) ?_
        refine AllReadyH.cons (o := ⟨_, _, _, _, _, _⟩) rfl (fun K' hK => ?_) (AllReadyH.nil)
        go_simp
        refine hK.out _ _ hHeld (fun hHeld => ?_)
        clear hK K'
        try simp only [Act.put, aS]
        refine wpAnyH_ready (rs := [5]) (by kernel_rfl) (by simp) ?_
        refine AllReadyH.cons (o := ⟨_, _, _, _, _, _⟩) rfl (fun K' hK => ?_) (AllReadyH.nil)
        go_simp
        have ht := take_any 1000000000000 (by decide) Gq ((c :: r)) v ((((rPutS p).size : Nat) : Int)) Wl Vl (RQ) (by omega) (by omega)
        go_at_call 60
        refine ht.mono ?_
        clear ht
        rintro e w12 ⟨rfl, Vt, Ft⟩
        have Nt := Nl.fr Ft (fun e => by have := hlG _ e; omega)
        have hC12 := hCd.ofQ D ⟨v, Nt, Vt⟩ (Ft.mono (fun k hk => .inr hk))
        refine hK.out _ _ (show _ = _ from Nt.cell 0) (fun hHeld => ?_)
        clear hK K' hCd Vl Nl Ft
        try simp only [Act.put, aS]
        refine wpAnyH_done (by kernel_rfl) ?_ _
        clear hHeld hlG hNW Nt Vt
        go_wp2_with fail
        go_roundw
        case rel => exact ⟨_, _, _, _, _, rfl, hC12, g1, g3⟩
        case measure =>
         rw [hM.out, psiBox_eq hC12.rp, psiBox_eq hC12.rq]
         exact g2
       | false =>
        have HGD := Lib.hid hgd
        obtain ⟨g1, g2, g3⟩ := HS _ (step_fresh hQ HFE.out hfr HQQ.out (n := (rPutS p).size) HFN.out)
        clear HS HN0
        rw [HGD.out, if_neg (by decide)] at g1 g2 g3
        rw [HMN.out] at g1 g2 g3
        rw [ext_none] at g1 g2 g3
        rw [ext_all] at g1 g2 g3
        have hc := put_any x (N + 2) (N + 3) lx (rPutS p) w9 hC9.mx (by have := bx.len; omega) (fun r hr => (bx.bnd r hr).1) (by omega)
        go_wp2_with fail
        refine hc.mono ?_
        clear hc
        rintro e w11 ⟨l11, rfl, M11, F11, G11⟩
        have hC11 := hC9.onX D M11 F11
        clear M11 F11 G11
        go_wp2_with fail
        obtain ⟨v, Nv, V⟩ := hC11.rq
        have c0 := Nv.cell 0
        have hlG : ∀ g, Gq = some g → g < N := fun g hg => by have := D.gq g hg; omega
        have hNW : N < w11.heap.size := hC11.rp.lt
        refine wp_region_held_drew (S := fun X => X.cell? ⟨N + 1, 0, none⟩ = some v) (by kernel_rfl) (show _ = _ from c0) (fun hHeld => ?_)
        refine wpAnyH_take (i := 0) (oi := ⟨_, _, _, _, _, _⟩) (v := ?_) rfl (by kernel_rfl) (by kernel_rfl) (by kernel_rfl) (fun _ _ _ h => h) (Or.inl ⟨by rfl, ?_⟩) hHeld ?_
        rotate_left
        ·intro w hSw
         try dsimp only at hSw
         go_simp
         all_goals (first | with_reducible rfl | rw [if_pos (by omega)])
        try simp only [Act.put, aS]
        refine wpAnyH_take (i := 1) (oi := ⟨_, _, _, _, _, _⟩) (v := ?_) rfl (by kernel_rfl) (by kernel_rfl) (by kernel_rfl) (fun _ _ _ h => h) (Or.inl ⟨by rfl, ?_⟩) hHeld ?_
        rotate_left
        ·intro w hSw
         try dsimp only at hSw
         go_simp
         all_goals (first | with_reducible rfl | rw [if_pos (by omega)])
        try simp only [Act.put, aS]
        refine wpAnyH_take (i := 2) (oi := ⟨_, _, _, _, _, _⟩) (v := ?_) rfl (by kernel_rfl) (by kernel_rfl) (by kernel_rfl) (fun _ _ _ h => h) (Or.inl ⟨by rfl, ?_⟩) hHeld ?_
        rotate_left
        ·intro w hSw
         try dsimp only at hSw
         go_simp
         all_goals (first | with_reducible rfl | rw [if_pos (by omega)])
        try simp only [Act.put, aS]
        have hCd := hC11.ext' ((Ext.refl w11).drew)
        obtain ⟨Wd, hWd⟩ : ∃ X, w11.drew = X := ⟨_, rfl⟩
        rw [hWd] at hHeld hCd
        rw [hWd]
        have hNd : w11.heap.size = Wd.heap.size := by rw [← hWd]; rfl
        have Vd : RowV Wd Gq ((c :: r)) v := by rw [← hWd]; exact V.fr (Fr.of_ext ((Ext.refl w11).drew) (fun _ => False)) (by simp)
        have Nd : NBox Wd (N + 1) 74 #[v] := by rw [← hWd]; exact Nv.ext ((Ext.refl w11).drew)
        clear hWd hC11 V Nv c0
        refine wpAnyH_ready (rs := [3]) (by kernel_rfl) (by simp) ?_
        refine AllReadyH.cons (o := ⟨_, _, _, _, _, _⟩) rfl (fun K' hK => ?_) (AllReadyH.nil)
        go_simp
        have hl := left_any Gq ((c :: r)) v Wd Vd (fun g hg => by have := hlG g hg; omega)
        rw [HSK.out, HRN.out] at hl
        go_at_call 61
        refine hl.mono ?_
        clear hl
        rintro e Wl ⟨rfl, hEl⟩
        have Vl := Vd.fr (Fr.of_ext hEl (fun _ => False)) (by simp)
        have Nl := Nd.ext hEl
        replace hCd := hCd.ext' hEl
        refine hK.out _ _ (show _ = _ from Nl.cell 0) (fun hHeld => ?_)
        clear hK K' Vd Nd hNd
        try simp only [Act.put, aS]
        refine wpAnyH_ready (rs := [4]) (by kernel_rfl) (by simp) ?_
        refine AllReadyH.cons (o := ⟨_, _, _, _, _, _⟩) rfl (fun K' hK => ?_) (AllReadyH.nil)
        go_simp
        refine hK.out _ _ hHeld (fun hHeld => ?_)
        clear hK K'
        try simp only [Act.put, aS]
        refine wpAnyH_ready (rs := [5]) (by kernel_rfl) (by simp) ?_
        refine AllReadyH.cons (o := ⟨_, _, _, _, _, _⟩) rfl (fun K' hK => ?_) (AllReadyH.nil)
        go_simp
        have ht := take_any 1000000000000 (by decide) Gq ((c :: r)) v ((((rPutS p).size : Nat) : Int)) Wl Vl (RQ) (by omega) (by omega)
        go_at_call 60
        refine ht.mono ?_
        clear ht
        rintro e w12 ⟨rfl, Vt, Ft⟩
        have Nt := Nl.fr Ft (fun e => by have := hlG _ e; omega)
        have hC12 := hCd.ofQ D ⟨v, Nt, Vt⟩ (Ft.mono (fun k hk => .inr hk))
        refine hK.out _ _ (show _ = _ from Nt.cell 0) (fun hHeld => ?_)
        clear hK K' hCd Vl Nl Ft
        try simp only [Act.put, aS]
        refine wpAnyH_done (by kernel_rfl) ?_ _
        clear hHeld hlG hNW Nt Vt
        go_wp2_with fail
        go_roundw
        case rel => exact ⟨_, _, _, _, _, rfl, hC12, g1, g3⟩
        case measure =>
         rw [hM.out, psiBox_eq hC12.rp, psiBox_eq hC12.rq]
         exact g2
      ·have HFN : Hid (frN (c :: r) (rPutS p) = (kn : Int)) := Lib.hid (by unfold frN; rw [if_pos (by simp), HRN.out]; omega)
       have HMN : Hid (min (kn : Int) (rN (c :: r)) = (kn : Int)) := Lib.hid (by rw [HRN.out]; omega)
       have j3 : ((kn : Int) ≤ ((rPutS p).size : Int)) := by omega
       have j4 : kn ≤ (rPutS p).size := by omega
       cases hgd : rD (c :: r) with
       | true =>
        have HGD := Lib.hid hgd
        obtain ⟨g1, g2, g3⟩ := HS _ (step_fresh hQ HFE.out hfr HQQ.out (n := kn) HFN.out)
        clear HS HN0
        rw [HGD.out, if_pos rfl] at g1 g2 g3
        rw [HMN.out] at g1 g2 g3
        go_wp2_with fail
        obtain ⟨v, Nv, V⟩ := hC9.rq
        have c0 := Nv.cell 0
        have hlG : ∀ g, Gq = some g → g < N := fun g hg => by have := D.gq g hg; omega
        have hNW : N < w9.heap.size := hC9.rp.lt
        refine wp_region_held_drew (S := fun X => X.cell? ⟨N + 1, 0, none⟩ = some v) (by kernel_rfl) (show _ = _ from c0) (fun hHeld => ?_)
        refine wpAnyH_take (i := 0) (oi := ⟨_, _, _, _, _, _⟩) (v := ?_) rfl (by kernel_rfl) (by kernel_rfl) (by kernel_rfl) (fun _ _ _ h => h) (Or.inl ⟨by rfl, ?_⟩) hHeld ?_
        rotate_left
        ·intro w hSw
         try dsimp only at hSw
         go_simp
         all_goals (first | with_reducible rfl | rw [if_pos (by omega)])
        try simp only [Act.put, aS]
        refine wpAnyH_take (i := 1) (oi := ⟨_, _, _, _, _, _⟩) (v := ?_) rfl (by kernel_rfl) (by kernel_rfl) (by kernel_rfl) (fun _ _ _ h => h) (Or.inl ⟨by rfl, ?_⟩) hHeld ?_
        rotate_left
        ·intro w hSw
         try dsimp only at hSw
         go_simp
         all_goals (first | with_reducible rfl | rw [if_pos (by omega)])
        try simp only [Act.put, aS]
        refine wpAnyH_take (i := 2) (oi := ⟨_, _, _, _, _, _⟩) (v := ?_) rfl (by kernel_rfl) (by kernel_rfl) (by kernel_rfl) (fun _ _ _ h => h) (Or.inl ⟨by rfl, ?_⟩) hHeld ?_
        rotate_left
        ·intro w hSw
         try dsimp only at hSw
         go_simp
         all_goals (first | with_reducible rfl | rw [if_pos (by omega)])
        try simp only [Act.put, aS]
        have hCd := hC9.ext' ((Ext.refl w9).drew)
        obtain ⟨Wd, hWd⟩ : ∃ X, w9.drew = X := ⟨_, rfl⟩
        rw [hWd] at hHeld hCd
        rw [hWd]
        have hNd : w9.heap.size = Wd.heap.size := by rw [← hWd]; rfl
        have Vd : RowV Wd Gq ((c :: r)) v := by rw [← hWd]; exact V.fr (Fr.of_ext ((Ext.refl w9).drew) (fun _ => False)) (by simp)
        have Nd : NBox Wd (N + 1) 74 #[v] := by rw [← hWd]; exact Nv.ext ((Ext.refl w9).drew)
        clear hWd hC9 V Nv c0
        refine wpAnyH_ready (rs := [3]) (by kernel_rfl) (by simp) ?_
        refine AllReadyH.cons (o := ⟨_, _, _, _, _, _⟩) rfl (fun K' hK => ?_) (AllReadyH.nil)
        go_simp
        have hl := left_any Gq ((c :: r)) v Wd Vd (fun g hg => by have := hlG g hg; omega)
        rw [HSK.out, HRN.out] at hl
        go_at_call 61
        refine hl.mono ?_
        clear hl
        rintro e Wl ⟨rfl, hEl⟩
        have Vl := Vd.fr (Fr.of_ext hEl (fun _ => False)) (by simp)
        have Nl := Nd.ext hEl
        replace hCd := hCd.ext' hEl
        refine hK.out _ _ (show _ = _ from Nl.cell 0) (fun hHeld => ?_)
        clear hK K' Vd Nd hNd
        try simp only [Act.put, aS]
        refine wpAnyH_ready (rs := [4]) (by kernel_rfl) (by simp) ?_
        refine AllReadyH.cons (o := ⟨_, _, _, _, _, _⟩) rfl (fun K' hK => ?_) (AllReadyH.nil)
        go_simp
        refine hK.out _ _ hHeld (fun hHeld => ?_)
        clear hK K'
        try simp only [Act.put, aS]
        refine wpAnyH_ready (rs := [5]) (by kernel_rfl) (by simp) ?_
        refine AllReadyH.cons (o := ⟨_, _, _, _, _, _⟩) rfl (fun K' hK => ?_) (AllReadyH.nil)
        go_simp
        have ht := take_any 1000000000000 (by decide) Gq ((c :: r)) v ((kn : Int)) Wl Vl (RQ) (by omega) (by omega)
        go_at_call 60
        refine ht.mono ?_
        clear ht
        rintro e w12 ⟨rfl, Vt, Ft⟩
        have Nt := Nl.fr Ft (fun e => by have := hlG _ e; omega)
        have hC12 := hCd.ofQ D ⟨v, Nt, Vt⟩ (Ft.mono (fun k hk => .inr hk))
        refine hK.out _ _ (show _ = _ from Nt.cell 0) (fun hHeld => ?_)
        clear hK K' hCd Vl Nl Ft
        try simp only [Act.put, aS]
        refine wpAnyH_done (by kernel_rfl) ?_ _
        clear hHeld hlG hNW Nt Vt
        go_wp2_with fail
        go_roundw
        case rel => exact ⟨_, _, _, _, _, rfl, hC12, g1, g3⟩
        case measure =>
         rw [hM.out, psiBox_eq hC12.rp, psiBox_eq hC12.rq]
         exact g2
       | false =>
        have HGD := Lib.hid hgd
        obtain ⟨g1, g2, g3⟩ := HS _ (step_fresh hQ HFE.out hfr HQQ.out (n := kn) HFN.out)
        clear HS HN0
        rw [HGD.out, if_neg (by decide)] at g1 g2 g3
        rw [HMN.out] at g1 g2 g3
        have hc := put_any x (N + 2) (N + 3) lx ((rPutS p).extract 0 kn) w9 hC9.mx (by have := bx.len; omega) (fun r hr => (bx.bnd r hr).1) (by rw [ByteArray.size_extract]; omega)
        go_wp2_with fail
        refine hc.mono ?_
        clear hc
        rintro e w11 ⟨l11, rfl, M11, F11, G11⟩
        have hC11 := hC9.onX D M11 F11
        clear M11 F11 G11
        go_wp2_with fail
        obtain ⟨v, Nv, V⟩ := hC11.rq
        have c0 := Nv.cell 0
        have hlG : ∀ g, Gq = some g → g < N := fun g hg => by have := D.gq g hg; omega
        have hNW : N < w11.heap.size := hC11.rp.lt
        refine wp_region_held_drew (S := fun X => X.cell? ⟨N + 1, 0, none⟩ = some v) (by kernel_rfl) (show _ = _ from c0) (fun hHeld => ?_)
        refine wpAnyH_take (i := 0) (oi := ⟨_, _, _, _, _, _⟩) (v := ?_) rfl (by kernel_rfl) (by kernel_rfl) (by kernel_rfl) (fun _ _ _ h => h) (Or.inl ⟨by rfl, ?_⟩) hHeld ?_
        rotate_left
        ·intro w hSw
         try dsimp only at hSw
         go_simp
         all_goals (first | with_reducible rfl | rw [if_pos (by omega)])
        try simp only [Act.put, aS]
        refine wpAnyH_take (i := 1) (oi := ⟨_, _, _, _, _, _⟩) (v := ?_) rfl (by kernel_rfl) (by kernel_rfl) (by kernel_rfl) (fun _ _ _ h => h) (Or.inl ⟨by rfl, ?_⟩) hHeld ?_
        rotate_left
        ·intro w hSw
         try dsimp only at hSw
         go_simp
         all_goals (first | with_reducible rfl | rw [if_pos (by omega)])
        try simp only [Act.put, aS]
        refine wpAnyH_take (i := 2) (oi := ⟨_, _, _, _, _, _⟩) (v := ?_) rfl (by kernel_rfl) (by kernel_rfl) (by kernel_rfl) (fun _ _ _ h => h) (Or.inl ⟨by rfl, ?_⟩) hHeld ?_
        rotate_left
        ·intro w hSw
         try dsimp only at hSw
         go_simp
         all_goals (first | with_reducible rfl | rw [if_pos (by omega)])
        try simp only [Act.put, aS]
        have hCd := hC11.ext' ((Ext.refl w11).drew)
        obtain ⟨Wd, hWd⟩ : ∃ X, w11.drew = X := ⟨_, rfl⟩
        rw [hWd] at hHeld hCd
        rw [hWd]
        have hNd : w11.heap.size = Wd.heap.size := by rw [← hWd]; rfl
        have Vd : RowV Wd Gq ((c :: r)) v := by rw [← hWd]; exact V.fr (Fr.of_ext ((Ext.refl w11).drew) (fun _ => False)) (by simp)
        have Nd : NBox Wd (N + 1) 74 #[v] := by rw [← hWd]; exact Nv.ext ((Ext.refl w11).drew)
        clear hWd hC11 V Nv c0
        refine wpAnyH_ready (rs := [3]) (by kernel_rfl) (by simp) ?_
        refine AllReadyH.cons (o := ⟨_, _, _, _, _, _⟩) rfl (fun K' hK => ?_) (AllReadyH.nil)
        go_simp
        have hl := left_any Gq ((c :: r)) v Wd Vd (fun g hg => by have := hlG g hg; omega)
        rw [HSK.out, HRN.out] at hl
        go_at_call 61
        refine hl.mono ?_
        clear hl
        rintro e Wl ⟨rfl, hEl⟩
        have Vl := Vd.fr (Fr.of_ext hEl (fun _ => False)) (by simp)
        have Nl := Nd.ext hEl
        replace hCd := hCd.ext' hEl
        refine hK.out _ _ (show _ = _ from Nl.cell 0) (fun hHeld => ?_)
        clear hK K' Vd Nd hNd
        try simp only [Act.put, aS]
        refine wpAnyH_ready (rs := [4]) (by kernel_rfl) (by simp) ?_
        refine AllReadyH.cons (o := ⟨_, _, _, _, _, _⟩) rfl (fun K' hK => ?_) (AllReadyH.nil)
        go_simp
        refine hK.out _ _ hHeld (fun hHeld => ?_)
        clear hK K'
        try simp only [Act.put, aS]
        refine wpAnyH_ready (rs := [5]) (by kernel_rfl) (by simp) ?_
        refine AllReadyH.cons (o := ⟨_, _, _, _, _, _⟩) rfl (fun K' hK => ?_) (AllReadyH.nil)
        go_simp
        have ht := take_any 1000000000000 (by decide) Gq ((c :: r)) v ((kn : Int)) Wl Vl (RQ) (by omega) (by omega)
        go_at_call 60
        refine ht.mono ?_
        clear ht
        rintro e w12 ⟨rfl, Vt, Ft⟩
        have Nt := Nl.fr Ft (fun e => by have := hlG _ e; omega)
        have hC12 := hCd.ofQ D ⟨v, Nt, Vt⟩ (Ft.mono (fun k hk => .inr hk))
        refine hK.out _ _ (show _ = _ from Nt.cell 0) (fun hHeld => ?_)
        clear hK K' hCd Vl Nl Ft
        try simp only [Act.put, aS]
        refine wpAnyH_done (by kernel_rfl) ?_ _
        clear hHeld hlG hNW Nt Vt
        go_wp2_with fail
        go_roundw
        case rel => exact ⟨_, _, _, _, _, rfl, hC12, g1, g3⟩
        case measure =>
         rw [hM.out, psiBox_eq hC12.rp, psiBox_eq hC12.rq]
         exact g2
    ·have hl := str_empty (show (rPutS p).size = 0 by omega)
     obtain ⟨P, hPP⟩ : ∃ P, rSkip (rPut p) = P := ⟨_, rfl⟩
     have HPP := Lib.hid hPP
     have HSP : Hid (rSkip P = P) := Lib.hid (by rw [← hPP]; exact skip_skip _)
     have RP : RB 1000000000000 P := by rw [← hPP]; exact Rp.put.skip
     obtain ⟨pn, hpn⟩ : ∃ pn : Nat, rN P = pn := ⟨(rN P).toNat, by have := RP.n; omega⟩
     have hpb : pn ≤ 1000000000000 := by have := RP.n.2; omega
     have HPN := Lib.hid hpn
     have pp' : P ≠ [] → 0 < pn := fun h => by rw [← hPP] at h; have := rN_skip_pos h; rw [hPP] at this; omega
     have kp' : Q ≠ [] → 0 < kn := fun h => by
      have h1 := HQQ.out
      rw [← h1] at h
      have := rN_skip_pos h
      rw [h1, HRN.out] at this
      omega
     have hc := run_any N Gp (rPut p) w9 hC9.rp (fun e => by have := D.gp _ e; omega)
     rw [hPP, hpn] at hc
     clear hPP hpn
     go_wp2_with fail
     refine hc.mono ?_
     clear hc
     rintro e w10 ⟨rfl, R10, F10⟩
     have hC10 := hC9.ofP D R10 (F10.mono (fun k hk => .inl hk))
     clear R10 F10 hC9
     cases hpd : rD P with
     | true =>
      have HPD := Lib.hid hpd
      obtain ⟨g1, g2, g3⟩ := HS _ (step_drop hQ HFE.out hfr HQQ.out HPP.out HPD.out)
      clear HS HN0
      rw [HPN.out] at g1 g2 g3
      have hc := drop_any x (N + 2) (N + 3) lx (pn : Int) w10 hC10.mx (by have := bx.len; omega) (fun r hr => (bx.bnd r hr).2) (by omega)
      go_wp2_with fail
      refine hc.mono ?_
      clear hc
      rintro e w11 ⟨l11, rfl, M11, F11, G11⟩
      have hC11 := hC10.onX D M11 F11
      clear M11 F11 G11 hC10
      obtain ⟨v, Nv, V⟩ := hC11.rp
      have c0 := Nv.cell 0
      have ht := take_any 1000000000000 (by decide) Gp P v (pn : Int) w11 V RP (by omega) (by omega)
      go_wp2_with fail
      refine ht.mono ?_
      clear ht c0
      rintro e w12 ⟨rfl, V12, F12⟩
      have hC12 := hC11.ofP D ⟨v, Nv.fr F12 (fun e => by have := D.gp _ e; omega), V12⟩ (F12.mono (fun k hk => .inr hk))
      clear Nv V V12 F12 hC11
      go_wp2_with fail
      go_roundw
      case rel => exact ⟨_, _, _, _, _, rfl, hC12, g1, g3⟩
      case measure =>
       rw [hM.out, psiBox_eq hC12.rp, psiBox_eq hC12.rq]
       exact g2
     | false =>
      have HPD := Lib.hid hpd
      cases P with
      | nil =>
       cases Q with
       | nil =>
        have g9 : rD ([] : List Pc) = false := rfl
        have HF2 := HN0 (step_done hQ HFE.out hfr HQQ.out HPP.out HPD.out rfl)
        clear HS HN0
        have okp := okStr_of bx (by decide)
        have hc := done_any x (N + 2) (N + 3) lx w10 hC10.mx okp
        have R := RdP.of_owns hC10.mx.2.1 okp
        have EE := hC10.ext
        obtain ⟨ty, hty⟩ : ∃ t, pcsRight x.l = t := ⟨_, rfl⟩
        rw [hty] at hc
        have HT := Lib.hid hty
        obtain ⟨lA, lc, rfl, _⟩ := id R
        have g8 : decide (0 < ([] : List Pc).length) = false := rfl
        clear hty hC10
        go_wp2_with fail
        refine hc.mono ?_
        clear hc
        rintro e w11 ⟨rfl, E11⟩
        have E12 := EE.trans E11
        replace R := R.ext E11
        have eX : coX a b = x := HFIN.out.trans HF2.out.symm
        have eE : coE a b = if ty then 0 else 3 := by unfold coE; rw [HA.out, HB.out, eX, HT.out]; rfl
        have HE := Lib.hid eE
        have HX := Lib.hid eX
        clear eE eX
        cases ty with
        | false =>
         go_wp2_with fail
         go_ret2
         have e0 : coE a b = 3 := HE.out
         rw [show coL a b = [] by unfold coL; rw [e0]; rfl, e0]
         exact ⟨_, rfl, RdP.nil _, E12⟩
        | true =>
         go_wp2_with fail
         go_ret2
         have e0 : coE a b = 0 := HE.out
         rw [show coL a b = x.l by unfold coL; rw [e0, HX.out]; rfl, e0]
         exact ⟨_, rfl, R, E12⟩
       | cons c r =>
        have kp := kp' (by simp)
        have HBN : Hid (bN [] (c :: r) = (kn : Int)) := Lib.hid HRN.out
        have HM1 : Hid (min (kn : Int) (rN []) = 0) := Lib.hid (by show min _ 0 = _; omega)
        have HM2 : Hid (min (kn : Int) (rN (c :: r)) = (kn : Int)) := Lib.hid (by rw [HRN.out]; omega)
        have HPN : Hid (rN ([] : List Pc) = ((0 : Nat) : Int)) := Lib.hid rfl
        have j1 : 0 < kn := kp
        have j2 : (0 : Int) < (kn : Int) := by omega
        have g7 : decide (0 < ([] : List Pc).length) = false := rfl
        have g6 : decide (0 < (c :: r : List Pc).length) = true := decide_eq_true (by simp)
        cases hgd : rD (c :: r) with
        | true =>
         have HGD := Lib.hid hgd
         obtain ⟨g1, g2, g3⟩ := HS _ (step_go hQ HFE.out hfr HQQ.out HPP.out HPD.out rfl HBN.out)
         clear HS HN0
         rw [HM1.out, HM2.out, HGD.out] at g1 g2 g3
         have hc := drop_any x (N + 2) (N + 3) lx (kn : Int) w10 hC10.mx (by have := bx.len; omega) (fun r hr => (bx.bnd r hr).2) (by omega)
         go_wp2_with fail
         refine hc.mono ?_
         clear hc
         rintro e w11 ⟨l11, rfl, M11, F11, G11⟩
         have hC11 := hC10.onX D M11 F11
         clear M11 F11 G11 hC10
         go_wp2_with fail
         obtain ⟨v, Nv, V⟩ := hC11.rp
         have c0 := Nv.cell 0
         have hlG : ∀ g, Gp = some g → g < N := fun g hg => by have := D.gp g hg; omega
         have hNW : N < w11.heap.size := hC11.rp.lt
         refine wp_region_held_drew (S := fun X => X.cell? ⟨N, 0, none⟩ = some v) (by kernel_rfl) (show _ = _ from c0) (fun hHeld => ?_)
         refine wpAnyH_take (i := 0) (oi := ⟨_, _, _, _, _, _⟩) (v := ?_) rfl (by kernel_rfl) (by kernel_rfl) (by kernel_rfl) (fun _ _ _ h => h) (Or.inl ⟨by rfl, ?_⟩) hHeld ?_
         rotate_left
         ·intro w hSw
          try dsimp only at hSw
          go_simp
          all_goals (first | with_reducible rfl | rw [if_pos (by omega)])
         try simp only [Act.put, aS]
         refine wpAnyH_take (i := 1) (oi := ⟨_, _, _, _, _, _⟩) (v := ?_) rfl (by kernel_rfl) (by kernel_rfl) (by kernel_rfl) (fun _ _ _ h => h) (Or.inl ⟨by rfl, ?_⟩) hHeld ?_
         rotate_left
         ·intro w hSw
          try dsimp only at hSw
          go_simp
          all_goals (first | with_reducible rfl | rw [if_pos (by omega)])
         try simp only [Act.put, aS]
         refine wpAnyH_take (i := 2) (oi := ⟨_, _, _, _, _, _⟩) (v := ?_) rfl (by kernel_rfl) (by kernel_rfl) (by kernel_rfl) (fun _ _ _ h => h) (Or.inl ⟨by rfl, ?_⟩) hHeld ?_
         rotate_left
         ·intro w hSw
          try dsimp only at hSw
          go_simp
          all_goals (first | with_reducible rfl | rw [if_pos (by omega)])
         try simp only [Act.put, aS]
         have hCd := hC11.ext' ((Ext.refl w11).drew)
         obtain ⟨Wd, hWd⟩ : ∃ X, w11.drew = X := ⟨_, rfl⟩
         rw [hWd] at hHeld hCd
         rw [hWd]
         have hNd : w11.heap.size = Wd.heap.size := by rw [← hWd]; rfl
         have Vd : RowV Wd Gp (([] : List Pc)) v := by rw [← hWd]; exact V.fr (Fr.of_ext ((Ext.refl w11).drew) (fun _ => False)) (by simp)
         have Nd : NBox Wd (N) 74 #[v] := by rw [← hWd]; exact Nv.ext ((Ext.refl w11).drew)
         clear hWd hC11 V Nv c0
         refine wpAnyH_ready (rs := [3]) (by kernel_rfl) (by simp) ?_
         refine AllReadyH.cons (o := ⟨_, _, _, _, _, _⟩) rfl (fun K' hK => ?_) (AllReadyH.nil)
         go_simp
         have hl := left_any Gp (([] : List Pc)) v Wd Vd (fun g hg => by have := hlG g hg; omega)
         rw [HSP.out, HPN.out] at hl
         go_at_call 61
         refine hl.mono ?_
         clear hl
         rintro e Wl ⟨rfl, hEl⟩
         have Vl := Vd.fr (Fr.of_ext hEl (fun _ => False)) (by simp)
         have Nl := Nd.ext hEl
         replace hCd := hCd.ext' hEl
         refine hK.out _ _ (show _ = _ from Nl.cell 0) (fun hHeld => ?_)
         clear hK K' Vd Nd hNd
         try simp only [Act.put, aS]
         refine wpAnyH_ready (rs := [4]) (by kernel_rfl) (by simp) ?_
         refine AllReadyH.cons (o := ⟨_, _, _, _, _, _⟩) rfl (fun K' hK => ?_) (AllReadyH.nil)
         go_simp
         refine hK.out _ _ hHeld (fun hHeld => ?_)
         clear hK K'
         try simp only [Act.put, aS]
         refine wpAnyH_ready (rs := [5]) (by kernel_rfl) (by simp) ?_
         refine AllReadyH.cons (o := ⟨_, _, _, _, _, _⟩) rfl (fun K' hK => ?_) (AllReadyH.nil)
         go_simp
         have ht := take_any 1000000000000 (by decide) Gp (([] : List Pc)) v (0) Wl Vl (RP) (by omega) (by omega)
         go_at_call 60
         refine ht.mono ?_
         clear ht
         rintro e w12 ⟨rfl, Vt, Ft⟩
         have Nt := Nl.fr Ft (fun e => by have := hlG _ e; omega)
         have hC12 := hCd.ofP D ⟨v, Nt, Vt⟩ (Ft.mono (fun k hk => .inr hk))
         refine hK.out _ _ (show _ = _ from Nt.cell 0) (fun hHeld => ?_)
         clear hK K' hCd Vl Nl Ft
         try simp only [Act.put, aS]
         refine wpAnyH_done (by kernel_rfl) ?_ _
         clear hHeld hlG hNW Nt Vt
         go_wp2_with fail
         obtain ⟨v, Nv, V⟩ := hC12.rq
         have c0 := Nv.cell 0
         have hlG : ∀ g, Gq = some g → g < N := fun g hg => by have := D.gq g hg; omega
         have hNW : N < w12.heap.size := hC12.rp.lt
         refine wp_region_held_drew (S := fun X => X.cell? ⟨N + 1, 0, none⟩ = some v) (by kernel_rfl) (show _ = _ from c0) (fun hHeld => ?_)
         refine wpAnyH_take (i := 0) (oi := ⟨_, _, _, _, _, _⟩) (v := ?_) rfl (by kernel_rfl) (by kernel_rfl) (by kernel_rfl) (fun _ _ _ h => h) (Or.inl ⟨by rfl, ?_⟩) hHeld ?_
         rotate_left
         ·intro w hSw
          try dsimp only at hSw
          go_simp
          all_goals (first | with_reducible rfl | rw [if_pos (by omega)])
         try simp only [Act.put, aS]
         refine wpAnyH_take (i := 1) (oi := ⟨_, _, _, _, _, _⟩) (v := ?_) rfl (by kernel_rfl) (by kernel_rfl) (by kernel_rfl) (fun _ _ _ h => h) (Or.inl ⟨by rfl, ?_⟩) hHeld ?_
         rotate_left
         ·intro w hSw
          try dsimp only at hSw
          go_simp
          all_goals (first | with_reducible rfl | rw [if_pos (by omega)])
         try simp only [Act.put, aS]
         refine wpAnyH_take (i := 2) (oi := ⟨_, _, _, _, _, _⟩) (v := ?_) rfl (by kernel_rfl) (by kernel_rfl) (by kernel_rfl) (fun _ _ _ h => h) (Or.inl ⟨by rfl, ?_⟩) hHeld ?_
         rotate_left
         ·intro w hSw
          try dsimp only at hSw
          go_simp
          all_goals (first | with_reducible rfl | rw [if_pos (by omega)])
         try simp only [Act.put, aS]
         have hCd := hC12.ext' ((Ext.refl w12).drew)
         obtain ⟨Wd, hWd⟩ : ∃ X, w12.drew = X := ⟨_, rfl⟩
         rw [hWd] at hHeld hCd
         rw [hWd]
         have hNd : w12.heap.size = Wd.heap.size := by rw [← hWd]; rfl
         have Vd : RowV Wd Gq ((c :: r)) v := by rw [← hWd]; exact V.fr (Fr.of_ext ((Ext.refl w12).drew) (fun _ => False)) (by simp)
         have Nd : NBox Wd (N + 1) 74 #[v] := by rw [← hWd]; exact Nv.ext ((Ext.refl w12).drew)
         clear hWd hC12 V Nv c0
         refine wpAnyH_ready (rs := [3]) (by kernel_rfl) (by simp) ?_
         refine AllReadyH.cons (o := ⟨_, _, _, _, _, _⟩) rfl (fun K' hK => ?_) (AllReadyH.nil)
         go_simp
         have hl := left_any Gq ((c :: r)) v Wd Vd (fun g hg => by have := hlG g hg; omega)
         rw [HSK.out, HRN.out] at hl
         go_at_call 61
         refine hl.mono ?_
         clear hl
         rintro e Wl ⟨rfl, hEl⟩
         have Vl := Vd.fr (Fr.of_ext hEl (fun _ => False)) (by simp)
         have Nl := Nd.ext hEl
         replace hCd := hCd.ext' hEl
         refine hK.out _ _ (show _ = _ from Nl.cell 0) (fun hHeld => ?_)
         clear hK K' Vd Nd hNd
         try simp only [Act.put, aS]
         refine wpAnyH_ready (rs := [4]) (by kernel_rfl) (by simp) ?_
         refine AllReadyH.cons (o := ⟨_, _, _, _, _, _⟩) rfl (fun K' hK => ?_) (AllReadyH.nil)
         go_simp
         refine hK.out _ _ hHeld (fun hHeld => ?_)
         clear hK K'
         try simp only [Act.put, aS]
         refine wpAnyH_ready (rs := [5]) (by kernel_rfl) (by simp) ?_
         refine AllReadyH.cons (o := ⟨_, _, _, _, _, _⟩) rfl (fun K' hK => ?_) (AllReadyH.nil)
         go_simp
         have ht := take_any 1000000000000 (by decide) Gq ((c :: r)) v ((kn : Int)) Wl Vl (RQ) (by omega) (by omega)
         go_at_call 60
         refine ht.mono ?_
         clear ht
         rintro e w13 ⟨rfl, Vt, Ft⟩
         have Nt := Nl.fr Ft (fun e => by have := hlG _ e; omega)
         have hC13 := hCd.ofQ D ⟨v, Nt, Vt⟩ (Ft.mono (fun k hk => .inr hk))
         refine hK.out _ _ (show _ = _ from Nt.cell 0) (fun hHeld => ?_)
         clear hK K' hCd Vl Nl Ft
         try simp only [Act.put, aS]
         refine wpAnyH_done (by kernel_rfl) ?_ _
         clear hHeld hlG hNW Nt Vt
         go_wp2_with fail
         go_roundw
         case rel => exact ⟨_, _, _, _, _, rfl, hC13, g1, g3⟩
         case measure =>
          rw [hM.out, psiBox_eq hC13.rp, psiBox_eq hC13.rq]
          exact g2
        | false =>
         have HGD := Lib.hid hgd
         obtain ⟨g1, g2, g3⟩ := HS _ (step_go hQ HFE.out hfr HQQ.out HPP.out HPD.out rfl HBN.out)
         clear HS HN0
         rw [HM1.out, HM2.out, HGD.out] at g1 g2 g3
         have hC11 := hC10.moreX D (kn : Int)
         have ca := hC10.mx.1.cell 1
         have fa := hC10.mx.1.frozen 1
         have k1 := bx.k0
         have k2 := bx.k1
         go_wp2_with fail
         obtain ⟨w11, hw11⟩ : ∃ W, w10.setCell ⟨N + 2, 1, none⟩ (.int .i64 (x.keep + (kn : Int))) = W := ⟨_, rfl⟩
         rw [hw11] at hC11
         rw [hw11]
         clear hw11 ca fa k1 k2 hC10
         obtain ⟨v, Nv, V⟩ := hC11.rp
         have c0 := Nv.cell 0
         have hlG : ∀ g, Gp = some g → g < N := fun g hg => by have := D.gp g hg; omega
         have hNW : N < w11.heap.size := hC11.rp.lt
         refine wp_region_held_drew (S := fun X => X.cell? ⟨N, 0, none⟩ = some v) (by kernel_rfl) (show _ = _ from c0) (fun hHeld => ?_)
         refine wpAnyH_take (i := 0) (oi := ⟨_, _, _, _, _, _⟩) (v := ?_) rfl (by kernel_rfl) (by kernel_rfl) (by kernel_rfl) (fun _ _ _ h => h) (Or.inl ⟨by rfl, ?_⟩) hHeld ?_
         rotate_left
         ·intro w hSw
          try dsimp only at hSw
          go_simp
          all_goals (first | with_reducible rfl | rw [if_pos (by omega)])
         try simp only [Act.put, aS]
         refine wpAnyH_take (i := 1) (oi := ⟨_, _, _, _, _, _⟩) (v := ?_) rfl (by kernel_rfl) (by kernel_rfl) (by kernel_rfl) (fun _ _ _ h => h) (Or.inl ⟨by rfl, ?_⟩) hHeld ?_
         rotate_left
         ·intro w hSw
          try dsimp only at hSw
          go_simp
          all_goals (first | with_reducible rfl | rw [if_pos (by omega)])
         try simp only [Act.put, aS]
         refine wpAnyH_take (i := 2) (oi := ⟨_, _, _, _, _, _⟩) (v := ?_) rfl (by kernel_rfl) (by kernel_rfl) (by kernel_rfl) (fun _ _ _ h => h) (Or.inl ⟨by rfl, ?_⟩) hHeld ?_
         rotate_left
         ·intro w hSw
          try dsimp only at hSw
          go_simp
          all_goals (first | with_reducible rfl | rw [if_pos (by omega)])
         try simp only [Act.put, aS]
         have hCd := hC11.ext' ((Ext.refl w11).drew)
         obtain ⟨Wd, hWd⟩ : ∃ X, w11.drew = X := ⟨_, rfl⟩
         rw [hWd] at hHeld hCd
         rw [hWd]
         have hNd : w11.heap.size = Wd.heap.size := by rw [← hWd]; rfl
         have Vd : RowV Wd Gp (([] : List Pc)) v := by rw [← hWd]; exact V.fr (Fr.of_ext ((Ext.refl w11).drew) (fun _ => False)) (by simp)
         have Nd : NBox Wd (N) 74 #[v] := by rw [← hWd]; exact Nv.ext ((Ext.refl w11).drew)
         clear hWd hC11 V Nv c0
         refine wpAnyH_ready (rs := [3]) (by kernel_rfl) (by simp) ?_
         refine AllReadyH.cons (o := ⟨_, _, _, _, _, _⟩) rfl (fun K' hK => ?_) (AllReadyH.nil)
         go_simp
         have hl := left_any Gp (([] : List Pc)) v Wd Vd (fun g hg => by have := hlG g hg; omega)
         rw [HSP.out, HPN.out] at hl
         go_at_call 61
         refine hl.mono ?_
         clear hl
         rintro e Wl ⟨rfl, hEl⟩
         have Vl := Vd.fr (Fr.of_ext hEl (fun _ => False)) (by simp)
         have Nl := Nd.ext hEl
         replace hCd := hCd.ext' hEl
         refine hK.out _ _ (show _ = _ from Nl.cell 0) (fun hHeld => ?_)
         clear hK K' Vd Nd hNd
         try simp only [Act.put, aS]
         refine wpAnyH_ready (rs := [4]) (by kernel_rfl) (by simp) ?_
         refine AllReadyH.cons (o := ⟨_, _, _, _, _, _⟩) rfl (fun K' hK => ?_) (AllReadyH.nil)
         go_simp
         refine hK.out _ _ hHeld (fun hHeld => ?_)
         clear hK K'
         try simp only [Act.put, aS]
         refine wpAnyH_ready (rs := [5]) (by kernel_rfl) (by simp) ?_
         refine AllReadyH.cons (o := ⟨_, _, _, _, _, _⟩) rfl (fun K' hK => ?_) (AllReadyH.nil)
         go_simp
         have ht := take_any 1000000000000 (by decide) Gp (([] : List Pc)) v (0) Wl Vl (RP) (by omega) (by omega)
         go_at_call 60
         refine ht.mono ?_
         clear ht
         rintro e w12 ⟨rfl, Vt, Ft⟩
         have Nt := Nl.fr Ft (fun e => by have := hlG _ e; omega)
         have hC12 := hCd.ofP D ⟨v, Nt, Vt⟩ (Ft.mono (fun k hk => .inr hk))
         refine hK.out _ _ (show _ = _ from Nt.cell 0) (fun hHeld => ?_)
         clear hK K' hCd Vl Nl Ft
         try simp only [Act.put, aS]
         refine wpAnyH_done (by kernel_rfl) ?_ _
         clear hHeld hlG hNW Nt Vt
         go_wp2_with fail
         obtain ⟨v, Nv, V⟩ := hC12.rq
         have c0 := Nv.cell 0
         have hlG : ∀ g, Gq = some g → g < N := fun g hg => by have := D.gq g hg; omega
         have hNW : N < w12.heap.size := hC12.rp.lt
         refine wp_region_held_drew (S := fun X => X.cell? ⟨N + 1, 0, none⟩ = some v) (by kernel_rfl) (show _ = _ from c0) (fun hHeld => ?_)
         refine wpAnyH_take (i := 0) (oi := ⟨_, _, _, _, _, _⟩) (v := ?_) rfl (by kernel_rfl) (by kernel_rfl) (by kernel_rfl) (fun _ _ _ h => h) (Or.inl ⟨by rfl, ?_⟩) hHeld ?_
         rotate_left
         ·intro w hSw
          try dsimp only at hSw
          go_simp
          all_goals (first | with_reducible rfl | rw [if_pos (by omega)])
         try simp only [Act.put, aS]
         refine wpAnyH_take (i := 1) (oi := ⟨_, _, _, _, _, _⟩) (v := ?_) rfl (by kernel_rfl) (by kernel_rfl) (by kernel_rfl) (fun _ _ _ h => h) (Or.inl ⟨by rfl, ?_⟩) hHeld ?_
         rotate_left
         ·intro w hSw
          try dsimp only at hSw
          go_simp
          all_goals (first | with_reducible rfl | rw [if_pos (by omega)])
         try simp only [Act.put, aS]
         refine wpAnyH_take (i := 2) (oi := ⟨_, _, _, _, _, _⟩) (v := ?_) rfl (by kernel_rfl) (by kernel_rfl) (by kernel_rfl) (fun _ _ _ h => h) (Or.inl ⟨by rfl, ?_⟩) hHeld ?_
         rotate_left
         ·intro w hSw
          try dsimp only at hSw
          go_simp
          all_goals (first | with_reducible rfl | rw [if_pos (by omega)])
         try simp only [Act.put, aS]
         have hCd := hC12.ext' ((Ext.refl w12).drew)
         obtain ⟨Wd, hWd⟩ : ∃ X, w12.drew = X := ⟨_, rfl⟩
         rw [hWd] at hHeld hCd
         rw [hWd]
         have hNd : w12.heap.size = Wd.heap.size := by rw [← hWd]; rfl
         have Vd : RowV Wd Gq ((c :: r)) v := by rw [← hWd]; exact V.fr (Fr.of_ext ((Ext.refl w12).drew) (fun _ => False)) (by simp)
         have Nd : NBox Wd (N + 1) 74 #[v] := by rw [← hWd]; exact Nv.ext ((Ext.refl w12).drew)
         clear hWd hC12 V Nv c0
         refine wpAnyH_ready (rs := [3]) (by kernel_rfl) (by simp) ?_
         refine AllReadyH.cons (o := ⟨_, _, _, _, _, _⟩) rfl (fun K' hK => ?_) (AllReadyH.nil)
         go_simp
         have hl := left_any Gq ((c :: r)) v Wd Vd (fun g hg => by have := hlG g hg; omega)
         rw [HSK.out, HRN.out] at hl
         go_at_call 61
         refine hl.mono ?_
         clear hl
         rintro e Wl ⟨rfl, hEl⟩
         have Vl := Vd.fr (Fr.of_ext hEl (fun _ => False)) (by simp)
         have Nl := Nd.ext hEl
         replace hCd := hCd.ext' hEl
         refine hK.out _ _ (show _ = _ from Nl.cell 0) (fun hHeld => ?_)
         clear hK K' Vd Nd hNd
         try simp only [Act.put, aS]
         refine wpAnyH_ready (rs := [4]) (by kernel_rfl) (by simp) ?_
         refine AllReadyH.cons (o := ⟨_, _, _, _, _, _⟩) rfl (fun K' hK => ?_) (AllReadyH.nil)
         go_simp
         refine hK.out _ _ hHeld (fun hHeld => ?_)
         clear hK K'
         try simp only [Act.put, aS]
         refine wpAnyH_ready (rs := [5]) (by kernel_rfl) (by simp) ?_
         refine AllReadyH.cons (o := ⟨_, _, _, _, _, _⟩) rfl (fun K' hK => ?_) (AllReadyH.nil)
         go_simp
         have ht := take_any 1000000000000 (by decide) Gq ((c :: r)) v ((kn : Int)) Wl Vl (RQ) (by omega) (by omega)
         go_at_call 60
         refine ht.mono ?_
         clear ht
         rintro e w13 ⟨rfl, Vt, Ft⟩
         have Nt := Nl.fr Ft (fun e => by have := hlG _ e; omega)
         have hC13 := hCd.ofQ D ⟨v, Nt, Vt⟩ (Ft.mono (fun k hk => .inr hk))
         refine hK.out _ _ (show _ = _ from Nt.cell 0) (fun hHeld => ?_)
         clear hK K' hCd Vl Nl Ft
         try simp only [Act.put, aS]
         refine wpAnyH_done (by kernel_rfl) ?_ _
         clear hHeld hlG hNW Nt Vt
         go_wp2_with fail
         go_roundw
         case rel => exact ⟨_, _, _, _, _, rfl, hC13, g1, g3⟩
         case measure =>
          rw [hM.out, psiBox_eq hC13.rp, psiBox_eq hC13.rq]
          exact g2
      | cons d s =>
       have pp := pp' (by simp)
       cases Q with
       | nil =>
        have HGD : Hid (rD ([] : List Pc) = false) := Lib.hid rfl
        have HBN : Hid (bN (d :: s) [] = (pn : Int)) := Lib.hid HPN.out
        have HM1 : Hid (min (pn : Int) (rN (d :: s)) = (pn : Int)) := Lib.hid (by rw [HPN.out]; omega)
        have HM2 : Hid (min (pn : Int) (rN []) = 0) := Lib.hid (by show min _ 0 = _; omega)
        have HRN : Hid (rN ([] : List Pc) = ((0 : Nat) : Int)) := Lib.hid rfl
        have j1 : 0 < pn := pp
        have j2 : (0 : Int) < (pn : Int) := by omega
        have g9 : rD ([] : List Pc) = false := rfl
        have g7 : decide (0 < ([] : List Pc).length) = false := rfl
        have g6 : decide (0 < (d :: s : List Pc).length) = true := decide_eq_true (by simp)
        obtain ⟨g1, g2, g3⟩ := HS _ (step_go hQ HFE.out hfr HQQ.out HPP.out HPD.out rfl HBN.out)
        clear HS HN0
        rw [HM1.out, HM2.out, HGD.out] at g1 g2 g3
        have hC11 := hC10.moreX D (pn : Int)
        have ca := hC10.mx.1.cell 1
        have fa := hC10.mx.1.frozen 1
        have k1 := bx.k0
        have k2 := bx.k1
        go_wp2_with fail
        obtain ⟨w11, hw11⟩ : ∃ W, w10.setCell ⟨N + 2, 1, none⟩ (.int .i64 (x.keep + (pn : Int))) = W := ⟨_, rfl⟩
        rw [hw11] at hC11
        rw [hw11]
        clear hw11 ca fa k1 k2 hC10
        obtain ⟨v, Nv, V⟩ := hC11.rp
        have c0 := Nv.cell 0
        have hlG : ∀ g, Gp = some g → g < N := fun g hg => by have := D.gp g hg; omega
        have hNW : N < w11.heap.size := hC11.rp.lt
        refine wp_region_held_drew (S := fun X => X.cell? ⟨N, 0, none⟩ = some v) (by kernel_rfl) (show _ = _ from c0) (fun hHeld => ?_)
        refine wpAnyH_take (i := 0) (oi := ⟨_, _, _, _, _, _⟩) (v := ?_) rfl (by kernel_rfl) (by kernel_rfl) (by kernel_rfl) (fun _ _ _ h => h) (Or.inl ⟨by rfl, ?_⟩) hHeld ?_
        rotate_left
        ·intro w hSw
         try dsimp only at hSw
         go_simp
         all_goals (first | with_reducible rfl | rw [if_pos (by omega)])
        try simp only [Act.put, aS]
        refine wpAnyH_take (i := 1) (oi := ⟨_, _, _, _, _, _⟩) (v := ?_) rfl (by kernel_rfl) (by kernel_rfl) (by kernel_rfl) (fun _ _ _ h => h) (Or.inl ⟨by rfl, ?_⟩) hHeld ?_
        rotate_left
        ·intro w hSw
         try dsimp only at hSw
         go_simp
         all_goals (first | with_reducible rfl | rw [if_pos (by omega)])
        try simp only [Act.put, aS]
        refine wpAnyH_take (i := 2) (oi := ⟨_, _, _, _, _, _⟩) (v := ?_) rfl (by kernel_rfl) (by kernel_rfl) (by kernel_rfl) (fun _ _ _ h => h) (Or.inl ⟨by rfl, ?_⟩) hHeld ?_
        rotate_left
        ·intro w hSw
         try dsimp only at hSw
         go_simp
         all_goals (first | with_reducible rfl | rw [if_pos (by omega)])
        try simp only [Act.put, aS]
        have hCd := hC11.ext' ((Ext.refl w11).drew)
        obtain ⟨Wd, hWd⟩ : ∃ X, w11.drew = X := ⟨_, rfl⟩
        rw [hWd] at hHeld hCd
        rw [hWd]
        have hNd : w11.heap.size = Wd.heap.size := by rw [← hWd]; rfl
        have Vd : RowV Wd Gp ((d :: s)) v := by rw [← hWd]; exact V.fr (Fr.of_ext ((Ext.refl w11).drew) (fun _ => False)) (by simp)
        have Nd : NBox Wd (N) 74 #[v] := by rw [← hWd]; exact Nv.ext ((Ext.refl w11).drew)
        clear hWd hC11 V Nv c0
        refine wpAnyH_ready (rs := [3]) (by kernel_rfl) (by simp) ?_
        refine AllReadyH.cons (o := ⟨_, _, _, _, _, _⟩) rfl (fun K' hK => ?_) (AllReadyH.nil)
        go_simp
        have hl := left_any Gp ((d :: s)) v Wd Vd (fun g hg => by have := hlG g hg; omega)
        rw [HSP.out, HPN.out] at hl
        go_at_call 61
        refine hl.mono ?_
        clear hl
        rintro e Wl ⟨rfl, hEl⟩
        have Vl := Vd.fr (Fr.of_ext hEl (fun _ => False)) (by simp)
        have Nl := Nd.ext hEl
        replace hCd := hCd.ext' hEl
        refine hK.out _ _ (show _ = _ from Nl.cell 0) (fun hHeld => ?_)
        clear hK K' Vd Nd hNd
        try simp only [Act.put, aS]
        refine wpAnyH_ready (rs := [4]) (by kernel_rfl) (by simp) ?_
        refine AllReadyH.cons (o := ⟨_, _, _, _, _, _⟩) rfl (fun K' hK => ?_) (AllReadyH.nil)
        go_simp
        refine hK.out _ _ hHeld (fun hHeld => ?_)
        clear hK K'
        try simp only [Act.put, aS]
        refine wpAnyH_ready (rs := [5]) (by kernel_rfl) (by simp) ?_
        refine AllReadyH.cons (o := ⟨_, _, _, _, _, _⟩) rfl (fun K' hK => ?_) (AllReadyH.nil)
        go_simp
        have ht := take_any 1000000000000 (by decide) Gp ((d :: s)) v ((pn : Int)) Wl Vl (RP) (by omega) (by omega)
        go_at_call 60
        refine ht.mono ?_
        clear ht
        rintro e w12 ⟨rfl, Vt, Ft⟩
        have Nt := Nl.fr Ft (fun e => by have := hlG _ e; omega)
        have hC12 := hCd.ofP D ⟨v, Nt, Vt⟩ (Ft.mono (fun k hk => .inr hk))
        refine hK.out _ _ (show _ = _ from Nt.cell 0) (fun hHeld => ?_)
        clear hK K' hCd Vl Nl Ft
        try simp only [Act.put, aS]
        refine wpAnyH_done (by kernel_rfl) ?_ _
        clear hHeld hlG hNW Nt Vt
        go_wp2_with fail
        obtain ⟨v, Nv, V⟩ := hC12.rq
        have c0 := Nv.cell 0
        have hlG : ∀ g, Gq = some g → g < N := fun g hg => by have := D.gq g hg; omega
        have hNW : N < w12.heap.size := hC12.rp.lt
        refine wp_region_held_drew (S := fun X => X.cell? ⟨N + 1, 0, none⟩ = some v) (by kernel_rfl) (show _ = _ from c0) (fun hHeld => ?_)
        refine wpAnyH_take (i := 0) (oi := ⟨_, _, _, _, _, _⟩) (v := ?_) rfl (by kernel_rfl) (by kernel_rfl) (by kernel_rfl) (fun _ _ _ h => h) (Or.inl ⟨by rfl, ?_⟩) hHeld ?_
        rotate_left
        ·intro w hSw
         try dsimp only at hSw
         go_simp
         all_goals (first | with_reducible rfl | rw [if_pos (by omega)])
        try simp only [Act.put, aS]
        refine wpAnyH_take (i := 1) (oi := ⟨_, _, _, _, _, _⟩) (v := ?_) rfl (by kernel_rfl) (by kernel_rfl) (by kernel_rfl) (fun _ _ _ h => h) (Or.inl ⟨by rfl, ?_⟩) hHeld ?_
        rotate_left
        ·intro w hSw
         try dsimp only at hSw
         go_simp
         all_goals (first | with_reducible rfl | rw [if_pos (by omega)])
        try simp only [Act.put, aS]
        refine wpAnyH_take (i := 2) (oi := ⟨_, _, _, _, _, _⟩) (v := ?_) rfl (by kernel_rfl) (by kernel_rfl) (by kernel_rfl) (fun _ _ _ h => h) (Or.inl ⟨by rfl, ?_⟩) hHeld ?_
        rotate_left
        ·intro w hSw
         try dsimp only at hSw
         go_simp
         all_goals (first | with_reducible rfl | rw [if_pos (by omega)])
        try simp only [Act.put, aS]
        have hCd := hC12.ext' ((Ext.refl w12).drew)
        obtain ⟨Wd, hWd⟩ : ∃ X, w12.drew = X := ⟨_, rfl⟩
        rw [hWd] at hHeld hCd
        rw [hWd]
        have hNd : w12.heap.size = Wd.heap.size := by rw [← hWd]; rfl
        have Vd : RowV Wd Gq (([] : List Pc)) v := by rw [← hWd]; exact V.fr (Fr.of_ext ((Ext.refl w12).drew) (fun _ => False)) (by simp)
        have Nd : NBox Wd (N + 1) 74 #[v] := by rw [← hWd]; exact Nv.ext ((Ext.refl w12).drew)
        clear hWd hC12 V Nv c0
        refine wpAnyH_ready (rs := [3]) (by kernel_rfl) (by simp) ?_
        refine AllReadyH.cons (o := ⟨_, _, _, _, _, _⟩) rfl (fun K' hK => ?_) (AllReadyH.nil)
        go_simp
        have hl := left_any Gq (([] : List Pc)) v Wd Vd (fun g hg => by have := hlG g hg; omega)
        rw [HSK.out, HRN.out] at hl
        go_at_call 61
        refine hl.mono ?_
        clear hl
        rintro e Wl ⟨rfl, hEl⟩
        have Vl := Vd.fr (Fr.of_ext hEl (fun _ => False)) (by simp)
        have Nl := Nd.ext hEl
        replace hCd := hCd.ext' hEl
        refine hK.out _ _ (show _ = _ from Nl.cell 0) (fun hHeld => ?_)
        clear hK K' Vd Nd hNd
        try simp only [Act.put, aS]
        refine wpAnyH_ready (rs := [4]) (by kernel_rfl) (by simp) ?_
        refine AllReadyH.cons (o := ⟨_, _, _, _, _, _⟩) rfl (fun K' hK => ?_) (AllReadyH.nil)
        go_simp
        refine hK.out _ _ hHeld (fun hHeld => ?_)
        clear hK K'
        try simp only [Act.put, aS]
        refine wpAnyH_ready (rs := [5]) (by kernel_rfl) (by simp) ?_
        refine AllReadyH.cons (o := ⟨_, _, _, _, _, _⟩) rfl (fun K' hK => ?_) (AllReadyH.nil)
        go_simp
        have ht := take_any 1000000000000 (by decide) Gq (([] : List Pc)) v (0) Wl Vl (RQ) (by omega) (by omega)
        go_at_call 60
        refine ht.mono ?_
        clear ht
        rintro e w13 ⟨rfl, Vt, Ft⟩
        have Nt := Nl.fr Ft (fun e => by have := hlG _ e; omega)
        have hC13 := hCd.ofQ D ⟨v, Nt, Vt⟩ (Ft.mono (fun k hk => .inr hk))
        refine hK.out _ _ (show _ = _ from Nt.cell 0) (fun hHeld => ?_)
        clear hK K' hCd Vl Nl Ft
        try simp only [Act.put, aS]
        refine wpAnyH_done (by kernel_rfl) ?_ _
        clear hHeld hlG hNW Nt Vt
        go_wp2_with fail
        go_roundw
        case rel => exact ⟨_, _, _, _, _, rfl, hC13, g1, g3⟩
        case measure =>
         rw [hM.out, psiBox_eq hC13.rp, psiBox_eq hC13.rq]
         exact g2
       | cons c r =>
        have kp := kp' (by simp)
        have g7 : decide (0 < (c :: r : List Pc).length) = true := decide_eq_true (by simp)
        have g6 : decide (0 < (d :: s : List Pc).length) = true := decide_eq_true (by simp)
        rcases Nat.lt_or_ge pn kn with hkp | hkp
        ·have HBN : Hid (bN (d :: s) (c :: r) = (pn : Int)) := Lib.hid (by rw [bN_cons, HPN.out, HRN.out]; omega)
         have HM1 : Hid (min (pn : Int) (rN (d :: s)) = (pn : Int)) := Lib.hid (by rw [HPN.out]; omega)
         have HM2 : Hid (min (pn : Int) (rN (c :: r)) = (pn : Int)) := Lib.hid (by rw [HRN.out]; omega)
         have j1 : ¬ (kn ≤ pn) := by omega
         have j2 : ¬ ((kn : Int) ≤ (pn : Int)) := by omega
         have j3 : ¬ (kn < pn) := by omega
         have j4 : ¬ ((kn : Int) < (pn : Int)) := by omega
         cases hgd : rD (c :: r) with
         | true =>
          have HGD := Lib.hid hgd
          obtain ⟨g1, g2, g3⟩ := HS _ (step_go hQ HFE.out hfr HQQ.out HPP.out HPD.out rfl HBN.out)
          clear HS HN0
          rw [HM1.out, HM2.out, HGD.out] at g1 g2 g3
          have hc := drop_any x (N + 2) (N + 3) lx (pn : Int) w10 hC10.mx (by have := bx.len; omega) (fun r hr => (bx.bnd r hr).2) (by omega)
          go_wp2_with fail
          refine hc.mono ?_
          clear hc
          rintro e w11 ⟨l11, rfl, M11, F11, G11⟩
          have hC11 := hC10.onX D M11 F11
          clear M11 F11 G11 hC10
          go_wp2_with fail
          obtain ⟨v, Nv, V⟩ := hC11.rp
          have c0 := Nv.cell 0
          have hlG : ∀ g, Gp = some g → g < N := fun g hg => by have := D.gp g hg; omega
          have hNW : N < w11.heap.size := hC11.rp.lt
          refine wp_region_held_drew (S := fun X => X.cell? ⟨N, 0, none⟩ = some v) (by kernel_rfl) (show _ = _ from c0) (fun hHeld => ?_)
          refine wpAnyH_take (i := 0) (oi := ⟨_, _, _, _, _, _⟩) (v := ?_) rfl (by kernel_rfl) (by kernel_rfl) (by kernel_rfl) (fun _ _ _ h => h) (Or.inl ⟨by rfl, ?_⟩) hHeld ?_
          rotate_left
          ·intro w hSw
           try dsimp only at hSw
           go_simp
           all_goals (first | with_reducible rfl | rw [if_pos (by omega)])
          try simp only [Act.put, aS]
          refine wpAnyH_take (i := 1) (oi := ⟨_, _, _, _, _, _⟩) (v := ?_) rfl (by kernel_rfl) (by kernel_rfl) (by kernel_rfl) (fun _ _ _ h => h) (Or.inl ⟨by rfl, ?_⟩) hHeld ?_
          rotate_left
          ·intro w hSw
           try dsimp only at hSw
           go_simp
           all_goals (first | with_reducible rfl | rw [if_pos (by omega)])
          try simp only [Act.put, aS]
          refine wpAnyH_take (i := 2) (oi := ⟨_, _, _, _, _, _⟩) (v := ?_) rfl (by kernel_rfl) (by kernel_rfl) (by kernel_rfl) (fun _ _ _ h => h) (Or.inl ⟨by rfl, ?_⟩) hHeld ?_
          rotate_left
          ·intro w hSw
           try dsimp only at hSw
           go_simp
           all_goals (first | with_reducible rfl | rw [if_pos (by omega)])
          try simp only [Act.put, aS]
          have hCd := hC11.ext' ((Ext.refl w11).drew)
          obtain ⟨Wd, hWd⟩ : ∃ X, w11.drew = X := ⟨_, rfl⟩
          rw [hWd] at hHeld hCd
          rw [hWd]
          have hNd : w11.heap.size = Wd.heap.size := by rw [← hWd]; rfl
          have Vd : RowV Wd Gp ((d :: s)) v := by rw [← hWd]; exact V.fr (Fr.of_ext ((Ext.refl w11).drew) (fun _ => False)) (by simp)
          have Nd : NBox Wd (N) 74 #[v] := by rw [← hWd]; exact Nv.ext ((Ext.refl w11).drew)
          clear hWd hC11 V Nv c0
          refine wpAnyH_ready (rs := [3]) (by kernel_rfl) (by simp) ?_
          refine AllReadyH.cons (o := ⟨_, _, _, _, _, _⟩) rfl (fun K' hK => ?_) (AllReadyH.nil)
          go_simp
          have hl := left_any Gp ((d :: s)) v Wd Vd (fun g hg => by have := hlG g hg; omega)
          rw [HSP.out, HPN.out] at hl
          go_at_call 61
          refine hl.mono ?_
          clear hl
          rintro e Wl ⟨rfl, hEl⟩
          have Vl := Vd.fr (Fr.of_ext hEl (fun _ => False)) (by simp)
          have Nl := Nd.ext hEl
          replace hCd := hCd.ext' hEl
          refine hK.out _ _ (show _ = _ from Nl.cell 0) (fun hHeld => ?_)
          clear hK K' Vd Nd hNd
          try simp only [Act.put, aS]
          refine wpAnyH_ready (rs := [4]) (by kernel_rfl) (by simp) ?_
          refine AllReadyH.cons (o := ⟨_, _, _, _, _, _⟩) rfl (fun K' hK => ?_) (AllReadyH.nil)
          go_simp
          refine hK.out _ _ hHeld (fun hHeld => ?_)
          clear hK K'
          try simp only [Act.put, aS]
          refine wpAnyH_ready (rs := [5]) (by kernel_rfl) (by simp) ?_
          refine AllReadyH.cons (o := ⟨_, _, _, _, _, _⟩) rfl (fun K' hK => ?_) (AllReadyH.nil)
          go_simp
          have ht := take_any 1000000000000 (by decide) Gp ((d :: s)) v ((pn : Int)) Wl Vl (RP) (by omega) (by omega)
          go_at_call 60
          refine ht.mono ?_
          clear ht
          rintro e w12 ⟨rfl, Vt, Ft⟩
          have Nt := Nl.fr Ft (fun e => by have := hlG _ e; omega)
          have hC12 := hCd.ofP D ⟨v, Nt, Vt⟩ (Ft.mono (fun k hk => .inr hk))
          refine hK.out _ _ (show _ = _ from Nt.cell 0) (fun hHeld => ?_)
          clear hK K' hCd Vl Nl Ft
          try simp only [Act.put, aS]
          refine wpAnyH_done (by kernel_rfl) ?_ _
          clear hHeld hlG hNW Nt Vt
          go_wp2_with fail
          obtain ⟨v, Nv, V⟩ := hC12.rq
          have c0 := Nv.cell 0
          have hlG : ∀ g, Gq = some g → g < N := fun g hg => by have := D.gq g hg; omega
          have hNW : N < w12.heap.size := hC12.rp.lt
          refine wp_region_held_drew (S := fun X => X.cell? ⟨N + 1, 0, none⟩ = some v) (by kernel_rfl) (show _ = _ from c0) (fun hHeld => ?_)
          refine wpAnyH_take (i := 0) (oi := ⟨_, _, _, _, _, _⟩) (v := ?_) rfl (by kernel_rfl) (by kernel_rfl) (by kernel_rfl) (fun _ _ _ h => h) (Or.inl ⟨by rfl, ?_⟩) hHeld ?_
          rotate_left
          ·intro w hSw
           try dsimp only at hSw
           go_simp
           all_goals (first | with_reducible rfl | rw [if_pos (by omega)])
          try simp only [Act.put, aS]
          refine wpAnyH_take (i := 1) (oi := ⟨_, _, _, _, _, _⟩) (v := ?_) rfl (by kernel_rfl) (by kernel_rfl) (by kernel_rfl) (fun _ _ _ h => h) (Or.inl ⟨by rfl, ?_⟩) hHeld ?_
          rotate_left
          ·intro w hSw
           try dsimp only at hSw
           go_simp
           all_goals (first | with_reducible rfl | rw [if_pos (by omega)])
          try simp only [Act.put, aS]
          refine wpAnyH_take (i := 2) (oi := ⟨_, _, _, _, _, _⟩) (v := ?_) rfl (by kernel_rfl) (by kernel_rfl) (by kernel_rfl) (fun _ _ _ h => h) (Or.inl ⟨by rfl, ?_⟩) hHeld ?_
          rotate_left
          ·intro w hSw
           try dsimp only at hSw
           go_simp
           all_goals (first | with_reducible rfl | rw [if_pos (by omega)])
          try simp only [Act.put, aS]
          have hCd := hC12.ext' ((Ext.refl w12).drew)
          obtain ⟨Wd, hWd⟩ : ∃ X, w12.drew = X := ⟨_, rfl⟩
          rw [hWd] at hHeld hCd
          rw [hWd]
          have hNd : w12.heap.size = Wd.heap.size := by rw [← hWd]; rfl
          have Vd : RowV Wd Gq ((c :: r)) v := by rw [← hWd]; exact V.fr (Fr.of_ext ((Ext.refl w12).drew) (fun _ => False)) (by simp)
          have Nd : NBox Wd (N + 1) 74 #[v] := by rw [← hWd]; exact Nv.ext ((Ext.refl w12).drew)
          clear hWd hC12 V Nv c0
          refine wpAnyH_ready (rs := [3]) (by kernel_rfl) (by simp) ?_
          refine AllReadyH.cons (o := ⟨_, _, _, _, _, _⟩) rfl (fun K' hK => ?_) (AllReadyH.nil)
          go_simp
          have hl := left_any Gq ((c :: r)) v Wd Vd (fun g hg => by have := hlG g hg; omega)
          rw [HSK.out, HRN.out] at hl
          go_at_call 61
          refine hl.mono ?_
          clear hl
          rintro e Wl ⟨rfl, hEl⟩
          have Vl := Vd.fr (Fr.of_ext hEl (fun _ => False)) (by simp)
          have Nl := Nd.ext hEl
          replace hCd := hCd.ext' hEl
          refine hK.out _ _ (show _ = _ from Nl.cell 0) (fun hHeld => ?_)
          clear hK K' Vd Nd hNd
          try simp only [Act.put, aS]
          refine wpAnyH_ready (rs := [4]) (by kernel_rfl) (by simp) ?_
          refine AllReadyH.cons (o := ⟨_, _, _, _, _, _⟩) rfl (fun K' hK => ?_) (AllReadyH.nil)
          go_simp
          refine hK.out _ _ hHeld (fun hHeld => ?_)
          clear hK K'
          try simp only [Act.put, aS]
          refine wpAnyH_ready (rs := [5]) (by kernel_rfl) (by simp) ?_
          refine AllReadyH.cons (o := ⟨_, _, _, _, _, _⟩) rfl (fun K' hK => ?_) (AllReadyH.nil)
          go_simp
          have ht := take_any 1000000000000 (by decide) Gq ((c :: r)) v ((pn : Int)) Wl Vl (RQ) (by omega) (by omega)
          go_at_call 60
          refine ht.mono ?_
          clear ht
          rintro e w13 ⟨rfl, Vt, Ft⟩
          have Nt := Nl.fr Ft (fun e => by have := hlG _ e; omega)
          have hC13 := hCd.ofQ D ⟨v, Nt, Vt⟩ (Ft.mono (fun k hk => .inr hk))
          refine hK.out _ _ (show _ = _ from Nt.cell 0) (fun hHeld => ?_)
          clear hK K' hCd Vl Nl Ft
          try simp only [Act.put, aS]
          refine wpAnyH_done (by kernel_rfl) ?_ _
          clear hHeld hlG hNW Nt Vt
          go_wp2_with fail
          go_roundw
          case rel => exact ⟨_, _, _, _, _, rfl, hC13, g1, g3⟩
          case measure =>
           rw [hM.out, psiBox_eq hC13.rp, psiBox_eq hC13.rq]
           exact g2
         | false =>
          have HGD := Lib.hid hgd
          obtain ⟨g1, g2, g3⟩ := HS _ (step_go hQ HFE.out hfr HQQ.out HPP.out HPD.out rfl HBN.out)
          clear HS HN0
          rw [HM1.out, HM2.out, HGD.out] at g1 g2 g3
          have hC11 := hC10.moreX D (pn : Int)
          have ca := hC10.mx.1.cell 1
          have fa := hC10.mx.1.frozen 1
          have k1 := bx.k0
          have k2 := bx.k1
          go_wp2_with fail
          obtain ⟨w11, hw11⟩ : ∃ W, w10.setCell ⟨N + 2, 1, none⟩ (.int .i64 (x.keep + (pn : Int))) = W := ⟨_, rfl⟩
          rw [hw11] at hC11
          rw [hw11]
          clear hw11 ca fa k1 k2 hC10
          obtain ⟨v, Nv, V⟩ := hC11.rp
          have c0 := Nv.cell 0
          have hlG : ∀ g, Gp = some g → g < N := fun g hg => by have := D.gp g hg; omega
          have hNW : N < w11.heap.size := hC11.rp.lt
          refine wp_region_held_drew (S := fun X => X.cell? ⟨N, 0, none⟩ = some v) (by kernel_rfl) (show _ = _ from c0) (fun hHeld => ?_)
          refine wpAnyH_take (i := 0) (oi := ⟨_, _, _, _, _, _⟩) (v := ?_) rfl (by kernel_rfl) (by kernel_rfl) (by kernel_rfl) (fun _ _ _ h => h) (Or.inl ⟨by rfl, ?_⟩) hHeld ?_
          rotate_left
          ·intro w hSw
           try dsimp only at hSw
           go_simp
           all_goals (first | with_reducible rfl | rw [if_pos (by omega)])
          try simp only [Act.put, aS]
          refine wpAnyH_take (i := 1) (oi := ⟨_, _, _, _, _, _⟩) (v := ?_) rfl (by kernel_rfl) (by kernel_rfl) (by kernel_rfl) (fun _ _ _ h => h) (Or.inl ⟨by rfl, ?_⟩) hHeld ?_
          rotate_left
          ·intro w hSw
           try dsimp only at hSw
           go_simp
           all_goals (first | with_reducible rfl | rw [if_pos (by omega)])
          try simp only [Act.put, aS]
          refine wpAnyH_take (i := 2) (oi := ⟨_, _, _, _, _, _⟩) (v := ?_) rfl (by kernel_rfl) (by kernel_rfl) (by kernel_rfl) (fun _ _ _ h => h) (Or.inl ⟨by rfl, ?_⟩) hHeld ?_
          rotate_left
          ·intro w hSw
           try dsimp only at hSw
           go_simp
           all_goals (first | with_reducible rfl | rw [if_pos (by omega)])
          try simp only [Act.put, aS]
          have hCd := hC11.ext' ((Ext.refl w11).drew)
          obtain ⟨Wd, hWd⟩ : ∃ X, w11.drew = X := ⟨_, rfl⟩
          rw [hWd] at hHeld hCd
          rw [hWd]
          have hNd : w11.heap.size = Wd.heap.size := by rw [← hWd]; rfl
          have Vd : RowV Wd Gp ((d :: s)) v := by rw [← hWd]; exact V.fr (Fr.of_ext ((Ext.refl w11).drew) (fun _ => False)) (by simp)
          have Nd : NBox Wd (N) 74 #[v] := by rw [← hWd]; exact Nv.ext ((Ext.refl w11).drew)
          clear hWd hC11 V Nv c0
          refine wpAnyH_ready (rs := [3]) (by kernel_rfl) (by simp) ?_
          refine AllReadyH.cons (o := ⟨_, _, _, _, _, _⟩) rfl (fun K' hK => ?_) (AllReadyH.nil)
          go_simp
          have hl := left_any Gp ((d :: s)) v Wd Vd (fun g hg => by have := hlG g hg; omega)
          rw [HSP.out, HPN.out] at hl
          go_at_call 61
          refine hl.mono ?_
          clear hl
          rintro e Wl ⟨rfl, hEl⟩
          have Vl := Vd.fr (Fr.of_ext hEl (fun _ => False)) (by simp)
          have Nl := Nd.ext hEl
          replace hCd := hCd.ext' hEl
          refine hK.out _ _ (show _ = _ from Nl.cell 0) (fun hHeld => ?_)
          clear hK K' Vd Nd hNd
          try simp only [Act.put, aS]
          refine wpAnyH_ready (rs := [4]) (by kernel_rfl) (by simp) ?_
          refine AllReadyH.cons (o := ⟨_, _, _, _, _, _⟩) rfl (fun K' hK => ?_) (AllReadyH.nil)
          go_simp
          refine hK.out _ _ hHeld (fun hHeld => ?_)
          clear hK K'
          try simp only [Act.put, aS]
          refine wpAnyH_ready (rs := [5]) (by kernel_rfl) (by simp) ?_
          refine AllReadyH.cons (o := ⟨_, _, _, _, _, _⟩) rfl (fun K' hK => ?_) (AllReadyH.nil)
          go_simp
          have ht := take_any 1000000000000 (by decide) Gp ((d :: s)) v ((pn : Int)) Wl Vl (RP) (by omega) (by omega)
          go_at_call 60
          refine ht.mono ?_
          clear ht
          rintro e w12 ⟨rfl, Vt, Ft⟩
          have Nt := Nl.fr Ft (fun e => by have := hlG _ e; omega)
          have hC12 := hCd.ofP D ⟨v, Nt, Vt⟩ (Ft.mono (fun k hk => .inr hk))
          refine hK.out _ _ (show _ = _ from Nt.cell 0) (fun hHeld => ?_)
          clear hK K' hCd Vl Nl Ft
          try simp only [Act.put, aS]
          refine wpAnyH_done (by kernel_rfl) ?_ _
          clear hHeld hlG hNW Nt Vt
          go_wp2_with fail
          obtain ⟨v, Nv, V⟩ := hC12.rq
          have c0 := Nv.cell 0
          have hlG : ∀ g, Gq = some g → g < N := fun g hg => by have := D.gq g hg; omega
          have hNW : N < w12.heap.size := hC12.rp.lt
          refine wp_region_held_drew (S := fun X => X.cell? ⟨N + 1, 0, none⟩ = some v) (by kernel_rfl) (show _ = _ from c0) (fun hHeld => ?_)
          refine wpAnyH_take (i := 0) (oi := ⟨_, _, _, _, _, _⟩) (v := ?_) rfl (by kernel_rfl) (by kernel_rfl) (by kernel_rfl) (fun _ _ _ h => h) (Or.inl ⟨by rfl, ?_⟩) hHeld ?_
          rotate_left
          ·intro w hSw
           try dsimp only at hSw
           go_simp
           all_goals (first | with_reducible rfl | rw [if_pos (by omega)])
          try simp only [Act.put, aS]
          refine wpAnyH_take (i := 1) (oi := ⟨_, _, _, _, _, _⟩) (v := ?_) rfl (by kernel_rfl) (by kernel_rfl) (by kernel_rfl) (fun _ _ _ h => h) (Or.inl ⟨by rfl, ?_⟩) hHeld ?_
          rotate_left
          ·intro w hSw
           try dsimp only at hSw
           go_simp
           all_goals (first | with_reducible rfl | rw [if_pos (by omega)])
          try simp only [Act.put, aS]
          refine wpAnyH_take (i := 2) (oi := ⟨_, _, _, _, _, _⟩) (v := ?_) rfl (by kernel_rfl) (by kernel_rfl) (by kernel_rfl) (fun _ _ _ h => h) (Or.inl ⟨by rfl, ?_⟩) hHeld ?_
          rotate_left
          ·intro w hSw
           try dsimp only at hSw
           go_simp
           all_goals (first | with_reducible rfl | rw [if_pos (by omega)])
          try simp only [Act.put, aS]
          have hCd := hC12.ext' ((Ext.refl w12).drew)
          obtain ⟨Wd, hWd⟩ : ∃ X, w12.drew = X := ⟨_, rfl⟩
          rw [hWd] at hHeld hCd
          rw [hWd]
          have hNd : w12.heap.size = Wd.heap.size := by rw [← hWd]; rfl
          have Vd : RowV Wd Gq ((c :: r)) v := by rw [← hWd]; exact V.fr (Fr.of_ext ((Ext.refl w12).drew) (fun _ => False)) (by simp)
          have Nd : NBox Wd (N + 1) 74 #[v] := by rw [← hWd]; exact Nv.ext ((Ext.refl w12).drew)
          clear hWd hC12 V Nv c0
          refine wpAnyH_ready (rs := [3]) (by kernel_rfl) (by simp) ?_
          refine AllReadyH.cons (o := ⟨_, _, _, _, _, _⟩) rfl (fun K' hK => ?_) (AllReadyH.nil)
          go_simp
          have hl := left_any Gq ((c :: r)) v Wd Vd (fun g hg => by have := hlG g hg; omega)
          rw [HSK.out, HRN.out] at hl
          go_at_call 61
          refine hl.mono ?_
          clear hl
          rintro e Wl ⟨rfl, hEl⟩
          have Vl := Vd.fr (Fr.of_ext hEl (fun _ => False)) (by simp)
          have Nl := Nd.ext hEl
          replace hCd := hCd.ext' hEl
          refine hK.out _ _ (show _ = _ from Nl.cell 0) (fun hHeld => ?_)
          clear hK K' Vd Nd hNd
          try simp only [Act.put, aS]
          refine wpAnyH_ready (rs := [4]) (by kernel_rfl) (by simp) ?_
          refine AllReadyH.cons (o := ⟨_, _, _, _, _, _⟩) rfl (fun K' hK => ?_) (AllReadyH.nil)
          go_simp
          refine hK.out _ _ hHeld (fun hHeld => ?_)
          clear hK K'
          try simp only [Act.put, aS]
          refine wpAnyH_ready (rs := [5]) (by kernel_rfl) (by simp) ?_
          refine AllReadyH.cons (o := ⟨_, _, _, _, _, _⟩) rfl (fun K' hK => ?_) (AllReadyH.nil)
          go_simp
          have ht := take_any 1000000000000 (by decide) Gq ((c :: r)) v ((pn : Int)) Wl Vl (RQ) (by omega) (by omega)
          go_at_call 60
          refine ht.mono ?_
          clear ht
          rintro e w13 ⟨rfl, Vt, Ft⟩
          have Nt := Nl.fr Ft (fun e => by have := hlG _ e; omega)
          have hC13 := hCd.ofQ D ⟨v, Nt, Vt⟩ (Ft.mono (fun k hk => .inr hk))
          refine hK.out _ _ (show _ = _ from Nt.cell 0) (fun hHeld => ?_)
          clear hK K' hCd Vl Nl Ft
          try simp only [Act.put, aS]
          refine wpAnyH_done (by kernel_rfl) ?_ _
          clear hHeld hlG hNW Nt Vt
          go_wp2_with fail
          go_roundw
          case rel => exact ⟨_, _, _, _, _, rfl, hC13, g1, g3⟩
          case measure =>
           rw [hM.out, psiBox_eq hC13.rp, psiBox_eq hC13.rq]
           exact g2
        ·have HBN : Hid (bN (d :: s) (c :: r) = (kn : Int)) := Lib.hid (by rw [bN_cons, HPN.out, HRN.out]; omega)
         have HM1 : Hid (min (kn : Int) (rN (d :: s)) = (kn : Int)) := Lib.hid (by rw [HPN.out]; omega)
         have HM2 : Hid (min (kn : Int) (rN (c :: r)) = (kn : Int)) := Lib.hid (by rw [HRN.out]; omega)
         have j1 : kn ≤ pn := hkp
         have j2 : ((kn : Int) ≤ (pn : Int)) := by omega
         have j3 : ¬ (pn < kn) := by omega
         have j4 : ¬ ((pn : Int) < (kn : Int)) := by omega
         cases hgd : rD (c :: r) with
         | true =>
          have HGD := Lib.hid hgd
          obtain ⟨g1, g2, g3⟩ := HS _ (step_go hQ HFE.out hfr HQQ.out HPP.out HPD.out rfl HBN.out)
          clear HS HN0
          rw [HM1.out, HM2.out, HGD.out] at g1 g2 g3
          have hc := drop_any x (N + 2) (N + 3) lx (kn : Int) w10 hC10.mx (by have := bx.len; omega) (fun r hr => (bx.bnd r hr).2) (by omega)
          go_wp2_with fail
          refine hc.mono ?_
          clear hc
          rintro e w11 ⟨l11, rfl, M11, F11, G11⟩
          have hC11 := hC10.onX D M11 F11
          clear M11 F11 G11 hC10
          go_wp2_with fail
          obtain ⟨v, Nv, V⟩ := hC11.rp
          have c0 := Nv.cell 0
          have hlG : ∀ g, Gp = some g → g < N := fun g hg => by have := D.gp g hg; omega
          have hNW : N < w11.heap.size := hC11.rp.lt
          refine wp_region_held_drew (S := fun X => X.cell? ⟨N, 0, none⟩ = some v) (by kernel_rfl) (show _ = _ from c0) (fun hHeld => ?_)
          refine wpAnyH_take (i := 0) (oi := ⟨_, _, _, _, _, _⟩) (v := ?_) rfl (by kernel_rfl) (by kernel_rfl) (by kernel_rfl) (fun _ _ _ h => h) (Or.inl ⟨by rfl, ?_⟩) hHeld ?_
          rotate_left
          ·intro w hSw
           try dsimp only at hSw
           go_simp
           all_goals (first | with_reducible rfl | rw [if_pos (by omega)])
          try simp only [Act.put, aS]
          refine wpAnyH_take (i := 1) (oi := ⟨_, _, _, _, _, _⟩) (v := ?_) rfl (by kernel_rfl) (by kernel_rfl) (by kernel_rfl) (fun _ _ _ h => h) (Or.inl ⟨by rfl, ?_⟩) hHeld ?_
          rotate_left
          ·intro w hSw
           try dsimp only at hSw
           go_simp
           all_goals (first | with_reducible rfl | rw [if_pos (by omega)])
          try simp only [Act.put, aS]
          refine wpAnyH_take (i := 2) (oi := ⟨_, _, _, _, _, _⟩) (v := ?_) rfl (by kernel_rfl) (by kernel_rfl) (by kernel_rfl) (fun _ _ _ h => h) (Or.inl ⟨by rfl, ?_⟩) hHeld ?_
          rotate_left
          ·intro w hSw
           try dsimp only at hSw
           go_simp
           all_goals (first | with_reducible rfl | rw [if_pos (by omega)])
          try simp only [Act.put, aS]
          have hCd := hC11.ext' ((Ext.refl w11).drew)
          obtain ⟨Wd, hWd⟩ : ∃ X, w11.drew = X := ⟨_, rfl⟩
          rw [hWd] at hHeld hCd
          rw [hWd]
          have hNd : w11.heap.size = Wd.heap.size := by rw [← hWd]; rfl
          have Vd : RowV Wd Gp ((d :: s)) v := by rw [← hWd]; exact V.fr (Fr.of_ext ((Ext.refl w11).drew) (fun _ => False)) (by simp)
          have Nd : NBox Wd (N) 74 #[v] := by rw [← hWd]; exact Nv.ext ((Ext.refl w11).drew)
          clear hWd hC11 V Nv c0
          refine wpAnyH_ready (rs := [3]) (by kernel_rfl) (by simp) ?_
          refine AllReadyH.cons (o := ⟨_, _, _, _, _, _⟩) rfl (fun K' hK => ?_) (AllReadyH.nil)
          go_simp
          have hl := left_any Gp ((d :: s)) v Wd Vd (fun g hg => by have := hlG g hg; omega)
          rw [HSP.out, HPN.out] at hl
          go_at_call 61
          refine hl.mono ?_
          clear hl
          rintro e Wl ⟨rfl, hEl⟩
          have Vl := Vd.fr (Fr.of_ext hEl (fun _ => False)) (by simp)
          have Nl := Nd.ext hEl
          replace hCd := hCd.ext' hEl
          refine hK.out _ _ (show _ = _ from Nl.cell 0) (fun hHeld => ?_)
          clear hK K' Vd Nd hNd
          try simp only [Act.put, aS]
          refine wpAnyH_ready (rs := [4]) (by kernel_rfl) (by simp) ?_
          refine AllReadyH.cons (o := ⟨_, _, _, _, _, _⟩) rfl (fun K' hK => ?_) (AllReadyH.nil)
          go_simp
          refine hK.out _ _ hHeld (fun hHeld => ?_)
          clear hK K'
          try simp only [Act.put, aS]
          refine wpAnyH_ready (rs := [5]) (by kernel_rfl) (by simp) ?_
          refine AllReadyH.cons (o := ⟨_, _, _, _, _, _⟩) rfl (fun K' hK => ?_) (AllReadyH.nil)
          go_simp
          have ht := take_any 1000000000000 (by decide) Gp ((d :: s)) v ((kn : Int)) Wl Vl (RP) (by omega) (by omega)
          go_at_call 60
          refine ht.mono ?_
          clear ht
          rintro e w12 ⟨rfl, Vt, Ft⟩
          have Nt := Nl.fr Ft (fun e => by have := hlG _ e; omega)
          have hC12 := hCd.ofP D ⟨v, Nt, Vt⟩ (Ft.mono (fun k hk => .inr hk))
          refine hK.out _ _ (show _ = _ from Nt.cell 0) (fun hHeld => ?_)
          clear hK K' hCd Vl Nl Ft
          try simp only [Act.put, aS]
          refine wpAnyH_done (by kernel_rfl) ?_ _
          clear hHeld hlG hNW Nt Vt
          go_wp2_with fail
          obtain ⟨v, Nv, V⟩ := hC12.rq
          have c0 := Nv.cell 0
          have hlG : ∀ g, Gq = some g → g < N := fun g hg => by have := D.gq g hg; omega
          have hNW : N < w12.heap.size := hC12.rp.lt
          refine wp_region_held_drew (S := fun X => X.cell? ⟨N + 1, 0, none⟩ = some v) (by kernel_rfl) (show _ = _ from c0) (fun hHeld => ?_)
          refine wpAnyH_take (i := 0) (oi := ⟨_, _, _, _, _, _⟩) (v := ?_) rfl (by kernel_rfl) (by kernel_rfl) (by kernel_rfl) (fun _ _ _ h => h) (Or.inl ⟨by rfl, ?_⟩) hHeld ?_
          rotate_left
          ·intro w hSw
           try dsimp only at hSw
           go_simp
           all_goals (first | with_reducible rfl | rw [if_pos (by omega)])
          try simp only [Act.put, aS]
          refine wpAnyH_take (i := 1) (oi := ⟨_, _, _, _, _, _⟩) (v := ?_) rfl (by kernel_rfl) (by kernel_rfl) (by kernel_rfl) (fun _ _ _ h => h) (Or.inl ⟨by rfl, ?_⟩) hHeld ?_
          rotate_left
          ·intro w hSw
           try dsimp only at hSw
           go_simp
           all_goals (first | with_reducible rfl | rw [if_pos (by omega)])
          try simp only [Act.put, aS]
          refine wpAnyH_take (i := 2) (oi := ⟨_, _, _, _, _, _⟩) (v := ?_) rfl (by kernel_rfl) (by kernel_rfl) (by kernel_rfl) (fun _ _ _ h => h) (Or.inl ⟨by rfl, ?_⟩) hHeld ?_
          rotate_left
          ·intro w hSw
           try dsimp only at hSw
           go_simp
           all_goals (first | with_reducible rfl | rw [if_pos (by omega)])
          try simp only [Act.put, aS]
          have hCd := hC12.ext' ((Ext.refl w12).drew)
          obtain ⟨Wd, hWd⟩ : ∃ X, w12.drew = X := ⟨_, rfl⟩
          rw [hWd] at hHeld hCd
          rw [hWd]
          have hNd : w12.heap.size = Wd.heap.size := by rw [← hWd]; rfl
          have Vd : RowV Wd Gq ((c :: r)) v := by rw [← hWd]; exact V.fr (Fr.of_ext ((Ext.refl w12).drew) (fun _ => False)) (by simp)
          have Nd : NBox Wd (N + 1) 74 #[v] := by rw [← hWd]; exact Nv.ext ((Ext.refl w12).drew)
          clear hWd hC12 V Nv c0
          refine wpAnyH_ready (rs := [3]) (by kernel_rfl) (by simp) ?_
          refine AllReadyH.cons (o := ⟨_, _, _, _, _, _⟩) rfl (fun K' hK => ?_) (AllReadyH.nil)
          go_simp
          have hl := left_any Gq ((c :: r)) v Wd Vd (fun g hg => by have := hlG g hg; omega)
          rw [HSK.out, HRN.out] at hl
          go_at_call 61
          refine hl.mono ?_
          clear hl
          rintro e Wl ⟨rfl, hEl⟩
          have Vl := Vd.fr (Fr.of_ext hEl (fun _ => False)) (by simp)
          have Nl := Nd.ext hEl
          replace hCd := hCd.ext' hEl
          refine hK.out _ _ (show _ = _ from Nl.cell 0) (fun hHeld => ?_)
          clear hK K' Vd Nd hNd
          try simp only [Act.put, aS]
          refine wpAnyH_ready (rs := [4]) (by kernel_rfl) (by simp) ?_
          refine AllReadyH.cons (o := ⟨_, _, _, _, _, _⟩) rfl (fun K' hK => ?_) (AllReadyH.nil)
          go_simp
          refine hK.out _ _ hHeld (fun hHeld => ?_)
          clear hK K'
          try simp only [Act.put, aS]
          refine wpAnyH_ready (rs := [5]) (by kernel_rfl) (by simp) ?_
          refine AllReadyH.cons (o := ⟨_, _, _, _, _, _⟩) rfl (fun K' hK => ?_) (AllReadyH.nil)
          go_simp
          have ht := take_any 1000000000000 (by decide) Gq ((c :: r)) v ((kn : Int)) Wl Vl (RQ) (by omega) (by omega)
          go_at_call 60
          refine ht.mono ?_
          clear ht
          rintro e w13 ⟨rfl, Vt, Ft⟩
          have Nt := Nl.fr Ft (fun e => by have := hlG _ e; omega)
          have hC13 := hCd.ofQ D ⟨v, Nt, Vt⟩ (Ft.mono (fun k hk => .inr hk))
          refine hK.out _ _ (show _ = _ from Nt.cell 0) (fun hHeld => ?_)
          clear hK K' hCd Vl Nl Ft
          try simp only [Act.put, aS]
          refine wpAnyH_done (by kernel_rfl) ?_ _
          clear hHeld hlG hNW Nt Vt
          go_wp2_with fail
          go_roundw
          case rel => exact ⟨_, _, _, _, _, rfl, hC13, g1, g3⟩
          case measure =>
           rw [hM.out, psiBox_eq hC13.rp, psiBox_eq hC13.rq]
           exact g2
         | false =>
          have HGD := Lib.hid hgd
          obtain ⟨g1, g2, g3⟩ := HS _ (step_go hQ HFE.out hfr HQQ.out HPP.out HPD.out rfl HBN.out)
          clear HS HN0
          rw [HM1.out, HM2.out, HGD.out] at g1 g2 g3
          have hC11 := hC10.moreX D (kn : Int)
          have ca := hC10.mx.1.cell 1
          have fa := hC10.mx.1.frozen 1
          have k1 := bx.k0
          have k2 := bx.k1
          go_wp2_with fail
          obtain ⟨w11, hw11⟩ : ∃ W, w10.setCell ⟨N + 2, 1, none⟩ (.int .i64 (x.keep + (kn : Int))) = W := ⟨_, rfl⟩
          rw [hw11] at hC11
          rw [hw11]
          clear hw11 ca fa k1 k2 hC10
          obtain ⟨v, Nv, V⟩ := hC11.rp
          have c0 := Nv.cell 0
          have hlG : ∀ g, Gp = some g → g < N := fun g hg => by have := D.gp g hg; omega
          have hNW : N < w11.heap.size := hC11.rp.lt
          refine wp_region_held_drew (S := fun X => X.cell? ⟨N, 0, none⟩ = some v) (by kernel_rfl) (show _ = _ from c0) (fun hHeld => ?_)
          refine wpAnyH_take (i := 0) (oi := ⟨_, _, _, _, _, _⟩) (v := ?_) rfl (by kernel_rfl) (by kernel_rfl) (by kernel_rfl) (fun _ _ _ h => h) (Or.inl ⟨by rfl, ?_⟩) hHeld ?_
          rotate_left
          ·intro w hSw
           try dsimp only at hSw
           go_simp
           all_goals (first | with_reducible rfl | rw [if_pos (by omega)])
          try simp only [Act.put, aS]
          refine wpAnyH_take (i := 1) (oi := ⟨_, _, _, _, _, _⟩) (v := ?_) rfl (by kernel_rfl) (by kernel_rfl) (by kernel_rfl) (fun _ _ _ h => h) (Or.inl ⟨by rfl, ?_⟩) hHeld ?_
          rotate_left
          ·intro w hSw
           try dsimp only at hSw
           go_simp
           all_goals (first | with_reducible rfl | rw [if_pos (by omega)])
          try simp only [Act.put, aS]
          refine wpAnyH_take (i := 2) (oi := ⟨_, _, _, _, _, _⟩) (v := ?_) rfl (by kernel_rfl) (by kernel_rfl) (by kernel_rfl) (fun _ _ _ h => h) (Or.inl ⟨by rfl, ?_⟩) hHeld ?_
          rotate_left
          ·intro w hSw
           try dsimp only at hSw
           go_simp
           all_goals (first | with_reducible rfl | rw [if_pos (by omega)])
          try simp only [Act.put, aS]
          have hCd := hC11.ext' ((Ext.refl w11).drew)
          obtain ⟨Wd, hWd⟩ : ∃ X, w11.drew = X := ⟨_, rfl⟩
          rw [hWd] at hHeld hCd
          rw [hWd]
          have hNd : w11.heap.size = Wd.heap.size := by rw [← hWd]; rfl
          have Vd : RowV Wd Gp ((d :: s)) v := by rw [← hWd]; exact V.fr (Fr.of_ext ((Ext.refl w11).drew) (fun _ => False)) (by simp)
          have Nd : NBox Wd (N) 74 #[v] := by rw [← hWd]; exact Nv.ext ((Ext.refl w11).drew)
          clear hWd hC11 V Nv c0
          refine wpAnyH_ready (rs := [3]) (by kernel_rfl) (by simp) ?_
          refine AllReadyH.cons (o := ⟨_, _, _, _, _, _⟩) rfl (fun K' hK => ?_) (AllReadyH.nil)
          go_simp
          have hl := left_any Gp ((d :: s)) v Wd Vd (fun g hg => by have := hlG g hg; omega)
          rw [HSP.out, HPN.out] at hl
          go_at_call 61
          refine hl.mono ?_
          clear hl
          rintro e Wl ⟨rfl, hEl⟩
          have Vl := Vd.fr (Fr.of_ext hEl (fun _ => False)) (by simp)
          have Nl := Nd.ext hEl
          replace hCd := hCd.ext' hEl
          refine hK.out _ _ (show _ = _ from Nl.cell 0) (fun hHeld => ?_)
          clear hK K' Vd Nd hNd
          try simp only [Act.put, aS]
          refine wpAnyH_ready (rs := [4]) (by kernel_rfl) (by simp) ?_
          refine AllReadyH.cons (o := ⟨_, _, _, _, _, _⟩) rfl (fun K' hK => ?_) (AllReadyH.nil)
          go_simp
          refine hK.out _ _ hHeld (fun hHeld => ?_)
          clear hK K'
          try simp only [Act.put, aS]
          refine wpAnyH_ready (rs := [5]) (by kernel_rfl) (by simp) ?_
          refine AllReadyH.cons (o := ⟨_, _, _, _, _, _⟩) rfl (fun K' hK => ?_) (AllReadyH.nil)
          go_simp
          have ht := take_any 1000000000000 (by decide) Gp ((d :: s)) v ((kn : Int)) Wl Vl (RP) (by omega) (by omega)
          go_at_call 60
          refine ht.mono ?_
          clear ht
          rintro e w12 ⟨rfl, Vt, Ft⟩
          have Nt := Nl.fr Ft (fun e => by have := hlG _ e; omega)
          have hC12 := hCd.ofP D ⟨v, Nt, Vt⟩ (Ft.mono (fun k hk => .inr hk))
          refine hK.out _ _ (show _ = _ from Nt.cell 0) (fun hHeld => ?_)
          clear hK K' hCd Vl Nl Ft
          try simp only [Act.put, aS]
          refine wpAnyH_done (by kernel_rfl) ?_ _
          clear hHeld hlG hNW Nt Vt
          go_wp2_with fail
          obtain ⟨v, Nv, V⟩ := hC12.rq
          have c0 := Nv.cell 0
          have hlG : ∀ g, Gq = some g → g < N := fun g hg => by have := D.gq g hg; omega
          have hNW : N < w12.heap.size := hC12.rp.lt
          refine wp_region_held_drew (S := fun X => X.cell? ⟨N + 1, 0, none⟩ = some v) (by kernel_rfl) (show _ = _ from c0) (fun hHeld => ?_)
          refine wpAnyH_take (i := 0) (oi := ⟨_, _, _, _, _, _⟩) (v := ?_) rfl (by kernel_rfl) (by kernel_rfl) (by kernel_rfl) (fun _ _ _ h => h) (Or.inl ⟨by rfl, ?_⟩) hHeld ?_
          rotate_left
          ·intro w hSw
           try dsimp only at hSw
           go_simp
           all_goals (first | with_reducible rfl | rw [if_pos (by omega)])
          try simp only [Act.put, aS]
          refine wpAnyH_take (i := 1) (oi := ⟨_, _, _, _, _, _⟩) (v := ?_) rfl (by kernel_rfl) (by kernel_rfl) (by kernel_rfl) (fun _ _ _ h => h) (Or.inl ⟨by rfl, ?_⟩) hHeld ?_
          rotate_left
          ·intro w hSw
           try dsimp only at hSw
           go_simp
           all_goals (first | with_reducible rfl | rw [if_pos (by omega)])
          try simp only [Act.put, aS]
          refine wpAnyH_take (i := 2) (oi := ⟨_, _, _, _, _, _⟩) (v := ?_) rfl (by kernel_rfl) (by kernel_rfl) (by kernel_rfl) (fun _ _ _ h => h) (Or.inl ⟨by rfl, ?_⟩) hHeld ?_
          rotate_left
          ·intro w hSw
           try dsimp only at hSw
           go_simp
           all_goals (first | with_reducible rfl | rw [if_pos (by omega)])
          try simp only [Act.put, aS]
          have hCd := hC12.ext' ((Ext.refl w12).drew)
          obtain ⟨Wd, hWd⟩ : ∃ X, w12.drew = X := ⟨_, rfl⟩
          rw [hWd] at hHeld hCd
          rw [hWd]
          have hNd : w12.heap.size = Wd.heap.size := by rw [← hWd]; rfl
          have Vd : RowV Wd Gq ((c :: r)) v := by rw [← hWd]; exact V.fr (Fr.of_ext ((Ext.refl w12).drew) (fun _ => False)) (by simp)
          have Nd : NBox Wd (N + 1) 74 #[v] := by rw [← hWd]; exact Nv.ext ((Ext.refl w12).drew)
          clear hWd hC12 V Nv c0
          refine wpAnyH_ready (rs := [3]) (by kernel_rfl) (by simp) ?_
          refine AllReadyH.cons (o := ⟨_, _, _, _, _, _⟩) rfl (fun K' hK => ?_) (AllReadyH.nil)
          go_simp
          have hl := left_any Gq ((c :: r)) v Wd Vd (fun g hg => by have := hlG g hg; omega)
          rw [HSK.out, HRN.out] at hl
          go_at_call 61
          refine hl.mono ?_
          clear hl
          rintro e Wl ⟨rfl, hEl⟩
          have Vl := Vd.fr (Fr.of_ext hEl (fun _ => False)) (by simp)
          have Nl := Nd.ext hEl
          replace hCd := hCd.ext' hEl
          refine hK.out _ _ (show _ = _ from Nl.cell 0) (fun hHeld => ?_)
          clear hK K' Vd Nd hNd
          try simp only [Act.put, aS]
          refine wpAnyH_ready (rs := [4]) (by kernel_rfl) (by simp) ?_
          refine AllReadyH.cons (o := ⟨_, _, _, _, _, _⟩) rfl (fun K' hK => ?_) (AllReadyH.nil)
          go_simp
          refine hK.out _ _ hHeld (fun hHeld => ?_)
          clear hK K'
          try simp only [Act.put, aS]
          refine wpAnyH_ready (rs := [5]) (by kernel_rfl) (by simp) ?_
          refine AllReadyH.cons (o := ⟨_, _, _, _, _, _⟩) rfl (fun K' hK => ?_) (AllReadyH.nil)
          go_simp
          have ht := take_any 1000000000000 (by decide) Gq ((c :: r)) v ((kn : Int)) Wl Vl (RQ) (by omega) (by omega)
          go_at_call 60
          refine ht.mono ?_
          clear ht
          rintro e w13 ⟨rfl, Vt, Ft⟩
          have Nt := Nl.fr Ft (fun e => by have := hlG _ e; omega)
          have hC13 := hCd.ofQ D ⟨v, Nt, Vt⟩ (Ft.mono (fun k hk => .inr hk))
          refine hK.out _ _ (show _ = _ from Nt.cell 0) (fun hHeld => ?_)
          clear hK K' hCd Vl Nl Ft
          try simp only [Act.put, aS]
          refine wpAnyH_done (by kernel_rfl) ?_ _
          clear hHeld hlG hNW Nt Vt
          go_wp2_with fail
          go_roundw
          case rel => exact ⟨_, _, _, _, _, rfl, hC13, g1, g3⟩
          case measure =>
           rw [hM.out, psiBox_eq hC13.rp, psiBox_eq hC13.rq]
           exact g2
   ·have hl := str_some hf
    have HFE : Hid ((CS.mk p q x f).fetch = ⟨p, q, x, f⟩) := Lib.hid (if_pos hf)
    obtain ⟨Q, hQQ⟩ : ∃ Q, rSkip (rPut q) = Q := ⟨_, rfl⟩
    have HQQ := Lib.hid hQQ
    have HSK : Hid (rSkip Q = Q) := Lib.hid (by rw [← hQQ]; exact skip_skip _)
    have RQ : RB 1000000000000 Q := by rw [← hQQ]; exact Rq.put.skip
    have nQ : Nn Q := RQ.nn
    obtain ⟨kn, hkn⟩ : ∃ kn : Nat, rN Q = kn := ⟨(rN Q).toNat, by have := RQ.n; omega⟩
    have hkb : kn ≤ 1000000000000 := by have := RQ.n.2; omega
    have HRN := Lib.hid hkn
    have hc := run_any (N + 1) Gq (rPut q) w7 hC7.rq (fun e => by have := D.gq _ e; omega)
    rw [hQQ, hkn] at hc
    clear hQQ hkn
    go_wp2_with fail
    refine hc.mono ?_
    clear hc
    rintro e w9 ⟨rfl, R9, F9⟩
    have hC9 := hC7.ofQ D R9 (F9.mono (fun k hk => .inl hk))
    clear R9 F9 hC7
    have hfr := hf
    cases Q with
    | nil =>
     have HGD : Hid (rD ([] : List Pc) = false) := Lib.hid rfl
     have HFN : Hid (frN [] f = ((f.size : Nat) : Int)) := Lib.hid (if_neg (by decide))
     have HMN : Hid (min ((f.size : Nat) : Int) (rN []) = 0) := Lib.hid (by show min _ 0 = _; omega)
     have HRN : Hid (rN ([] : List Pc) = ((0 : Nat) : Int)) := Lib.hid rfl
     have g9 : rD ([] : List Pc) = false := rfl
     have g8 : decide (0 < ([] : List Pc).length) = false := rfl
     have j1 : ¬ (((f.size : Nat) : Int) ≤ 0) := by omega
     have j2 : ¬ (f.size = 0) := by omega
     obtain ⟨g1, g2, g3⟩ := HS _ (step_fresh hQ HFE.out hfr HQQ.out (n := f.size) HFN.out)
     clear HS HN0
     rw [HGD.out, if_neg (by decide)] at g1 g2 g3
     rw [HMN.out] at g1 g2 g3
     rw [ext_none] at g1 g2 g3
     rw [ext_all] at g1 g2 g3
     have hc := put_any x (N + 2) (N + 3) lx f w9 hC9.mx (by have := bx.len; omega) (fun r hr => (bx.bnd r hr).1) (by omega)
     go_wp2_with fail
     refine hc.mono ?_
     clear hc
     rintro e w11 ⟨l11, rfl, M11, F11, G11⟩
     have hC11 := hC9.onX D M11 F11
     clear M11 F11 G11
     go_wp2_with fail
     obtain ⟨v, Nv, V⟩ := hC11.rq
     have c0 := Nv.cell 0
     have hlG : ∀ g, Gq = some g → g < N := fun g hg => by have := D.gq g hg; omega
     have hNW : N < w11.heap.size := hC11.rp.lt
     refine wp_region_held_drew (S := fun X => X.cell? ⟨N + 1, 0, none⟩ = some v) (by kernel_rfl) (show _ = _ from c0) (fun hHeld => ?_)
     refine wpAnyH_take (i := 0) (oi := ⟨_, _, _, _, _, _⟩) (v := ?_) rfl (by kernel_rfl) (by kernel_rfl) (by kernel_rfl) (fun _ _ _ h => h) (Or.inl ⟨by rfl, ?_⟩) hHeld ?_
     rotate_left
     ·intro w hSw
      try dsimp only at hSw
      go_simp
      all_goals (first | with_reducible rfl | rw [if_pos (by omega)])
     try simp only [Act.put, aS]
     refine wpAnyH_take (i := 1) (oi := ⟨_, _, _, _, _, _⟩) (v := ?_) rfl (by kernel_rfl) (by kernel_rfl) (by kernel_rfl) (fun _ _ _ h => h) (Or.inl ⟨by rfl, ?_⟩) hHeld ?_
     rotate_left
     ·intro w hSw
      try dsimp only at hSw
      go_simp
      all_goals (first | with_reducible rfl | rw [if_pos (by omega)])
     try simp only [Act.put, aS]
     refine wpAnyH_take (i := 2) (oi := ⟨_, _, _, _, _, _⟩) (v := ?_) rfl (by kernel_rfl) (by kernel_rfl) (by kernel_rfl) (fun _ _ _ h => h) (Or.inl ⟨by rfl, ?_⟩) hHeld ?_
     rotate_left
     ·intro w hSw
      try dsimp only at hSw
      go_simp
      all_goals (first | with_reducible rfl | rw [if_pos (by omega)])
     try simp only [Act.put, aS]
     have hCd := hC11.ext' ((Ext.refl w11).drew)
     obtain ⟨Wd, hWd⟩ : ∃ X, w11.drew = X := ⟨_, rfl⟩
     rw [hWd] at hHeld hCd
     rw [hWd]
     have hNd : w11.heap.size = Wd.heap.size := by rw [← hWd]; rfl
     have Vd : RowV Wd Gq (([] : List Pc)) v := by rw [← hWd]; exact V.fr (Fr.of_ext ((Ext.refl w11).drew) (fun _ => False)) (by simp)
     have Nd : NBox Wd (N + 1) 74 #[v] := by rw [← hWd]; exact Nv.ext ((Ext.refl w11).drew)
     clear hWd hC11 V Nv c0
     refine wpAnyH_ready (rs := [3]) (by kernel_rfl) (by simp) ?_
     refine AllReadyH.cons (o := ⟨_, _, _, _, _, _⟩) rfl (fun K' hK => ?_) (AllReadyH.nil)
     go_simp
     have hl := left_any Gq (([] : List Pc)) v Wd Vd (fun g hg => by have := hlG g hg; omega)
     rw [HSK.out, HRN.out] at hl
     go_at_call 61
     refine hl.mono ?_
     clear hl
     rintro e Wl ⟨rfl, hEl⟩
     have Vl := Vd.fr (Fr.of_ext hEl (fun _ => False)) (by simp)
     have Nl := Nd.ext hEl
     replace hCd := hCd.ext' hEl
     refine hK.out _ _ (show _ = _ from Nl.cell 0) (fun hHeld => ?_)
     clear hK K' Vd Nd hNd
     try simp only [Act.put, aS]
     refine wpAnyH_ready (rs := [4]) (by kernel_rfl) (by simp) ?_
     refine AllReadyH.cons (o := ⟨_, _, _, _, _, _⟩) rfl (fun K' hK => ?_) (AllReadyH.nil)
     go_simp
     refine hK.out _ _ hHeld (fun hHeld => ?_)
     clear hK K'
     try simp only [Act.put, aS]
     refine wpAnyH_ready (rs := [5]) (by kernel_rfl) (by simp) ?_
     refine AllReadyH.cons (o := ⟨_, _, _, _, _, _⟩) rfl (fun K' hK => ?_) (AllReadyH.nil)
     go_simp
     have ht := take_any 1000000000000 (by decide) Gq (([] : List Pc)) v (0) Wl Vl (RQ) (by omega) (by omega)
     go_at_call 60
     refine ht.mono ?_
     clear ht
     rintro e w12 ⟨rfl, Vt, Ft⟩
     have Nt := Nl.fr Ft (fun e => by have := hlG _ e; omega)
     have hC12 := hCd.ofQ D ⟨v, Nt, Vt⟩ (Ft.mono (fun k hk => .inr hk))
     refine hK.out _ _ (show _ = _ from Nt.cell 0) (fun hHeld => ?_)
     clear hK K' hCd Vl Nl Ft
     try simp only [Act.put, aS]
     refine wpAnyH_done (by kernel_rfl) ?_ _
     clear hHeld hlG hNW Nt Vt
     go_wp2_with fail
     go_roundw
     case rel => exact ⟨_, _, _, _, _, rfl, hC12, g1, g3⟩
     case measure =>
      rw [hM.out, psiBox_eq hC12.rp, psiBox_eq hC12.rq]
      exact g2
    | cons c r =>
     have g8 : decide (0 < (c :: r : List Pc).length) = true := decide_eq_true (by simp)
     rcases Nat.lt_or_ge f.size kn with hkf | hkf
     ·have HFN : Hid (frN (c :: r) f = ((f.size : Nat) : Int)) := Lib.hid (by unfold frN; rw [if_pos (by simp), HRN.out]; omega)
      have HMN : Hid (min ((f.size : Nat) : Int) (rN (c :: r)) = ((f.size : Nat) : Int)) := Lib.hid (by rw [HRN.out]; omega)
      have j1 : ¬ ((kn : Int) ≤ (f.size : Int)) := by omega
      have j2 : ¬ (kn ≤ f.size) := by omega
      have j5 : ¬ (kn < f.size) := by omega
      have j6 : ¬ ((kn : Int) < (f.size : Int)) := by omega
      have j3 : ((f.size : Int) ≤ (kn : Int)) := by omega
      have j4 : f.size ≤ kn := by omega
      cases hgd : rD (c :: r) with
      | true =>
       have HGD := Lib.hid hgd
       obtain ⟨g1, g2, g3⟩ := HS _ (step_fresh hQ HFE.out hfr HQQ.out (n := f.size) HFN.out)
       clear HS HN0
       rw [HGD.out, if_pos rfl] at g1 g2 g3
       rw [HMN.out] at g1 g2 g3
       rw [ext_none] at g1 g2 g3
       go_wp2_with fail
       obtain ⟨v, Nv, V⟩ := hC9.rq
       have c0 := Nv.cell 0
       have hlG : ∀ g, Gq = some g → g < N := fun g hg => by have := D.gq g hg; omega
       have hNW : N < w9.heap.size := hC9.rp.lt
       refine wp_region_held_drew (S := fun X => X.cell? ⟨N + 1, 0, none⟩ = some v) (by kernel_rfl) (show _ = _ from c0) (fun hHeld => ?_)
       refine wpAnyH_take (i := 0) (oi := ⟨_, _, _, _, _, _⟩) (v := ?_) rfl (by kernel_rfl) (by kernel_rfl) (by kernel_rfl) (fun _ _ _ h => h) (Or.inl ⟨by rfl, ?_⟩) hHeld ?_
       rotate_left
       ·intro w hSw
        try dsimp only at hSw
        go_simp
        all_goals (first | with_reducible rfl | rw [if_pos (by omega)])
       try simp only [Act.put, aS]
       refine wpAnyH_take (i := 1) (oi := ⟨_, _, _, _, _, _⟩) (v := ?_) rfl (by kernel_rfl) (by kernel_rfl) (by kernel_rfl) (fun _ _ _ h => h) (Or.inl ⟨by rfl, ?_⟩) hHeld ?_
       rotate_left
       ·intro w hSw
        try dsimp only at hSw
        go_simp
        all_goals (first | with_reducible rfl | rw [if_pos (by omega)])
       try simp only [Act.put, aS]
       refine wpAnyH_take (i := 2) (oi := ⟨_, _, _, _, _, _⟩) (v := ?_) rfl (by kernel_rfl) (by kernel_rfl) (by kernel_rfl) (fun _ _ _ h => h) (Or.inl ⟨by rfl, ?_⟩) hHeld ?_
       rotate_left
       ·intro w hSw
        try dsimp only at hSw
        go_simp
        all_goals (first | with_reducible rfl | rw [if_pos (by omega)])
       try simp only [Act.put, aS]
       have hCd := hC9.ext' ((Ext.refl w9).drew)
       obtain ⟨Wd, hWd⟩ : ∃ X, w9.drew = X := ⟨_, rfl⟩
       rw [hWd] at hHeld hCd
       rw [hWd]
       have hNd : w9.heap.size = Wd.heap.size := by rw [← hWd]; rfl
       have Vd : RowV Wd Gq ((c :: r)) v := by rw [← hWd]; exact V.fr (Fr.of_ext ((Ext.refl w9).drew) (fun _ => False)) (by simp)
       have Nd : NBox Wd (N + 1) 74 #[v] := by rw [← hWd]; exact Nv.ext ((Ext.refl w9).drew)
       clear hWd hC9 V Nv c0
       refine wpAnyH_ready (rs := [3]) (by kernel_rfl) (by simp) ?_
       refine AllReadyH.cons (o := ⟨_, _, _, _, _, _⟩) rfl (fun K' hK => ?_) (AllReadyH.nil)
       go_simp
       have hl := left_any Gq ((c :: r)) v Wd Vd (fun g hg => by have := hlG g hg; omega)
       rw [HSK.out, HRN.out] at hl
       go_at_call 61
       refine hl.mono ?_
       clear hl
       rintro e Wl ⟨rfl, hEl⟩
       have Vl := Vd.fr (Fr.of_ext hEl (fun _ => False)) (by simp)
       have Nl := Nd.ext hEl
       replace hCd := hCd.ext' hEl
       refine hK.out _ _ (show _ = _ from Nl.cell 0) (fun hHeld => ?_)
       clear hK K' Vd Nd hNd
       try simp only [Act.put, aS]
       refine wpAnyH_ready (rs := [4]) (by kernel_rfl) (by simp) ?_
       refine AllReadyH.cons (o := ⟨_, _, _, _, _, _⟩) rfl (fun K' hK => ?_) (AllReadyH.nil)
       go_simp
       refine hK.out _ _ hHeld (fun hHeld => ?_)
       clear hK K'
       try simp only [Act.put, aS]
       refine wpAnyH_ready (rs := [5]) (by kernel_rfl) (by simp) ?_
       refine AllReadyH.cons (o := ⟨_, _, _, _, _, _⟩) rfl (fun K' hK => ?_) (AllReadyH.nil)
       go_simp
       have ht := take_any 1000000000000 (by decide) Gq ((c :: r)) v (((f.size : Nat) : Int)) Wl Vl (RQ) (by omega) (by omega)
       go_at_call 60
       refine ht.mono ?_
       clear ht
       rintro e w12 ⟨rfl, Vt, Ft⟩
       have Nt := Nl.fr Ft (fun e => by have := hlG _ e; omega)
       have hC12 := hCd.ofQ D ⟨v, Nt, Vt⟩ (Ft.mono (fun k hk => .inr hk))
       refine hK.out _ _ (show _ = _ from Nt.cell 0) (fun hHeld => ?_)
       clear hK K' hCd Vl Nl Ft
       try simp only [Act.put, aS]
       refine wpAnyH_done (by kernel_rfl) ?_ _
       clear hHeld hlG hNW Nt Vt
       go_wp2_with fail
       go_roundw
       case rel => exact ⟨_, _, _, _, _, rfl, hC12, g1, g3⟩
       case measure =>
        rw [hM.out, psiBox_eq hC12.rp, psiBox_eq hC12.rq]
        exact g2
      | false =>
       have HGD := Lib.hid hgd
       obtain ⟨g1, g2, g3⟩ := HS _ (step_fresh hQ HFE.out hfr HQQ.out (n := f.size) HFN.out)
       clear HS HN0
       rw [HGD.out, if_neg (by decide)] at g1 g2 g3
       rw [HMN.out] at g1 g2 g3
       rw [ext_none] at g1 g2 g3
       rw [ext_all] at g1 g2 g3
       have hc := put_any x (N + 2) (N + 3) lx f w9 hC9.mx (by have := bx.len; omega) (fun r hr => (bx.bnd r hr).1) (by omega)
       go_wp2_with fail
       refine hc.mono ?_
       clear hc
       rintro e w11 ⟨l11, rfl, M11, F11, G11⟩
       have hC11 := hC9.onX D M11 F11
       clear M11 F11 G11
       go_wp2_with fail
       obtain ⟨v, Nv, V⟩ := hC11.rq
       have c0 := Nv.cell 0
       have hlG : ∀ g, Gq = some g → g < N := fun g hg => by have := D.gq g hg; omega
       have hNW : N < w11.heap.size := hC11.rp.lt
       refine wp_region_held_drew (S := fun X => X.cell? ⟨N + 1, 0, none⟩ = some v) (by kernel_rfl) (show _ = _ from c0) (fun hHeld => ?_)
       refine wpAnyH_take (i := 0) (oi := ⟨_, _, _, _, _, _⟩) (v := ?_) rfl (by kernel_rfl) (by kernel_rfl) (by kernel_rfl) (fun _ _ _ h => h) (Or.inl ⟨by rfl, ?_⟩) hHeld ?_
       rotate_left
       ·intro w hSw
        try dsimp only at hSw
        go_simp
        all_goals (first | with_reducible rfl | rw [if_pos (by omega)])
       try simp only [Act.put, aS]
       refine wpAnyH_take (i := 1) (oi := ⟨_, _, _, _, _, _⟩) (v := ?_) rfl (by kernel_rfl) (by kernel_rfl) (by kernel_rfl) (fun _ _ _ h => h) (Or.inl ⟨by rfl, ?_⟩) hHeld ?_
       rotate_left
       ·intro w hSw
        try dsimp only at hSw
        go_simp
        all_goals (first | with_reducible rfl | rw [if_pos (by omega)])
       try simp only [Act.put, aS]
       refine wpAnyH_take (i := 2) (oi := ⟨_, _, _, _, _, _⟩) (v := ?_) rfl (by kernel_rfl) (by kernel_rfl) (by kernel_rfl) (fun _ _ _ h => h) (Or.inl ⟨by rfl, ?_⟩) hHeld ?_
       rotate_left
       ·intro w hSw
        try dsimp only at hSw
        go_simp
        all_goals (first | with_reducible rfl | rw [if_pos (by omega)])
       try simp only [Act.put, aS]
       have hCd := hC11.ext' ((Ext.refl w11).drew)
       obtain ⟨Wd, hWd⟩ : ∃ X, w11.drew = X := ⟨_, rfl⟩
       rw [hWd] at hHeld hCd
       rw [hWd]
       have hNd : w11.heap.size = Wd.heap.size := by rw [← hWd]; rfl
       have Vd : RowV Wd Gq ((c :: r)) v := by rw [← hWd]; exact V.fr (Fr.of_ext ((Ext.refl w11).drew) (fun _ => False)) (by simp)
       have Nd : NBox Wd (N + 1) 74 #[v] := by rw [← hWd]; exact Nv.ext ((Ext.refl w11).drew)
       clear hWd hC11 V Nv c0
       refine wpAnyH_ready (rs := [3]) (by kernel_rfl) (by simp) ?_
       refine AllReadyH.cons (o := ⟨_, _, _, _, _, _⟩) rfl (fun K' hK => ?_) (AllReadyH.nil)
       go_simp
       have hl := left_any Gq ((c :: r)) v Wd Vd (fun g hg => by have := hlG g hg; omega)
       rw [HSK.out, HRN.out] at hl
       go_at_call 61
       refine hl.mono ?_
       clear hl
       rintro e Wl ⟨rfl, hEl⟩
       have Vl := Vd.fr (Fr.of_ext hEl (fun _ => False)) (by simp)
       have Nl := Nd.ext hEl
       replace hCd := hCd.ext' hEl
       refine hK.out _ _ (show _ = _ from Nl.cell 0) (fun hHeld => ?_)
       clear hK K' Vd Nd hNd
       try simp only [Act.put, aS]
       refine wpAnyH_ready (rs := [4]) (by kernel_rfl) (by simp) ?_
       refine AllReadyH.cons (o := ⟨_, _, _, _, _, _⟩) rfl (fun K' hK => ?_) (AllReadyH.nil)
       go_simp
       refine hK.out _ _ hHeld (fun hHeld => ?_)
       clear hK K'
       try simp only [Act.put, aS]
       refine wpAnyH_ready (rs := [5]) (by kernel_rfl) (by simp) ?_
       refine AllReadyH.cons (o := ⟨_, _, _, _, _, _⟩) rfl (fun K' hK => ?_) (AllReadyH.nil)
       go_simp
       have ht := take_any 1000000000000 (by decide) Gq ((c :: r)) v (((f.size : Nat) : Int)) Wl Vl (RQ) (by omega) (by omega)
       go_at_call 60
       refine ht.mono ?_
       clear ht
       rintro e w12 ⟨rfl, Vt, Ft⟩
       have Nt := Nl.fr Ft (fun e => by have := hlG _ e; omega)
       have hC12 := hCd.ofQ D ⟨v, Nt, Vt⟩ (Ft.mono (fun k hk => .inr hk))
       refine hK.out _ _ (show _ = _ from Nt.cell 0) (fun hHeld => ?_)
       clear hK K' hCd Vl Nl Ft
       try simp only [Act.put, aS]
       refine wpAnyH_done (by kernel_rfl) ?_ _
       clear hHeld hlG hNW Nt Vt
       go_wp2_with fail
       go_roundw
       case rel => exact ⟨_, _, _, _, _, rfl, hC12, g1, g3⟩
       case measure =>
        rw [hM.out, psiBox_eq hC12.rp, psiBox_eq hC12.rq]
        exact g2
     ·have HFN : Hid (frN (c :: r) f = (kn : Int)) := Lib.hid (by unfold frN; rw [if_pos (by simp), HRN.out]; omega)
      have HMN : Hid (min (kn : Int) (rN (c :: r)) = (kn : Int)) := Lib.hid (by rw [HRN.out]; omega)
      have j3 : ((kn : Int) ≤ (f.size : Int)) := by omega
      have j4 : kn ≤ f.size := by omega
      cases hgd : rD (c :: r) with
      | true =>
       have HGD := Lib.hid hgd
       obtain ⟨g1, g2, g3⟩ := HS _ (step_fresh hQ HFE.out hfr HQQ.out (n := kn) HFN.out)
       clear HS HN0
       rw [HGD.out, if_pos rfl] at g1 g2 g3
       rw [HMN.out] at g1 g2 g3
       go_wp2_with fail
       obtain ⟨v, Nv, V⟩ := hC9.rq
       have c0 := Nv.cell 0
       have hlG : ∀ g, Gq = some g → g < N := fun g hg => by have := D.gq g hg; omega
       have hNW : N < w9.heap.size := hC9.rp.lt
       refine wp_region_held_drew (S := fun X => X.cell? ⟨N + 1, 0, none⟩ = some v) (by kernel_rfl) (show _ = _ from c0) (fun hHeld => ?_)
       refine wpAnyH_take (i := 0) (oi := ⟨_, _, _, _, _, _⟩) (v := ?_) rfl (by kernel_rfl) (by kernel_rfl) (by kernel_rfl) (fun _ _ _ h => h) (Or.inl ⟨by rfl, ?_⟩) hHeld ?_
       rotate_left
       ·intro w hSw
        try dsimp only at hSw
        go_simp
        all_goals (first | with_reducible rfl | rw [if_pos (by omega)])
       try simp only [Act.put, aS]
       refine wpAnyH_take (i := 1) (oi := ⟨_, _, _, _, _, _⟩) (v := ?_) rfl (by kernel_rfl) (by kernel_rfl) (by kernel_rfl) (fun _ _ _ h => h) (Or.inl ⟨by rfl, ?_⟩) hHeld ?_
       rotate_left
       ·intro w hSw
        try dsimp only at hSw
        go_simp
        all_goals (first | with_reducible rfl | rw [if_pos (by omega)])
       try simp only [Act.put, aS]
       refine wpAnyH_take (i := 2) (oi := ⟨_, _, _, _, _, _⟩) (v := ?_) rfl (by kernel_rfl) (by kernel_rfl) (by kernel_rfl) (fun _ _ _ h => h) (Or.inl ⟨by rfl, ?_⟩) hHeld ?_
       rotate_left
       ·intro w hSw
        try dsimp only at hSw
        go_simp
        all_goals (first | with_reducible rfl | rw [if_pos (by omega)])
       try simp only [Act.put, aS]
       have hCd := hC9.ext' ((Ext.refl w9).drew)
       obtain ⟨Wd, hWd⟩ : ∃ X, w9.drew = X := ⟨_, rfl⟩
       rw [hWd] at hHeld hCd
       rw [hWd]
       have hNd : w9.heap.size = Wd.heap.size := by rw [← hWd]; rfl
       have Vd : RowV Wd Gq ((c :: r)) v := by rw [← hWd]; exact V.fr (Fr.of_ext ((Ext.refl w9).drew) (fun _ => False)) (by simp)
       have Nd : NBox Wd (N + 1) 74 #[v] := by rw [← hWd]; exact Nv.ext ((Ext.refl w9).drew)
       clear hWd hC9 V Nv c0
       refine wpAnyH_ready (rs := [3]) (by kernel_rfl) (by simp) ?_
       refine AllReadyH.cons (o := ⟨_, _, _, _, _, _⟩) rfl (fun K' hK => ?_) (AllReadyH.nil)
       go_simp
       have hl := left_any Gq ((c :: r)) v Wd Vd (fun g hg => by have := hlG g hg; omega)
       rw [HSK.out, HRN.out] at hl
       go_at_call 61
       refine hl.mono ?_
       clear hl
       rintro e Wl ⟨rfl, hEl⟩
       have Vl := Vd.fr (Fr.of_ext hEl (fun _ => False)) (by simp)
       have Nl := Nd.ext hEl
       replace hCd := hCd.ext' hEl
       refine hK.out _ _ (show _ = _ from Nl.cell 0) (fun hHeld => ?_)
       clear hK K' Vd Nd hNd
       try simp only [Act.put, aS]
       refine wpAnyH_ready (rs := [4]) (by kernel_rfl) (by simp) ?_
       refine AllReadyH.cons (o := ⟨_, _, _, _, _, _⟩) rfl (fun K' hK => ?_) (AllReadyH.nil)
       go_simp
       refine hK.out _ _ hHeld (fun hHeld => ?_)
       clear hK K'
       try simp only [Act.put, aS]
       refine wpAnyH_ready (rs := [5]) (by kernel_rfl) (by simp) ?_
       refine AllReadyH.cons (o := ⟨_, _, _, _, _, _⟩) rfl (fun K' hK => ?_) (AllReadyH.nil)
       go_simp
       have ht := take_any 1000000000000 (by decide) Gq ((c :: r)) v ((kn : Int)) Wl Vl (RQ) (by omega) (by omega)
       go_at_call 60
       refine ht.mono ?_
       clear ht
       rintro e w12 ⟨rfl, Vt, Ft⟩
       have Nt := Nl.fr Ft (fun e => by have := hlG _ e; omega)
       have hC12 := hCd.ofQ D ⟨v, Nt, Vt⟩ (Ft.mono (fun k hk => .inr hk))
       refine hK.out _ _ (show _ = _ from Nt.cell 0) (fun hHeld => ?_)
       clear hK K' hCd Vl Nl Ft
       try simp only [Act.put, aS]
       refine wpAnyH_done (by kernel_rfl) ?_ _
       clear hHeld hlG hNW Nt Vt
       go_wp2_with fail
       go_roundw
       case rel => exact ⟨_, _, _, _, _, rfl, hC12, g1, g3⟩
       case measure =>
        rw [hM.out, psiBox_eq hC12.rp, psiBox_eq hC12.rq]
        exact g2
      | false =>
       have HGD := Lib.hid hgd
       obtain ⟨g1, g2, g3⟩ := HS _ (step_fresh hQ HFE.out hfr HQQ.out (n := kn) HFN.out)
       clear HS HN0
       rw [HGD.out, if_neg (by decide)] at g1 g2 g3
       rw [HMN.out] at g1 g2 g3
       have hc := put_any x (N + 2) (N + 3) lx (f.extract 0 kn) w9 hC9.mx (by have := bx.len; omega) (fun r hr => (bx.bnd r hr).1) (by rw [ByteArray.size_extract]; omega)
       go_wp2_with fail
       refine hc.mono ?_
       clear hc
       rintro e w11 ⟨l11, rfl, M11, F11, G11⟩
       have hC11 := hC9.onX D M11 F11
       clear M11 F11 G11
       go_wp2_with fail
       obtain ⟨v, Nv, V⟩ := hC11.rq
       have c0 := Nv.cell 0
       have hlG : ∀ g, Gq = some g → g < N := fun g hg => by have := D.gq g hg; omega
       have hNW : N < w11.heap.size := hC11.rp.lt
       refine wp_region_held_drew (S := fun X => X.cell? ⟨N + 1, 0, none⟩ = some v) (by kernel_rfl) (show _ = _ from c0) (fun hHeld => ?_)
       refine wpAnyH_take (i := 0) (oi := ⟨_, _, _, _, _, _⟩) (v := ?_) rfl (by kernel_rfl) (by kernel_rfl) (by kernel_rfl) (fun _ _ _ h => h) (Or.inl ⟨by rfl, ?_⟩) hHeld ?_
       rotate_left
       ·intro w hSw
        try dsimp only at hSw
        go_simp
        all_goals (first | with_reducible rfl | rw [if_pos (by omega)])
       try simp only [Act.put, aS]
       refine wpAnyH_take (i := 1) (oi := ⟨_, _, _, _, _, _⟩) (v := ?_) rfl (by kernel_rfl) (by kernel_rfl) (by kernel_rfl) (fun _ _ _ h => h) (Or.inl ⟨by rfl, ?_⟩) hHeld ?_
       rotate_left
       ·intro w hSw
        try dsimp only at hSw
        go_simp
        all_goals (first | with_reducible rfl | rw [if_pos (by omega)])
       try simp only [Act.put, aS]
       refine wpAnyH_take (i := 2) (oi := ⟨_, _, _, _, _, _⟩) (v := ?_) rfl (by kernel_rfl) (by kernel_rfl) (by kernel_rfl) (fun _ _ _ h => h) (Or.inl ⟨by rfl, ?_⟩) hHeld ?_
       rotate_left
       ·intro w hSw
        try dsimp only at hSw
        go_simp
        all_goals (first | with_reducible rfl | rw [if_pos (by omega)])
       try simp only [Act.put, aS]
       have hCd := hC11.ext' ((Ext.refl w11).drew)
       obtain ⟨Wd, hWd⟩ : ∃ X, w11.drew = X := ⟨_, rfl⟩
       rw [hWd] at hHeld hCd
       rw [hWd]
       have hNd : w11.heap.size = Wd.heap.size := by rw [← hWd]; rfl
       have Vd : RowV Wd Gq ((c :: r)) v := by rw [← hWd]; exact V.fr (Fr.of_ext ((Ext.refl w11).drew) (fun _ => False)) (by simp)
       have Nd : NBox Wd (N + 1) 74 #[v] := by rw [← hWd]; exact Nv.ext ((Ext.refl w11).drew)
       clear hWd hC11 V Nv c0
       refine wpAnyH_ready (rs := [3]) (by kernel_rfl) (by simp) ?_
       refine AllReadyH.cons (o := ⟨_, _, _, _, _, _⟩) rfl (fun K' hK => ?_) (AllReadyH.nil)
       go_simp
       have hl := left_any Gq ((c :: r)) v Wd Vd (fun g hg => by have := hlG g hg; omega)
       rw [HSK.out, HRN.out] at hl
       go_at_call 61
       refine hl.mono ?_
       clear hl
       rintro e Wl ⟨rfl, hEl⟩
       have Vl := Vd.fr (Fr.of_ext hEl (fun _ => False)) (by simp)
       have Nl := Nd.ext hEl
       replace hCd := hCd.ext' hEl
       refine hK.out _ _ (show _ = _ from Nl.cell 0) (fun hHeld => ?_)
       clear hK K' Vd Nd hNd
       try simp only [Act.put, aS]
       refine wpAnyH_ready (rs := [4]) (by kernel_rfl) (by simp) ?_
       refine AllReadyH.cons (o := ⟨_, _, _, _, _, _⟩) rfl (fun K' hK => ?_) (AllReadyH.nil)
       go_simp
       refine hK.out _ _ hHeld (fun hHeld => ?_)
       clear hK K'
       try simp only [Act.put, aS]
       refine wpAnyH_ready (rs := [5]) (by kernel_rfl) (by simp) ?_
       refine AllReadyH.cons (o := ⟨_, _, _, _, _, _⟩) rfl (fun K' hK => ?_) (AllReadyH.nil)
       go_simp
       have ht := take_any 1000000000000 (by decide) Gq ((c :: r)) v ((kn : Int)) Wl Vl (RQ) (by omega) (by omega)
       go_at_call 60
       refine ht.mono ?_
       clear ht
       rintro e w12 ⟨rfl, Vt, Ft⟩
       have Nt := Nl.fr Ft (fun e => by have := hlG _ e; omega)
       have hC12 := hCd.ofQ D ⟨v, Nt, Vt⟩ (Ft.mono (fun k hk => .inr hk))
       refine hK.out _ _ (show _ = _ from Nt.cell 0) (fun hHeld => ?_)
       clear hK K' hCd Vl Nl Ft
       try simp only [Act.put, aS]
       refine wpAnyH_done (by kernel_rfl) ?_ _
       clear hHeld hlG hNW Nt Vt
       go_wp2_with fail
       go_roundw
       case rel => exact ⟨_, _, _, _, _, rfl, hC12, g1, g3⟩
       case measure =>
        rw [hM.out, psiBox_eq hC12.rp, psiBox_eq hC12.rq]
        exact g2
end Go.Proofs.Ytkimbpeapolcbaa.Sy
