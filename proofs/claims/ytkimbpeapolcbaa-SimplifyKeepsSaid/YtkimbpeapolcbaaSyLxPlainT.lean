/- Chapter 10: LxCPlain turned to this seat. (Printed by gsyport.py.) -/
import Derived.Test.YtkimbpeapolcbaaBwWeighPlain
namespace Go.Proofs.Ytkimbpeapolcbaa.Sy
open Go.RowKit Go.Proofs.Ytkimbpeapolcbaa.Bw Go.Proofs.Ytkimbpeapolcbaa.Bs

structure CS where
 p : List Pc
 q : List Pc
 x : Mk
 f : ByteArray
/-- What is put next, if nothing is fresh. -/
def CS.fetch (s : CS) : CS := if 0 < s.f.size then s else { s with f := rPutS s.p, p := rPut s.p }
/-- How many fresh bytes go. -/
def frN (q : List Pc) (f : ByteArray) : Int := if 0 < q.length then min (rN q) f.size else f.size
def goC (gone : Bool) (n : Int) (x : Mk) : Mk := if gone then x.drop n else x.more n
def runN (p q : List Pc) : Int := bN p q
def CS.step (s : CS) : Option CS :=
 if 0 < (rPutS s.q).size then some { s with q := rPut s.q, x := s.x.put (rPutS s.q) }
 else
  let t := s.fetch
  let q := rSkip (rPut t.q)
  if 0 < t.f.size then
   let n := frN q t.f
   some { p := t.p, q := rTake (min n (rN q)) q, x := if rD q then t.x else t.x.put (t.f.extract 0 n.toNat), f := t.f.extract n.toNat t.f.size }
  else
   let p := rSkip t.p
   if rD p then some { p := rTake (rN p) p, q := q, x := t.x.drop (rN p), f := t.f }
   else if bSome p q then some { p := rTake (min (bN p q) (rN p)) p, q := rTake (min (bN p q) (rN q)) q, x := goC (rD q) (bN p q) t.x, f := t.f }
   else none
def cRun : Nat → CS → Mk
 | 0, s => s.x
 | k + 1, s => match s.step with
  | none => s.x
  | some t => cRun k t
def psi1 (p : Pc) : Nat := phi1 p + (if 0 < p.put.size then 1 else 0)
def psi : List Pc → Nat
 | [] => 0
 | p :: r => psi1 p + psi r
def one (f : ByteArray) : Nat := if 0 < f.size then 1 else 0
def CS.psi (s : CS) : Nat := Sy.psi s.p + Sy.psi s.q + one s.f
theorem psi_le : ∀ l : List Pc, psi l ≤ 3 * l.length
 | [] => Nat.le_refl _
 | p :: r => by
  have := psi_le r
  have : phi1 p ≤ 2 := by unfold phi1; split <;> split <;> omega
  have : psi1 p ≤ 3 := by unfold psi1; split <;> omega
  show psi1 p + psi r ≤ 3 * (r.length + 1)
  omega
theorem psi_put : ∀ l : List Pc, psi (rPut l) + one (rPutS l) = psi l
 | [] => rfl
 | p :: r => by
  simp only [rPut, rPutS]
  split
  ·show psi1 p + psi r + one ⟨#[]⟩ = _; rfl
  ·show phi1 p + 0 + psi r + one p.put = phi1 p + one p.put + psi r
   omega
theorem psi_skip : ∀ l : List Pc, psi (rSkip l) ≤ psi l
 | [] => Nat.le_refl _
 | p :: r => by
  simp only [rSkip]
  split
  ·exact Nat.le_refl _
  ·have := psi_skip r
   show _ ≤ psi1 p + psi r
   omega
theorem psi_take {l : List Pc} {n : Int} (hn : l ≠ [] → 0 ≤ n ∧ n ≤ rN l) : psi (rTake n l) ≤ psi l := by
 cases l with
 | nil => exact Nat.le_refl _
 | cons p r =>
  have h := phi_take (l := [p]) (n := n) (fun _ => hn (by simp))
  simp only [rTake] at h ⊢
  split
  ·rename_i hk
   rw [if_pos hk] at h
   show phi1 _ + _ + psi r ≤ phi1 p + _ + psi r
   have h : phi1 { p with keep := p.keep - n } + 0 ≤ phi1 p + 0 := h
   simp only at h ⊢
   omega
  ·rename_i hk
   rw [if_neg hk] at h
   have h : phi1 { p with drop := p.drop - n } + 0 ≤ phi1 p + 0 := h
   show phi1 _ + _ + psi r ≤ phi1 p + _ + psi r
   simp only at h ⊢
   omega
theorem psi_take_lt {l : List Pc} (hn : 0 < rN l) : psi (rTake (rN l) l) < psi l := by
 cases l with
 | nil => exact absurd hn (by show ¬ (0 : Int) < 0; omega)
 | cons p r =>
  have h := phi_take_lt (l := [p]) hn
  have e : rN [p] = rN (p :: r) := rfl
  rw [e] at h
  simp only [rTake] at h ⊢
  split
  ·rename_i hk
   rw [if_pos hk] at h
   have h : phi1 { p with keep := p.keep - rN (p :: r) } + 0 < phi1 p + 0 := h
   show phi1 _ + _ + psi r < phi1 p + _ + psi r
   simp only at h ⊢
   omega
  ·rename_i hk
   rw [if_neg hk] at h
   have h : phi1 { p with drop := p.drop - rN (p :: r) } + 0 < phi1 p + 0 := h
   show phi1 _ + _ + psi r < phi1 p + _ + psi r
   simp only at h ⊢
   omega
/-- What holds of the state all the time. -/
structure CS.Ok (s : CS) (T : Int) (L : Nat) : Prop where
 np : Nn s.p
 nq : Nn s.q
 nx : NnM s.x
 tx : wtM s.x + wt s.p + wt s.q + s.f.size ≤ T
 lx : s.x.l.length + s.psi ≤ L
theorem rN_le_wt {l : List Pc} (h : Nn l) : rN l ≤ wt l ∧ 0 ≤ rN l := by
 cases l with
 | nil => exact ⟨Int.le_refl _, Int.le_refl _⟩
 | cons p r =>
  obtain ⟨h1, h2⟩ := h p List.mem_cons_self
  have := wt_nn h.tail
  simp only [rN]
  split
  ·exact ⟨by show _ ≤ p.keep + p.drop + p.put.size + wt r; omega, by omega⟩
  ·exact ⟨by show _ ≤ p.keep + p.drop + p.put.size + wt r; omega, by omega⟩
theorem wt_take' {l : List Pc} {n : Int} (hn : l = [] → n = 0) : wt (rTake n l) = wt l - n := by
 cases l with
 | nil => rw [hn rfl]; rfl
 | cons p r => exact wt_take (by simp)
theorem CS.Ok.fetch {s : CS} {T : Int} {L : Nat} (h : s.Ok T L) : s.fetch.Ok T L ∧ s.fetch.x = s.x ∧ s.fetch.q = s.q ∧ s.fetch.psi = s.psi := by
 unfold CS.fetch
 split
 ·exact ⟨h, rfl, rfl, rfl⟩
 ·rename_i hf
  have e1 := wt_put s.p
  have e2 := psi_put s.p
  obtain ⟨h1, h2, h3, h4, h5⟩ := h
  have hf0 : s.f.size = 0 := by omega
  have hps : ({ s with f := rPutS s.p, p := rPut s.p } : CS).psi = s.psi := by
   show Sy.psi (rPut s.p) + Sy.psi s.q + one (rPutS s.p) = Sy.psi s.p + Sy.psi s.q + one s.f
   have : one s.f = 0 := by unfold one; rw [if_neg hf]
   omega
  refine ⟨⟨h1.put, h2, h3, ?_, ?_⟩, rfl, rfl, hps⟩
  ·show wtM s.x + wt (rPut s.p) + wt s.q + (rPutS s.p).size ≤ T
   omega
  ·show s.x.l.length + CS.psi _ ≤ L
   rw [hps]; exact h5
theorem goC_nn {g : Bool} {n : Int} {x : Mk} (h : NnM x) (h0 : 0 ≤ n) : NnM (goC g n x) := by
 unfold goC; split
 ·exact h.drop n
 ·exact h.more h0
theorem goC_wt {g : Bool} {n : Int} {x : Mk} (h0 : 0 ≤ n) : wtM (goC g n x) = wtM x + n := by
 unfold goC; split
 ·exact wtM_drop x n h0
 ·exact wtM_more x n
theorem goC_len (g : Bool) (n : Int) (x : Mk) : (goC g n x).l.length ≤ x.l.length + 1 := by
 unfold goC; split
 ·exact x.drop_len n
 ·exact Nat.le_succ _
theorem bN_facts {p q : List Pc} (hp : Nn p) (hq : Nn q) : 0 ≤ bN p q ∧ (p ≠ [] → bN p q ≤ rN p) ∧ (q ≠ [] → bN p q ≤ rN q) ∧ (bSome p q = true → (p ≠ [] ∧ bN p q = rN p) ∨ (q ≠ [] ∧ bN p q = rN q)) := by
 have h1 := rN_le_wt hp
 have h2 := rN_le_wt hq
 cases p with
 | nil =>
  cases q with
  | nil => exact ⟨Int.le_refl _, fun h => absurd rfl h, fun h => absurd rfl h, fun h => absurd h (by decide)⟩
  | cons y t => rw [bN_nil]; exact ⟨h2.2, fun h => absurd rfl h, fun _ => Int.le_refl _, fun _ => .inr ⟨by simp, rfl⟩⟩
 | cons x r =>
  cases q with
  | nil => rw [bN_nil']; exact ⟨h1.2, fun _ => Int.le_refl _, fun h => absurd rfl h, fun _ => .inl ⟨by simp, rfl⟩⟩
  | cons y t =>
   rw [bN_cons]
   refine ⟨by omega, fun _ => by omega, fun _ => by omega, fun _ => ?_⟩
   rcases Int.lt_or_le (rN (y :: t)) (rN (x :: r)) with hm | hm
   ·exact .inr ⟨by simp, by omega⟩
   ·exact .inl ⟨by simp, by omega⟩
theorem min_rN {p : List Pc} {n : Int} (_hp : Nn p) (h0 : 0 ≤ n) (h : p ≠ [] → n ≤ rN p) : (p ≠ [] → min n (rN p) = n) ∧ (p = [] → min n (rN p) = 0) := by
 constructor
 ·intro hne
  have := h hne
  omega
 ·intro he
  rw [he]
  show min n 0 = 0
  omega
theorem min_zero {p : List Pc} {n : Int} (h0 : 0 ≤ n) (h : p = []) : min n (rN p) = 0 := by
 rw [h]
 show min n 0 = 0
 omega
/-- A row, taken from: what it loses. -/
theorem take_facts {p : List Pc} {n : Int} (hp : Nn p) (h0 : 0 ≤ n) (h : p ≠ [] → n ≤ rN p) : Nn (rTake (min n (rN p)) p) ∧ Sy.psi (rTake (min n (rN p)) p) ≤ Sy.psi p ∧ wt (rTake (min n (rN p)) p) = wt p - (if p = [] then 0 else n) ∧ (0 < rN p → n = rN p → Sy.psi (rTake (min n (rN p)) p) < Sy.psi p) := by
 by_cases he : p = []
 ·have e := min_zero h0 he
  rw [e]
  subst he
  exact ⟨hp, Nat.le_refl _, rfl, fun h => absurd h (by show ¬ (0 : Int) < 0; omega)⟩
 ·have hn := h he
  have e : min n (rN p) = n := by omega
  rw [e, if_neg he]
  exact ⟨hp.take (fun _ => hn), psi_take (fun _ => ⟨h0, hn⟩), wt_take he, fun h1 h2 => by rw [h2]; exact psi_take_lt h1⟩
set_option maxHeartbeats 1000000 in
theorem CS.step_ok {s t : CS} {T : Int} {L : Nat} (h : s.Ok T L) (hs : s.step = some t) : t.Ok T L ∧ t.psi < s.psi := by
 unfold CS.step at hs
 by_cases h1 : 0 < (rPutS s.q).size
 ·rw [if_pos h1] at hs
  obtain rfl := Option.some.inj hs
  have e1 := wt_put s.q
  have e2 := psi_put s.q
  have e3 : one (rPutS s.q) = 1 := if_pos h1
  have e4 := wtM_put s.x (rPutS s.q)
  have e5 := Mk.put_len s.x (rPutS s.q)
  obtain ⟨a1, a2, a3, a4, a5⟩ := h
  have hlt : CS.psi ⟨s.p, rPut s.q, s.x.put (rPutS s.q), s.f⟩ < s.psi := by
   show Sy.psi s.p + Sy.psi (rPut s.q) + one s.f < Sy.psi s.p + Sy.psi s.q + one s.f
   omega
  refine ⟨⟨a1, a2.put, a3.put _, ?_, ?_⟩, hlt⟩
  ·show wtM (s.x.put _) + wt s.p + wt (rPut s.q) + s.f.size ≤ T
   omega
  ·show (s.x.put _).l.length + CS.psi _ ≤ L
   omega
 ·rw [if_neg h1] at hs
  obtain ⟨ok, ex, eq, eps⟩ := h.fetch
  rw [← eps]
  generalize s.fetch = u at *
  clear ex eq eps h1 h
  dsimp only at hs
  obtain ⟨a1, a2, a3, a4, a5⟩ := ok
  have q1 := a2.put.skip
  have q2 := wt_skip a2.put
  have q3 := wt_put u.q
  have q4 := psi_skip (rPut u.q)
  have q5 := psi_put u.q
  have q6 := wt_nn q1
  have q7 := rN_le_wt q1
  generalize hq : rSkip (rPut u.q) = q at *
  have q8 : q ≠ [] → 0 < rN q := fun h => by rw [← hq] at h ⊢; exact rN_skip_pos h
  have pw := wt_nn a1
  by_cases h2 : 0 < u.f.size
  ·have e1 : one u.f = 1 := if_pos h2
   have hf0 : 0 ≤ frN q u.f ∧ frN q u.f ≤ u.f.size ∧ (q ≠ [] → frN q u.f ≤ rN q) ∧ (frN q u.f = u.f.size ∨ (q ≠ [] ∧ frN q u.f = rN q)) ∧ 0 < frN q u.f := by
    unfold frN
    by_cases hne : q = []
    ·rw [if_neg (by rw [hne]; simp)]
     exact ⟨by omega, Int.le_refl _, fun h => absurd hne h, .inl rfl, by omega⟩
    ·have := q8 hne
     rw [if_pos (by cases q; exact absurd rfl hne; simp)]
     refine ⟨by omega, by omega, fun _ => by omega, ?_, by omega⟩
     by_cases hm : rN q ≤ u.f.size
     ·exact .inr ⟨hne, by omega⟩
     ·exact .inl (by omega)
   obtain ⟨f0, f1, f2, f3, f4⟩ := hf0
   simp only [h2, if_true] at hs
   obtain rfl := Option.some.inj hs
   obtain ⟨t1, t2, t3, t4⟩ := take_facts q1 f0 f2
   have s1 : ((u.f.extract (frN q u.f).toNat u.f.size).size : Int) = u.f.size - frN q u.f := by rw [ByteArray.size_extract]; omega
   have s2 : ((u.f.extract 0 (frN q u.f).toNat).size : Int) = frN q u.f := by rw [ByteArray.size_extract]; omega
   have hx : NnM (if rD q then u.x else u.x.put (u.f.extract 0 (frN q u.f).toNat)) ∧ wtM (if rD q then u.x else u.x.put (u.f.extract 0 (frN q u.f).toNat)) ≤ wtM u.x + frN q u.f ∧ (if rD q then u.x else u.x.put (u.f.extract 0 (frN q u.f).toNat)).l.length ≤ u.x.l.length + 1 := by
    split
    ·exact ⟨a3, by omega, Nat.le_succ _⟩
    ·exact ⟨a3.put _, by rw [wtM_put]; omega, Mk.put_len _ _⟩
   have hlt : CS.psi ⟨u.p, rTake (min (frN q u.f) (rN q)) q, if rD q then u.x else u.x.put (u.f.extract 0 (frN q u.f).toNat), u.f.extract (frN q u.f).toNat u.f.size⟩ < u.psi := by
    show Sy.psi u.p + Sy.psi (rTake (min (frN q u.f) (rN q)) q) + one (u.f.extract (frN q u.f).toNat u.f.size) < Sy.psi u.p + Sy.psi u.q + one u.f
    have ho : one (u.f.extract (frN q u.f).toNat u.f.size) ≤ 1 := by unfold one; split <;> omega
    rcases f3 with g | ⟨g1, g2⟩
    ·have : one (u.f.extract (frN q u.f).toNat u.f.size) = 0 := if_neg (by omega)
     omega
    ·have := t4 (q8 g1) g2
     omega
   refine ⟨⟨a1, t1, hx.1, ?_, ?_⟩, hlt⟩
   ·show wtM (if rD q then u.x else u.x.put (u.f.extract 0 (frN q u.f).toNat)) + wt u.p + wt (rTake (min (frN q u.f) (rN q)) q) + ((u.f.extract (frN q u.f).toNat u.f.size).size : Int) ≤ T
    have : wt (rTake (min (frN q u.f) (rN q)) q) ≤ wt q := by
     rw [t3]; split <;> omega
    omega
   ·exact Nat.le_trans (Nat.add_le_add_right hx.2.2 _) (Nat.le_trans (by rw [Nat.add_assoc]; exact Nat.add_le_add_left (by rw [Nat.add_comm]; exact hlt) _) a5)
  ·simp only [h2, if_false] at hs
   have p1 := a1.skip
   have p2 := wt_skip a1
   have p4 := psi_skip u.p
   have p6 := wt_nn p1
   have p7 := rN_le_wt p1
   generalize hp : rSkip u.p = p at *
   have p8 : p ≠ [] → 0 < rN p := fun h => by rw [← hp] at h ⊢; exact rN_skip_pos h
   by_cases h3 : rD p = true
   ·simp only [h3, if_true] at hs
    obtain rfl := Option.some.inj hs
    have hne : p ≠ [] := fun h => by rw [h] at h3; exact absurd h3 (by decide)
    have hpos := p8 hne
    have l1 := psi_take_lt hpos
    have l2 := wt_take (n := rN p) hne
    have l3 := wtM_drop u.x (rN p) (by omega)
    have l4 := u.x.drop_len (rN p)
    have hlt : CS.psi ⟨rTake (rN p) p, q, u.x.drop (rN p), u.f⟩ < u.psi := by
     show Sy.psi (rTake (rN p) p) + Sy.psi q + one u.f < Sy.psi u.p + Sy.psi u.q + one u.f
     omega
    refine ⟨⟨p1.take (fun _ => Int.le_refl _), q1, a3.drop _, ?_, ?_⟩, hlt⟩
    ·show wtM (u.x.drop _) + wt (rTake _ p) + wt q + u.f.size ≤ T
     omega
    ·show (u.x.drop _).l.length + CS.psi _ ≤ L
     omega
   ·simp only [h3] at hs
    by_cases h4 : bSome p q = true
    ·simp only [h4, if_true] at hs
     obtain rfl := Option.some.inj hs
     obtain ⟨b0, b1, b2, b3⟩ := bN_facts p1 q1
     obtain ⟨t1, t2, t3, t4⟩ := take_facts p1 b0 b1
     obtain ⟨r1, r2, r3, r4⟩ := take_facts q1 b0 b2
     have c1 := goC_wt (g := rD q) (x := u.x) b0
     have c2 := goC_len (rD q) (bN p q) u.x
     have hlt : CS.psi ⟨rTake (min (bN p q) (rN p)) p, rTake (min (bN p q) (rN q)) q, goC (rD q) (bN p q) u.x, u.f⟩ < u.psi := by
      show Sy.psi (rTake (min (bN p q) (rN p)) p) + Sy.psi (rTake (min (bN p q) (rN q)) q) + one u.f < Sy.psi u.p + Sy.psi u.q + one u.f
      rcases b3 h4 with ⟨g1, g2⟩ | ⟨g1, g2⟩
      ·have := t4 (p8 g1) g2; omega
      ·have := r4 (q8 g1) g2; omega
     refine ⟨⟨t1, r1, goC_nn a3 b0, ?_, ?_⟩, hlt⟩
     ·show wtM (goC _ _ _) + wt (rTake _ p) + wt (rTake _ q) + u.f.size ≤ T
      have hw : wt (rTake (min (bN p q) (rN p)) p) + wt (rTake (min (bN p q) (rN q)) q) + bN p q ≤ wt p + wt q := by
       rcases b3 h4 with ⟨g1, g2⟩ | ⟨g1, g2⟩
       ·rw [t3, r3, if_neg g1]; split <;> omega
       ·rw [t3, r3, if_neg g1]; split <;> omega
      omega
     ·show (goC _ _ _).l.length + CS.psi _ ≤ L
      omega
    ·simp only [h4] at hs
     exact absurd hs (by simp)
end Go.Proofs.Ytkimbpeapolcbaa.Sy
namespace Go.Proofs.Ytkimbpeapolcbaa.Sy
open Go.RowKit Go.Proofs.Ytkimbpeapolcbaa.Bw Go.Proofs.Ytkimbpeapolcbaa.Bs

def trS (prior : Bool) (a b : List Pc) : St := tRun prior ((St.mk (normL a) (normL b) ⟨[], 0⟩ ⟨[], 0⟩).phi + 1) ⟨normL a, normL b, ⟨[], 0⟩, ⟨[], 0⟩⟩
def trE (prior : Bool) (a b : List Pc) : Int := if pcsRight a && pcsRight b then (if pcsRight (trS prior a b).x.l && pcsRight (trS prior a b).y.l then 0 else 3) else 2
def trX (prior : Bool) (a b : List Pc) : List Pc := if trE prior a b = 0 then (trS prior a b).x.l else []
def trY (prior : Bool) (a b : List Pc) : List Pc := if trE prior a b = 0 then (trS prior a b).y.l else []
def posV : Option Value → Nat
 | some (.int _ k) => if 0 < k then 1 else 0
 | _ => 0
def phiAt (w : World) (g : Nat) : Nat → Nat → Nat
 | _, 0 => 0
 | off, n + 1 => posV (w.cell? ⟨g, off, none⟩) + posV (w.cell? ⟨g, off + 1, none⟩) + phiAt w g (off + 3) n
def phiBox (w : World) (B : Nat) : Nat := match w.cell? ⟨B, 0, none⟩ with
 | some (.slice (some a) n _) => phiAt w a.block a.off n
 | _ => 0
theorem phiAt_eq {w : World} {g : Nat} : ∀ {l : List Pc} {off : Nat}, rdPcs w g off l → phiAt w g off l.length = phi l
 | [], _, _ => rfl
 | p :: r, off, ⟨h1, h2, _, _, h5⟩ => by
  show posV _ + posV _ + phiAt w g (off + 3) r.length = phi1 p + phi r
  rw [h1, h2, phiAt_eq h5]
  rfl
theorem phiBox_eq {w : World} {B : Nat} {G : Option Nat} {l : List Pc} (h : RowAt w B G l) : phiBox w B = phi l := by
 obtain ⟨v, hN, A, c, rfl, h1, h2, h3⟩ := h
 have c0 := hN.cell 0
 unfold phiBox
 rw [c0]
 cases l with
 | nil => cases A <;> rfl
 | cons p r =>
  obtain ⟨g, off, cur, _, rfl, _, hr⟩ := h3 (by simp)
  exact phiAt_eq hr
end Go.Proofs.Ytkimbpeapolcbaa.Sy
namespace Go.Proofs.Ytkimbpeapolcbaa.Sy
open Go.RowKit Go.Proofs.Ytkimbpeapolcbaa.Bw Go.Proofs.Ytkimbpeapolcbaa.Bs

theorem onLast_onLast (f g : Pc → Pc) : ∀ l : List Pc, onLast g (onLast f l) = onLast (fun p => g (f p)) l
 | [] => rfl
 | [_] => rfl
 | x :: y :: r => by
  have h := onLast_onLast f g (y :: r)
  have hne : onLast f (y :: r) ≠ [] := by
   intro h0
   have := onLast_len f (y :: r)
   rw [h0] at this; simp at this
  obtain ⟨z, t, hzt⟩ := List.exists_cons_of_ne_nil hne
  show onLast g (x :: onLast f (y :: r)) = x :: onLast (fun p => g (f p)) (y :: r)
  rw [← h, hzt]
  rfl
theorem onLast_ne {f : Pc → Pc} {l : List Pc} (h : l ≠ []) : onLast f l ≠ [] := by
 intro h0
 have := onLast_len f l
 rw [h0] at this
 exact h (List.eq_nil_of_length_eq_zero (by simpa using this.symm))
theorem onLast_id {f : Pc → Pc} (hf : ∀ p, f p = p) : ∀ l : List Pc, onLast f l = l
 | [] => rfl
 | [p] => by show [f p] = _; rw [hf]
 | x :: y :: r => by show x :: onLast f (y :: r) = _; rw [onLast_id hf]
theorem bytes_empty {s : ByteArray} (h : s.size = 0) : s = ⟨#[]⟩ := by
 obtain ⟨d⟩ := s
 congr
 exact Array.eq_empty_of_size_eq_zero h
theorem append_none {s t : ByteArray} (h : t.size = 0) : s ++ t = s := by
 rw [bytes_empty h]; exact ByteArray.append_empty
/-- What the document does with a piece. -/
theorem piece_ref (m : Mk) (p : Pc) (hk : 0 ≤ m.keep) (hp : 0 ≤ p.keep) (hd : 0 ≤ p.drop) : m.piece p =
  if p.put.size = 0 ∧ p.drop = 0 then m.more p.keep
  else if m.keep + p.keep = 0 ∧ m.l ≠ [] then ⟨onLast (fun q => { q with put := q.put ++ p.put, drop := q.drop + p.drop }) m.l, 0⟩
  else ⟨m.l ++ [⟨m.keep + p.keep, p.drop, p.put⟩], 0⟩ := by
 rw [Mk.piece_eq]
 obtain ⟨l, k⟩ := m
 obtain ⟨pk, pd, pp⟩ := p
 simp only at hk hp hd ⊢
 have hK : 0 ≤ k + pk := by omega
 show ((Mk.mk l (k + pk)).put pp).drop pd = _
 by_cases h1 : pp.size = 0
 ·have hput : (Mk.mk l (k + pk)).put pp = ⟨l, k + pk⟩ := if_neg (by omega)
  rw [hput]
  by_cases h2 : pd = 0
  ·rw [if_pos ⟨h1, h2⟩]
   exact if_neg (by omega)
  ·rw [if_neg (fun h => h2 h.2)]
   have hdr : (Mk.mk l (k + pk)).drop pd = ⟨onLast (fun p => { p with drop := p.drop + pd }) (Mk.mk l (k + pk)).last.l, (Mk.mk l (k + pk)).last.keep⟩ := if_pos (by omega)
   rw [hdr]
   by_cases h3 : k + pk = 0 ∧ l ≠ []
   ·rw [if_pos h3]
    have hl : (Mk.mk l (k + pk)).last = ⟨l, k + pk⟩ := if_neg (fun h => h.elim (fun h => by have := h3.1; simp only at h; omega) (fun h => h3.2 h))
    rw [hl, h3.1]
    simp only [append_none h1]
   ·rw [if_neg h3]
    have hl : (Mk.mk l (k + pk)).last = ⟨l ++ [⟨k + pk, 0, ⟨#[]⟩⟩], 0⟩ := if_pos (by
     by_cases h : l = []
     ·exact .inr h
     ·exact .inl (by show 0 < k + pk; have : ¬ (k + pk = 0) := fun h' => h3 ⟨h', h⟩; omega))
    rw [hl, onLast_snoc, bytes_empty h1]
    simp
 ·rw [if_neg (fun h => h1 h.1)]
  have hput : (Mk.mk l (k + pk)).put pp = ⟨onLast (fun p => { p with put := p.put ++ pp }) (Mk.mk l (k + pk)).last.l, (Mk.mk l (k + pk)).last.keep⟩ := if_pos (by omega)
  by_cases h3 : k + pk = 0 ∧ l ≠ []
  ·rw [if_pos h3]
   have hl : (Mk.mk l (k + pk)).last = ⟨l, k + pk⟩ := if_neg (fun h => h.elim (fun h => by have := h3.1; simp only at h; omega) (fun h => h3.2 h))
   rw [hput, hl, h3.1]
   by_cases h2 : pd = 0
   ·have hdr : (Mk.mk (onLast (fun p => { p with put := p.put ++ pp }) l) 0).drop pd = ⟨onLast (fun p => { p with put := p.put ++ pp }) l, 0⟩ := if_neg (by omega)
    rw [hdr, h2]
    simp
   ·have hdr : (Mk.mk (onLast (fun p => { p with put := p.put ++ pp }) l) 0).drop pd = ⟨onLast (fun p => { p with drop := p.drop + pd }) (Mk.mk (onLast (fun p => { p with put := p.put ++ pp }) l) 0).last.l, (Mk.mk (onLast (fun p => { p with put := p.put ++ pp }) l) 0).last.keep⟩ := if_pos (by omega)
    have hl2 : (Mk.mk (onLast (fun p => { p with put := p.put ++ pp }) l) 0).last = ⟨onLast (fun p => { p with put := p.put ++ pp }) l, 0⟩ := if_neg (fun h => h.elim (fun h => by simp only at h; omega) (fun h => onLast_ne h3.2 h))
    rw [hdr, hl2, onLast_onLast]
  ·rw [if_neg h3]
   have hl : (Mk.mk l (k + pk)).last = ⟨l ++ [⟨k + pk, 0, ⟨#[]⟩⟩], 0⟩ := if_pos (by
    by_cases h : l = []
    ·exact .inr h
    ·exact .inl (by show 0 < k + pk; have : ¬ (k + pk = 0) := fun h' => h3 ⟨h', h⟩; omega))
   rw [hput, hl, onLast_snoc]
   have e0 : (⟨#[]⟩ : ByteArray) ++ pp = pp := ByteArray.empty_append
   simp only [e0]
   by_cases h2 : pd = 0
   ·have hdr : (Mk.mk (l ++ [⟨k + pk, 0, pp⟩]) 0).drop pd = ⟨l ++ [⟨k + pk, 0, pp⟩], 0⟩ := if_neg (by omega)
    rw [hdr, h2]
   ·have hdr : (Mk.mk (l ++ [⟨k + pk, 0, pp⟩]) 0).drop pd = ⟨onLast (fun p => { p with drop := p.drop + pd }) (Mk.mk (l ++ [⟨k + pk, 0, pp⟩]) 0).last.l, (Mk.mk (l ++ [⟨k + pk, 0, pp⟩]) 0).last.keep⟩ := if_pos (by omega)
    have hl2 : (Mk.mk (l ++ [⟨k + pk, 0, pp⟩]) 0).last = ⟨l ++ [⟨k + pk, 0, pp⟩], 0⟩ := if_neg (fun h => h.elim (fun h => by simp only at h; omega) (fun h => by simp at h))
    rw [hdr, hl2, onLast_snoc]
    simp
end Go.Proofs.Ytkimbpeapolcbaa.Sy
namespace Go.Proofs.Ytkimbpeapolcbaa.Sy
open Go.RowKit Go.Proofs.Ytkimbpeapolcbaa.Bw Go.Proofs.Ytkimbpeapolcbaa.Bs

abbrev Vw := List (ByteArray × Bool)
def nextR (p : List Pc) : List Pc := rTake 1 (rSkip (rPut p))
def hereR (p : List Pc) : ByteArray × Bool := (rPutS p, rD (rSkip (rPut p)))
def vwF : List Pc → Nat → Vw
 | p, 0 => [hereR p]
 | p, N + 1 => hereR p :: vwF (nextR p) N
/-- What the document puts together at one place. -/
def bhStep (first : Bool) (a b : ByteArray × Bool) : List Pc :=
 (if first then [⟨0, 0, a.1⟩, ⟨b.1.size, 0, ⟨#[]⟩⟩] else [⟨b.1.size, 0, ⟨#[]⟩⟩, ⟨0, 0, a.1⟩]) ++ (if b.2 then [] else if a.2 then [⟨0, 1, ⟨#[]⟩⟩] else [⟨1, 0, ⟨#[]⟩⟩])
def bhP (first : Bool) : Vw → Vw → List Pc
 | a :: r, b :: s => bhStep first a b ++ bhP first r s
 | _, _ => []
def St.go1 (s : St) : St := ⟨rTake 1 (rSkip s.p), rTake 1 (rSkip s.q), goX (rD (rSkip s.p)) (rD (rSkip s.q)) 1 s.x, goX (rD (rSkip s.q)) (rD (rSkip s.p)) 1 s.y⟩
def uRun (prior : Bool) : Nat → St → St
 | 0, s => (s.puts prior).go1
 | N + 1, s => uRun prior N (s.puts prior).go1
theorem pieces_append (m : Mk) : ∀ (a b : List Pc), m.pieces (a ++ b) = (m.pieces a).pieces b := by
 intro a b
 induction a generalizing m with
 | nil => rfl
 | cons p r ih => exact ih (m.piece p)
theorem more_zero (m : Mk) : m.more 0 = m := by
 obtain ⟨l, k⟩ := m
 show Mk.mk l (k + 0) = _
 rw [Int.add_zero]
theorem put_none (m : Mk) {s : ByteArray} (h : s.size = 0) : m.put s = m := if_neg (by omega)
theorem drop_zero_ (m : Mk) : m.drop 0 = m := if_neg (by omega)
theorem piece_put (m : Mk) (s : ByteArray) : m.piece ⟨0, 0, s⟩ = m.put s := by
 rw [Mk.piece_eq]
 show ((m.more 0).put s).drop 0 = _
 rw [more_zero, drop_zero_]
theorem piece_keep (m : Mk) (k : Int) : m.piece ⟨k, 0, ⟨#[]⟩⟩ = m.more k := by
 rw [Mk.piece_eq]
 show ((m.more k).put ⟨#[]⟩).drop 0 = _
 rw [put_none _ rfl, drop_zero_]
theorem piece_drop (m : Mk) (n : Int) : m.piece ⟨0, n, ⟨#[]⟩⟩ = m.drop n := by
 rw [Mk.piece_eq]
 show ((m.more 0).put ⟨#[]⟩).drop n = _
 rw [more_zero, put_none _ rfl]
theorem step_x (prior : Bool) (m : Mk) (a b : ByteArray × Bool) : m.pieces (bhStep prior a b) = goX a.2 b.2 1 (putsX prior a.1 b.1 m) := by
 obtain ⟨a1, a2⟩ := a
 obtain ⟨b1, b2⟩ := b
 cases prior <;> cases a2 <;> cases b2 <;> simp [bhStep, goX, putsX, Mk.pieces, piece_put, piece_keep, piece_drop]
theorem step_y (prior : Bool) (m : Mk) (a b : ByteArray × Bool) : m.pieces (bhStep (!prior) b a) = goX b.2 a.2 1 (putsY prior a.1 b.1 m) := by
 obtain ⟨a1, a2⟩ := a
 obtain ⟨b1, b2⟩ := b
 cases prior <;> cases a2 <;> cases b2 <;> simp [bhStep, goX, putsY, Mk.pieces, piece_put, piece_keep, piece_drop]
theorem uRun_x (prior : Bool) : ∀ (N : Nat) (s : St), (uRun prior N s).x = s.x.pieces (bhP prior (vwF s.p N) (vwF s.q N)) ∧ (uRun prior N s).y = s.y.pieces (bhP (!prior) (vwF s.q N) (vwF s.p N))
 | 0, s => by
  constructor
  ·show _ = s.x.pieces (bhStep prior (hereR s.p) (hereR s.q) ++ [])
   rw [List.append_nil, step_x]
   rfl
  ·show _ = s.y.pieces (bhStep (!prior) (hereR s.q) (hereR s.p) ++ [])
   rw [List.append_nil, step_y]
   rfl
 | N + 1, s => by
  obtain ⟨h1, h2⟩ := uRun_x prior N (s.puts prior).go1
  constructor
  ·show (uRun prior N (s.puts prior).go1).x = s.x.pieces (bhStep prior (hereR s.p) (hereR s.q) ++ bhP prior (vwF (nextR s.p) N) (vwF (nextR s.q) N))
   rw [h1, pieces_append, step_x]
   rfl
  ·show (uRun prior N (s.puts prior).go1).y = s.y.pieces (bhStep (!prior) (hereR s.q) (hereR s.p) ++ bhP (!prior) (vwF (nextR s.q) N) (vwF (nextR s.p) N))
   rw [h2, pieces_append, step_y]
   rfl
/-- Behind the first piece all keep something. -/
def NR (l : List Pc) : Prop := ∀ x ∈ l.tail, 0 < x.keep
theorem NR.put : ∀ {l : List Pc}, NR l → NR (rPut l)
 | [], h => h
 | p :: r, h => by
  simp only [rPut]
  split
  ·exact h
  ·exact h
theorem NR.tail {p : Pc} {r : List Pc} (h : NR (p :: r)) : NR r := by
 intro x hx
 exact h x (List.mem_of_mem_tail hx)
theorem NR.skip : ∀ {l : List Pc}, NR l → NR (rSkip l)
 | [], h => h
 | p :: r, h => by
  simp only [rSkip]
  split
  ·exact h
  ·exact NR.skip h.tail
theorem NR.take {n : Int} : ∀ {l : List Pc}, NR l → NR (rTake n l)
 | [], h => h
 | p :: r, h => by
  simp only [rTake]
  split
  ·exact h
  ·exact h
/-- Behind puts and the skip nothing is to be put at once. -/
def PE (l : List Pc) : Prop := ∀ p r, l = p :: r → ¬ (0 < p.keep) → p.put = ⟨#[]⟩
theorem PE.of {l : List Pc} (h : NR l) : PE (rSkip (rPut l)) := by
 intro p r he hk
 cases l with
 | nil => simp [rPut, rSkip] at he
 | cons x t =>
  by_cases hx : 0 < x.keep
  ·have e1 : rPut (x :: t) = x :: t := if_pos hx
   have e2 : rSkip (x :: t) = x :: t := if_pos (.inl hx)
   rw [e1, e2] at he
   obtain ⟨rfl, rfl⟩ := List.cons.inj he
   exact absurd hx hk
  ·have e1 : rPut (x :: t) = { x with put := ⟨#[]⟩ } :: t := if_neg hx
   rw [e1] at he
   by_cases hd : 0 < x.drop
   ·have e2 : rSkip ({ x with put := ⟨#[]⟩ } :: t) = { x with put := ⟨#[]⟩ } :: t := if_pos (.inr hd)
    rw [e2] at he
    obtain ⟨rfl, rfl⟩ := List.cons.inj he
    rfl
   ·have e2 : rSkip ({ x with put := ⟨#[]⟩ } :: t) = rSkip t := if_neg (by simp only; omega)
    rw [e2] at he
    cases t with
    | nil => simp [rSkip] at he
    | cons y t =>
     have hy : 0 < y.keep := h y (by simp)
     have e3 : rSkip (y :: t) = y :: t := if_pos (.inl hy)
     rw [e3] at he
     obtain ⟨rfl, rfl⟩ := List.cons.inj he
     exact absurd hy hk
/-- A row that stands within a run: one byte more. -/
theorem row_step {a : List Pc} {j : Int} (hs : rSkip a = a) (hp : PE a) (_hj : 0 ≤ j) (hn : a ≠ [] → j < rN a) :
  rPutS (rTake j a) = ⟨#[]⟩ ∧ rPut (rTake j a) = rTake j a ∧ rSkip (rTake j a) = rTake j a ∧ rD (rTake j a) = rD a ∧ rTake 1 (rTake j a) = rTake (j + 1) a := by
 cases a with
 | nil => exact ⟨rfl, rfl, rfl, rfl, rfl⟩
 | cons p r =>
  have hn := hn (by simp)
  obtain ⟨pk, pd, pp⟩ := p
  by_cases hk : 0 < pk
  ·have e1 : rN (⟨pk, pd, pp⟩ :: r) = pk := if_pos hk
   rw [e1] at hn
   have e2 : rTake j (⟨pk, pd, pp⟩ :: r) = ⟨pk - j, pd, pp⟩ :: r := if_pos hk
   have e3 : rTake (j + 1) (⟨pk, pd, pp⟩ :: r) = ⟨pk - (j + 1), pd, pp⟩ :: r := if_pos hk
   have e4 : 0 < pk - j := by omega
   rw [e2, e3]
   refine ⟨if_pos e4, if_pos e4, if_pos (.inl e4), ?_, ?_⟩
   ·rw [show rD (⟨pk - j, pd, pp⟩ :: r) = false from if_pos e4, show rD (⟨pk, pd, pp⟩ :: r) = false from if_pos hk]
   ·rw [show rTake 1 (⟨pk - j, pd, pp⟩ :: r) = ⟨pk - j - 1, pd, pp⟩ :: r from if_pos e4, show pk - j - 1 = pk - (j + 1) by omega]
  ·have e1 : rN (⟨pk, pd, pp⟩ :: r) = pd := if_neg hk
   rw [e1] at hn
   have e5 : pp = ⟨#[]⟩ := hp _ _ rfl hk
   have e2 : rTake j (⟨pk, pd, pp⟩ :: r) = ⟨pk, pd - j, pp⟩ :: r := if_neg hk
   have e3 : rTake (j + 1) (⟨pk, pd, pp⟩ :: r) = ⟨pk, pd - (j + 1), pp⟩ :: r := if_neg hk
   have e4 : 0 < pd - j := by omega
   rw [e2, e3]
   refine ⟨?_, ?_, if_pos (.inr e4), ?_, ?_⟩
   ·rw [show rPutS (⟨pk, pd - j, pp⟩ :: r) = pp from if_neg hk]; exact e5
   ·rw [show rPut (⟨pk, pd - j, pp⟩ :: r) = ⟨pk, pd - j, ⟨#[]⟩⟩ :: r from if_neg hk, e5]
   ·rw [show rD (⟨pk, pd - j, pp⟩ :: r) = true from if_neg hk, show rD (⟨pk, pd, pp⟩ :: r) = true from if_neg hk]
   ·rw [show rTake 1 (⟨pk, pd - j, pp⟩ :: r) = ⟨pk, pd - j - 1, pp⟩ :: r from if_neg hk, show pd - j - 1 = pd - (j + 1) by omega]
theorem skip_skip : ∀ l : List Pc, rSkip (rSkip l) = rSkip l
 | [] => rfl
 | p :: r => by
  by_cases h : 0 < p.keep ∨ 0 < p.drop
  ·have e : rSkip (p :: r) = p :: r := if_pos h
   rw [e, e]
  ·have e : rSkip (p :: r) = rSkip r := if_neg h
   rw [e, skip_skip r]
theorem drop_drop {m : Mk} (hm : NnM m) {a b : Int} (ha : 0 < a) (hb : 0 < b) : (m.drop a).drop b = m.drop (a + b) := by
 have h1 : m.drop a = ⟨onLast (fun p => { p with drop := p.drop + a }) m.last.l, m.last.keep⟩ := if_pos ha
 have h2 : m.drop (a + b) = ⟨onLast (fun p => { p with drop := p.drop + (a + b) }) m.last.l, m.last.keep⟩ := if_pos (by omega)
 have hk : m.last.keep = 0 := by
  unfold Mk.last
  split
  ·rfl
  ·rename_i hn
   have : ¬ (0 < m.keep) := fun h1 => hn (.inl h1)
   have := hm.2
   omega
 rw [h1, h2, hk]
 have hl : (Mk.mk (onLast (fun p => { p with drop := p.drop + a }) m.last.l) 0).last = ⟨onLast (fun p => { p with drop := p.drop + a }) m.last.l, 0⟩ := if_neg (fun h => h.elim (fun h => by simp only at h; omega) (fun h => onLast_ne m.last_ne h))
 have h3 : (Mk.mk (onLast (fun p => { p with drop := p.drop + a }) m.last.l) 0).drop b = ⟨onLast (fun p => { p with drop := p.drop + b }) (Mk.mk (onLast (fun p => { p with drop := p.drop + a }) m.last.l) 0).last.l, (Mk.mk (onLast (fun p => { p with drop := p.drop + a }) m.last.l) 0).last.keep⟩ := if_pos hb
 rw [h3, hl, onLast_onLast]
 simp only [Int.add_assoc]
theorem more_more (m : Mk) (a b : Int) : (m.more a).more b = m.more (a + b) := by
 obtain ⟨l, k⟩ := m
 show Mk.mk l (k + a + b) = Mk.mk l (k + (a + b))
 rw [Int.add_assoc]
theorem goX_one {m : Mk} (hm : NnM m) (a b : Bool) {j : Int} (hj : 0 < j) : goX a b 1 (goX a b j m) = goX a b (j + 1) m := by
 cases a <;> cases b <;> simp [goX, more_more, drop_drop hm hj (show (0 : Int) < 1 by decide)]
def St.goN (s : St) (j : Int) : St := ⟨rTake j (rSkip s.p), rTake j (rSkip s.q), goX (rD (rSkip s.p)) (rD (rSkip s.q)) j s.x, goX (rD (rSkip s.q)) (rD (rSkip s.p)) j s.y⟩
theorem putsX_none (prior : Bool) (m : Mk) : putsX prior ⟨#[]⟩ ⟨#[]⟩ m = m := by
 have e : ((⟨#[]⟩ : ByteArray).size : Int) = 0 := rfl
 cases prior
 ·show (m.more ((⟨#[]⟩ : ByteArray).size : Int)).put ⟨#[]⟩ = m
  rw [e, more_zero, put_none _ rfl]
 ·show (m.put ⟨#[]⟩).more ((⟨#[]⟩ : ByteArray).size : Int) = m
  rw [e, put_none _ rfl, more_zero]
theorem putsY_none (prior : Bool) (m : Mk) : putsY prior ⟨#[]⟩ ⟨#[]⟩ m = m := by
 have e : ((⟨#[]⟩ : ByteArray).size : Int) = 0 := rfl
 cases prior
 ·show (m.put ⟨#[]⟩).more ((⟨#[]⟩ : ByteArray).size : Int) = m
  rw [e, put_none _ rfl, more_zero]
 ·show (m.more ((⟨#[]⟩ : ByteArray).size : Int)).put ⟨#[]⟩ = m
  rw [e, more_zero, put_none _ rfl]
theorem goN_step (prior : Bool) {s : St} (hx : NnM s.x) (hy : NnM s.y) (hp : PE (rSkip s.p)) (hq : PE (rSkip s.q)) {j : Int} (hj : 0 < j) (h1 : rSkip s.p ≠ [] → j < rN (rSkip s.p)) (h2 : rSkip s.q ≠ [] → j < rN (rSkip s.q)) :
  (((s.goN j).puts prior).go1) = s.goN (j + 1) := by
 obtain ⟨a1, a2, a3, a4, a5⟩ := row_step (skip_skip s.p) hp (by omega) h1
 obtain ⟨b1, b2, b3, b4, b5⟩ := row_step (skip_skip s.q) hq (by omega) h2
 have e1 : (s.goN j).puts prior = s.goN j := by
  unfold St.puts St.goN
  simp only [a1, a2, b1, b2, putsX_none, putsY_none]
 rw [e1]
 unfold St.go1 St.goN
 simp only [a3, a4, a5, b3, b4, b5, goX_one hx _ _ hj, goX_one hy _ _ hj]
theorem uRun_goN (prior : Bool) {s : St} (hx : NnM s.x) (hy : NnM s.y) (hp : PE (rSkip s.p)) (hq : PE (rSkip s.q)) : ∀ (d j N : Nat), 0 < j → j + d ≤ N → (rSkip s.p ≠ [] → ((j + d : Nat) : Int) ≤ rN (rSkip s.p)) → (rSkip s.q ≠ [] → ((j + d : Nat) : Int) ≤ rN (rSkip s.q)) →
  uRun prior (N - j) (s.goN j) = uRun prior (N - (j + d)) (s.goN ((j + d : Nat) : Int))
 | 0, j, N, _, _, _, _ => rfl
 | d + 1, j, N, hj, hN, h1, h2 => by
  have e : N - j = (N - (j + 1)) + 1 := by omega
  rw [e]
  show uRun prior (N - (j + 1)) (((s.goN j).puts prior).go1) = _
  rw [goN_step prior hx hy hp hq (by omega) (fun h => by have := h1 h; omega) (fun h => by have := h2 h; omega)]
  have := uRun_goN prior hx hy hp hq d (j + 1) N (by omega) (by omega) (fun h => by have := h1 h; omega) (fun h => by have := h2 h; omega)
  rw [show ((j + 1 : Nat) : Int) = (j : Int) + 1 by omega] at this
  rw [this, show j + 1 + d = j + (d + 1) by omega]
end Go.Proofs.Ytkimbpeapolcbaa.Sy
