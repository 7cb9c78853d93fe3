/- Chapter 10: LxCPlain turned to this seat. (Printed by gsyport.py.) -/
import Derived.Test.YtkimbpeapolcbaaSyLxApply
namespace Go.Proofs.Ytkimbpeapolcbaa.Sy
open Go.RowKit Go.Proofs.Ytkimbpeapolcbaa.Bw Go.Proofs.Ytkimbpeapolcbaa.Bs

structure CS where
  p : List Pc
  q : List Pc
  x : Mk
  f : ByteArray
/-- What is put next, if nothing is fresh. -/
def CS.fetch (s : CS) : CS := if 0 < s.f.size then s else { s with f := rPutS s.p, p := rPut s.p }
/-- How many fresh bytes go. -/
def frN (q : List Pc) (f : ByteArray) : Int := if 0 < q.length then min (rN q) f.size else f.size
def goC (gone : Bool) (n : Int) (x : Mk) : Mk := if gone then x.drop n else x.more n
def runN (p q : List Pc) : Int := bN p q
def CS.step (s : CS) : Option CS :=
  if 0 < (rPutS s.q).size then some { s with q := rPut s.q, x := s.x.put (rPutS s.q) }
  else
    let t := s.fetch
    let q := rSkip (rPut t.q)
    if 0 < t.f.size then
      let n := frN q t.f
      some { p := t.p, q := rTake (min n (rN q)) q, x := if rD q then t.x else t.x.put (t.f.extract 0 n.toNat), f := t.f.extract n.toNat t.f.size }
    else
      let p := rSkip t.p
      if rD p then some { p := rTake (rN p) p, q := q, x := t.x.drop (rN p), f := t.f }
      else if bSome p q then some { p := rTake (min (bN p q) (rN p)) p, q := rTake (min (bN p q) (rN q)) q, x := goC (rD q) (bN p q) t.x, f := t.f }
      else none
def cRun : Nat → CS → Mk
  | 0, s => s.x
  | k + 1, s => match s.step with
    | none => s.x
    | some t => cRun k t
def psi1 (p : Pc) : Nat := phi1 p + (if 0 < p.put.size then 1 else 0)
def psi : List Pc → Nat
  | [] => 0
  | p :: r => psi1 p + psi r
def one (f : ByteArray) : Nat := if 0 < f.size then 1 else 0
def CS.psi (s : CS) : Nat := Sy.psi s.p + Sy.psi s.q + one s.f
theorem psi_le : ∀ l : List Pc, psi l ≤ 3 * l.length
  | [] => Nat.le_refl _
  | p :: r => by
    have := psi_le r
    have : phi1 p ≤ 2 := by unfold phi1; split <;> split <;> omega
    have : psi1 p ≤ 3 := by unfold psi1; split <;> omega
    show psi1 p + psi r ≤ 3 * (r.length + 1)
    omega
theorem psi_put : ∀ l : List Pc, psi (rPut l) + one (rPutS l) = psi l
  | [] => rfl
  | p :: r => by
    simp only [rPut, rPutS]
    split
    · show psi1 p + psi r + one ⟨#[]⟩ = _; rfl
    · show phi1 p + 0 + psi r + one p.put = phi1 p + one p.put + psi r
      omega
theorem psi_skip : ∀ l : List Pc, psi (rSkip l) ≤ psi l
  | [] => Nat.le_refl _
  | p :: r => by
    simp only [rSkip]
    split
    · exact Nat.le_refl _
    · have := psi_skip r
      show _ ≤ psi1 p + psi r
      omega
theorem psi_take {l : List Pc} {n : Int} (hn : l ≠ [] → 0 ≤ n ∧ n ≤ rN l) : psi (rTake n l) ≤ psi l := by
  cases l with
  | nil => exact Nat.le_refl _
  | cons p r =>
    have h := phi_take (l := [p]) (n := n) (fun _ => hn (by simp))
    simp only [rTake] at h ⊢
    split
    · rename_i hk
      rw [if_pos hk] at h
      show phi1 _ + _ + psi r ≤ phi1 p + _ + psi r
      have h : phi1 { p with keep := p.keep - n } + 0 ≤ phi1 p + 0 := h
      simp only at h ⊢
      omega
    · rename_i hk
      rw [if_neg hk] at h
      have h : phi1 { p with drop := p.drop - n } + 0 ≤ phi1 p + 0 := h
      show phi1 _ + _ + psi r ≤ phi1 p + _ + psi r
      simp only at h ⊢
      omega
theorem psi_take_lt {l : List Pc} (hn : 0 < rN l) : psi (rTake (rN l) l) < psi l := by
  cases l with
  | nil => exact absurd hn (by show ¬ (0 : Int) < 0; omega)
  | cons p r =>
    have h := phi_take_lt (l := [p]) hn
    have e : rN [p] = rN (p :: r) := rfl
    rw [e] at h
    simp only [rTake] at h ⊢
    split
    · rename_i hk
      rw [if_pos hk] at h
      have h : phi1 { p with keep := p.keep - rN (p :: r) } + 0 < phi1 p + 0 := h
      show phi1 _ + _ + psi r < phi1 p + _ + psi r
      simp only at h ⊢
      omega
    · rename_i hk
      rw [if_neg hk] at h
      have h : phi1 { p with drop := p.drop - rN (p :: r) } + 0 < phi1 p + 0 := h
      show phi1 _ + _ + psi r < phi1 p + _ + psi r
      simp only at h ⊢
      omega
/-- What holds of the state all the time. -/
structure CS.Ok (s : CS) (T : Int) (L : Nat) : Prop where
  np : Nn s.p
  nq : Nn s.q
  nx : NnM s.x
  tx : wtM s.x + wt s.p + wt s.q + s.f.size ≤ T
  lx : s.x.l.length + s.psi ≤ L
theorem rN_le_wt {l : List Pc} (h : Nn l) : rN l ≤ wt l ∧ 0 ≤ rN l := by
  cases l with
  | nil => exact ⟨Int.le_refl _, Int.le_refl _⟩
  | cons p r =>
    obtain ⟨h1, h2⟩ := h p List.mem_cons_self
    have := wt_nn h.tail
    simp only [rN]
    split
    · exact ⟨by show _ ≤ p.keep + p.drop + p.put.size + wt r; omega, by omega⟩
    · exact ⟨by show _ ≤ p.keep + p.drop + p.put.size + wt r; omega, by omega⟩
theorem wt_take' {l : List Pc} {n : Int} (hn : l = [] → n = 0) : wt (rTake n l) = wt l - n := by
  cases l with
  | nil => rw [hn rfl]; rfl
  | cons p r => exact wt_take (by simp)
theorem CS.Ok.fetch {s : CS} {T : Int} {L : Nat} (h : s.Ok T L) : s.fetch.Ok T L ∧ s.fetch.x = s.x ∧ s.fetch.q = s.q ∧ s.fetch.psi = s.psi := by
  unfold CS.fetch
  split
  · exact ⟨h, rfl, rfl, rfl⟩
  · rename_i hf
    have e1 := wt_put s.p
    have e2 := psi_put s.p
    obtain ⟨h1, h2, h3, h4, h5⟩ := h
    have hf0 : s.f.size = 0 := by omega
    have hps : ({ s with f := rPutS s.p, p := rPut s.p } : CS).psi = s.psi := by
      show Sy.psi (rPut s.p) + Sy.psi s.q + one (rPutS s.p) = Sy.psi s.p + Sy.psi s.q + one s.f
      have : one s.f = 0 := by unfold one; rw [if_neg hf]
      omega
    refine ⟨⟨h1.put, h2, h3, ?_, ?_⟩, rfl, rfl, hps⟩
    · show wtM s.x + wt (rPut s.p) + wt s.q + (rPutS s.p).size ≤ T
      omega
    · show s.x.l.length + CS.psi _ ≤ L
      rw [hps]; exact h5
theorem goC_nn {g : Bool} {n : Int} {x : Mk} (h : NnM x) (h0 : 0 ≤ n) : NnM (goC g n x) := by
  unfold goC; split
  · exact h.drop n
  · exact h.more h0
theorem goC_wt {g : Bool} {n : Int} {x : Mk} (h0 : 0 ≤ n) : wtM (goC g n x) = wtM x + n := by
  unfold goC; split
  · exact wtM_drop x n h0
  · exact wtM_more x n
theorem goC_len (g : Bool) (n : Int) (x : Mk) : (goC g n x).l.length ≤ x.l.length + 1 := by
  unfold goC; split
  · exact x.drop_len n
  · exact Nat.le_succ _
theorem bN_facts {p q : List Pc} (hp : Nn p) (hq : Nn q) : 0 ≤ bN p q ∧ (p ≠ [] → bN p q ≤ rN p) ∧ (q ≠ [] → bN p q ≤ rN q) ∧ (bSome p q = true → (p ≠ [] ∧ bN p q = rN p) ∨ (q ≠ [] ∧ bN p q = rN q)) := by
  have h1 := rN_le_wt hp
  have h2 := rN_le_wt hq
  cases p with
  | nil =>
    cases q with
    | nil => exact ⟨Int.le_refl _, fun h => absurd rfl h, fun h => absurd rfl h, fun h => absurd h (by decide)⟩
    | cons y t => rw [bN_nil]; exact ⟨h2.2, fun h => absurd rfl h, fun _ => Int.le_refl _, fun _ => .inr ⟨by simp, rfl⟩⟩
  | cons x r =>
    cases q with
    | nil => rw [bN_nil']; exact ⟨h1.2, fun _ => Int.le_refl _, fun h => absurd rfl h, fun _ => .inl ⟨by simp, rfl⟩⟩
    | cons y t =>
      rw [bN_cons]
      refine ⟨by omega, fun _ => by omega, fun _ => by omega, fun _ => ?_⟩
      rcases Int.lt_or_le (rN (y :: t)) (rN (x :: r)) with hm | hm
      · exact .inr ⟨by simp, by omega⟩
      · exact .inl ⟨by simp, by omega⟩
theorem min_rN {p : List Pc} {n : Int} (_hp : Nn p) (h0 : 0 ≤ n) (h : p ≠ [] → n ≤ rN p) : (p ≠ [] → min n (rN p) = n) ∧ (p = [] → min n (rN p) = 0) := by
  constructor
  · intro hne
    have := h hne
    omega
  · intro he
    rw [he]
    show min n 0 = 0
    omega
theorem min_zero {p : List Pc} {n : Int} (h0 : 0 ≤ n) (h : p = []) : min n (rN p) = 0 := by
  rw [h]
  show min n 0 = 0
  omega
/-- A row, taken from: what it loses. -/
theorem take_facts {p : List Pc} {n : Int} (hp : Nn p) (h0 : 0 ≤ n) (h : p ≠ [] → n ≤ rN p) : Nn (rTake (min n (rN p)) p) ∧ Sy.psi (rTake (min n (rN p)) p) ≤ Sy.psi p ∧ wt (rTake (min n (rN p)) p) = wt p - (if p = [] then 0 else n) ∧ (0 < rN p → n = rN p → Sy.psi (rTake (min n (rN p)) p) < Sy.psi p) := by
  by_cases he : p = []
  · have e := min_zero h0 he
    rw [e]
    subst he
    exact ⟨hp, Nat.le_refl _, rfl, fun h => absurd h (by show ¬ (0 : Int) < 0; omega)⟩
  · have hn := h he
    have e : min n (rN p) = n := by omega
    rw [e, if_neg he]
    exact ⟨hp.take (fun _ => hn), psi_take (fun _ => ⟨h0, hn⟩), wt_take he, fun h1 h2 => by rw [h2]; exact psi_take_lt h1⟩
set_option maxHeartbeats 1000000 in
theorem CS.step_ok {s t : CS} {T : Int} {L : Nat} (h : s.Ok T L) (hs : s.step = some t) : t.Ok T L ∧ t.psi < s.psi := by
  unfold CS.step at hs
  by_cases h1 : 0 < (rPutS s.q).size
  · rw [if_pos h1] at hs
    obtain rfl := Option.some.inj hs
    have e1 := wt_put s.q
    have e2 := psi_put s.q
    have e3 : one (rPutS s.q) = 1 := if_pos h1
    have e4 := wtM_put s.x (rPutS s.q)
    have e5 := Mk.put_len s.x (rPutS s.q)
    obtain ⟨a1, a2, a3, a4, a5⟩ := h
    have hlt : CS.psi ⟨s.p, rPut s.q, s.x.put (rPutS s.q), s.f⟩ < s.psi := by
      show Sy.psi s.p + Sy.psi (rPut s.q) + one s.f < Sy.psi s.p + Sy.psi s.q + one s.f
      omega
    refine ⟨⟨a1, a2.put, a3.put _, ?_, ?_⟩, hlt⟩
    · show wtM (s.x.put _) + wt s.p + wt (rPut s.q) + s.f.size ≤ T
      omega
    · show (s.x.put _).l.length + CS.psi _ ≤ L
      omega
  · rw [if_neg h1] at hs
    obtain ⟨ok, ex, eq, eps⟩ := h.fetch
    rw [← eps]
    generalize s.fetch = u at *
    clear ex eq eps h1 h
    dsimp only at hs
    obtain ⟨a1, a2, a3, a4, a5⟩ := ok
    have q1 := a2.put.skip
    have q2 := wt_skip a2.put
    have q3 := wt_put u.q
    have q4 := psi_skip (rPut u.q)
    have q5 := psi_put u.q
    have q6 := wt_nn q1
    have q7 := rN_le_wt q1
    generalize hq : rSkip (rPut u.q) = q at *
    have q8 : q ≠ [] → 0 < rN q := fun h => by rw [← hq] at h ⊢; exact rN_skip_pos h
    have pw := wt_nn a1
    by_cases h2 : 0 < u.f.size
    · have e1 : one u.f = 1 := if_pos h2
      have hf0 : 0 ≤ frN q u.f ∧ frN q u.f ≤ u.f.size ∧ (q ≠ [] → frN q u.f ≤ rN q) ∧ (frN q u.f = u.f.size ∨ (q ≠ [] ∧ frN q u.f = rN q)) ∧ 0 < frN q u.f := by
        unfold frN
        by_cases hne : q = []
        · rw [if_neg (by rw [hne]; simp)]
          exact ⟨by omega, Int.le_refl _, fun h => absurd hne h, .inl rfl, by omega⟩
        · have := q8 hne
          rw [if_pos (by cases q; exact absurd rfl hne; simp)]
          refine ⟨by omega, by omega, fun _ => by omega, ?_, by omega⟩
          by_cases hm : rN q ≤ u.f.size
          · exact .inr ⟨hne, by omega⟩
          · exact .inl (by omega)
      obtain ⟨f0, f1, f2, f3, f4⟩ := hf0
      simp only [h2, if_true] at hs
      obtain rfl := Option.some.inj hs
      obtain ⟨t1, t2, t3, t4⟩ := take_facts q1 f0 f2
      have s1 : ((u.f.extract (frN q u.f).toNat u.f.size).size : Int) = u.f.size - frN q u.f := by rw [ByteArray.size_extract]; omega
      have s2 : ((u.f.extract 0 (frN q u.f).toNat).size : Int) = frN q u.f := by rw [ByteArray.size_extract]; omega
      have hx : NnM (if rD q then u.x else u.x.put (u.f.extract 0 (frN q u.f).toNat)) ∧ wtM (if rD q then u.x else u.x.put (u.f.extract 0 (frN q u.f).toNat)) ≤ wtM u.x + frN q u.f ∧ (if rD q then u.x else u.x.put (u.f.extract 0 (frN q u.f).toNat)).l.length ≤ u.x.l.length + 1 := by
        split
        · exact ⟨a3, by omega, Nat.le_succ _⟩
        · exact ⟨a3.put _, by rw [wtM_put]; omega, Mk.put_len _ _⟩
      have hlt : CS.psi ⟨u.p, rTake (min (frN q u.f) (rN q)) q, if rD q then u.x else u.x.put (u.f.extract 0 (frN q u.f).toNat), u.f.extract (frN q u.f).toNat u.f.size⟩ < u.psi := by
        show Sy.psi u.p + Sy.psi (rTake (min (frN q u.f) (rN q)) q) + one (u.f.extract (frN q u.f).toNat u.f.size) < Sy.psi u.p + Sy.psi u.q + one u.f
        have ho : one (u.f.extract (frN q u.f).toNat u.f.size) ≤ 1 := by unfold one; split <;> omega
        rcases f3 with g | ⟨g1, g2⟩
        · have : one (u.f.extract (frN q u.f).toNat u.f.size) = 0 := if_neg (by omega)
          omega
        · have := t4 (q8 g1) g2
          omega
      refine ⟨⟨a1, t1, hx.1, ?_, ?_⟩, hlt⟩
      · show wtM (if rD q then u.x else u.x.put (u.f.extract 0 (frN q u.f).toNat)) + wt u.p + wt (rTake (min (frN q u.f) (rN q)) q) + ((u.f.extract (frN q u.f).toNat u.f.size).size : Int) ≤ T
        have : wt (rTake (min (frN q u.f) (rN q)) q) ≤ wt q := by
          rw [t3]; split <;> omega
        omega
      · exact Nat.le_trans (Nat.add_le_add_right hx.2.2 _) (Nat.le_trans (by rw [Nat.add_assoc]; exact Nat.add_le_add_left (by rw [Nat.add_comm]; exact hlt) _) a5)
    · simp only [h2, if_false] at hs
      have p1 := a1.skip
      have p2 := wt_skip a1
      have p4 := psi_skip u.p
      have p6 := wt_nn p1
      have p7 := rN_le_wt p1
      generalize hp : rSkip u.p = p at *
      have p8 : p ≠ [] → 0 < rN p := fun h => by rw [← hp] at h ⊢; exact rN_skip_pos h
      by_cases h3 : rD p = true
      · simp only [h3, if_true] at hs
        obtain rfl := Option.some.inj hs
        have hne : p ≠ [] := fun h => by rw [h] at h3; exact absurd h3 (by decide)
        have hpos := p8 hne
        have l1 := psi_take_lt hpos
        have l2 := wt_take (n := rN p) hne
        have l3 := wtM_drop u.x (rN p) (by omega)
        have l4 := u.x.drop_len (rN p)
        have hlt : CS.psi ⟨rTake (rN p) p, q, u.x.drop (rN p), u.f⟩ < u.psi := by
          show Sy.psi (rTake (rN p) p) + Sy.psi q + one u.f < Sy.psi u.p + Sy.psi u.q + one u.f
          omega
        refine ⟨⟨p1.take (fun _ => Int.le_refl _), q1, a3.drop _, ?_, ?_⟩, hlt⟩
        · show wtM (u.x.drop _) + wt (rTake _ p) + wt q + u.f.size ≤ T
          omega
        · show (u.x.drop _).l.length + CS.psi _ ≤ L
          omega
      · simp only [h3] at hs
        by_cases h4 : bSome p q = true
        · simp only [h4, if_true] at hs
          obtain rfl := Option.some.inj hs
          obtain ⟨b0, b1, b2, b3⟩ := bN_facts p1 q1
          obtain ⟨t1, t2, t3, t4⟩ := take_facts p1 b0 b1
          obtain ⟨r1, r2, r3, r4⟩ := take_facts q1 b0 b2
          have c1 := goC_wt (g := rD q) (x := u.x) b0
          have c2 := goC_len (rD q) (bN p q) u.x
          have hlt : CS.psi ⟨rTake (min (bN p q) (rN p)) p, rTake (min (bN p q) (rN q)) q, goC (rD q) (bN p q) u.x, u.f⟩ < u.psi := by
            show Sy.psi (rTake (min (bN p q) (rN p)) p) + Sy.psi (rTake (min (bN p q) (rN q)) q) + one u.f < Sy.psi u.p + Sy.psi u.q + one u.f
            rcases b3 h4 with ⟨g1, g2⟩ | ⟨g1, g2⟩
            · have := t4 (p8 g1) g2; omega
            · have := r4 (q8 g1) g2; omega
          refine ⟨⟨t1, r1, goC_nn a3 b0, ?_, ?_⟩, hlt⟩
          · show wtM (goC _ _ _) + wt (rTake _ p) + wt (rTake _ q) + u.f.size ≤ T
            have hw : wt (rTake (min (bN p q) (rN p)) p) + wt (rTake (min (bN p q) (rN q)) q) + bN p q ≤ wt p + wt q := by
              rcases b3 h4 with ⟨g1, g2⟩ | ⟨g1, g2⟩
              · rw [t3, r3, if_neg g1]; split <;> omega
              · rw [t3, r3, if_neg g1]; split <;> omega
            omega
          · show (goC _ _ _).l.length + CS.psi _ ≤ L
            omega
        · simp only [h4] at hs
          exact absurd hs (by simp)
end Go.Proofs.Ytkimbpeapolcbaa.Sy
