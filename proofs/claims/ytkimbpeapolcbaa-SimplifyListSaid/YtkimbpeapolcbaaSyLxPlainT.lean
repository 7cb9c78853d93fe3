/- Chapter 10: LxTrans turned to this seat. (Printed by gsyport.py.) -/
import Derived.Test.YtkimbpeapolcbaaSyLxApply
namespace Go.Proofs.Ytkimbpeapolcbaa.Sy
open Go.RowKit Go.Proofs.Ytkimbpeapolcbaa.Bw Go.Proofs.Ytkimbpeapolcbaa.Bs

def trS (prior : Bool) (a b : List Pc) : St := tRun prior ((St.mk (normL a) (normL b) ⟨[], 0⟩ ⟨[], 0⟩).phi + 1) ⟨normL a, normL b, ⟨[], 0⟩, ⟨[], 0⟩⟩
def trE (prior : Bool) (a b : List Pc) : Int := if pcsRight a && pcsRight b then (if pcsRight (trS prior a b).x.l && pcsRight (trS prior a b).y.l then 0 else 3) else 2
def trX (prior : Bool) (a b : List Pc) : List Pc := if trE prior a b = 0 then (trS prior a b).x.l else []
def trY (prior : Bool) (a b : List Pc) : List Pc := if trE prior a b = 0 then (trS prior a b).y.l else []
def posV : Option Value → Nat
  | some (.int _ k) => if 0 < k then 1 else 0
  | _ => 0
def phiAt (w : World) (g : Nat) : Nat → Nat → Nat
  | _, 0 => 0
  | off, n + 1 => posV (w.cell? ⟨g, off, none⟩) + posV (w.cell? ⟨g, off + 1, none⟩) + phiAt w g (off + 3) n
def phiBox (w : World) (B : Nat) : Nat := match w.cell? ⟨B, 0, none⟩ with
  | some (.slice (some a) n _) => phiAt w a.block a.off n
  | _ => 0
theorem phiAt_eq {w : World} {g : Nat} : ∀ {l : List Pc} {off : Nat}, rdPcs w g off l → phiAt w g off l.length = phi l
  | [], _, _ => rfl
  | p :: r, off, ⟨h1, h2, _, _, h5⟩ => by
    show posV _ + posV _ + phiAt w g (off + 3) r.length = phi1 p + phi r
    rw [h1, h2, phiAt_eq h5]
    rfl
theorem phiBox_eq {w : World} {B : Nat} {G : Option Nat} {l : List Pc} (h : RowAt w B G l) : phiBox w B = phi l := by
  obtain ⟨v, hN, A, c, rfl, h1, h2, h3⟩ := h
  have c0 := hN.cell 0
  unfold phiBox
  rw [c0]
  cases l with
  | nil => cases A <;> rfl
  | cons p r =>
    obtain ⟨g, off, cur, _, rfl, _, hr⟩ := h3 (by simp)
    exact phiAt_eq hr
end Go.Proofs.Ytkimbpeapolcbaa.Sy
namespace Go.Proofs.Ytkimbpeapolcbaa.Sy
open Go.RowKit Go.Proofs.Ytkimbpeapolcbaa.Bw Go.Proofs.Ytkimbpeapolcbaa.Bs

abbrev Vw := List (ByteArray × Bool)
def nextR (p : List Pc) : List Pc := rTake 1 (rSkip (rPut p))
def hereR (p : List Pc) : ByteArray × Bool := (rPutS p, rD (rSkip (rPut p)))
def vwF : List Pc → Nat → Vw
  | p, 0 => [hereR p]
  | p, N + 1 => hereR p :: vwF (nextR p) N
/-- What the document puts together at one place. -/
def bhStep (first : Bool) (a b : ByteArray × Bool) : List Pc :=
  (if first then [⟨0, 0, a.1⟩, ⟨b.1.size, 0, ⟨#[]⟩⟩] else [⟨b.1.size, 0, ⟨#[]⟩⟩, ⟨0, 0, a.1⟩]) ++ (if b.2 then [] else if a.2 then [⟨0, 1, ⟨#[]⟩⟩] else [⟨1, 0, ⟨#[]⟩⟩])
def bhP (first : Bool) : Vw → Vw → List Pc
  | a :: r, b :: s => bhStep first a b ++ bhP first r s
  | _, _ => []
def St.go1 (s : St) : St := ⟨rTake 1 (rSkip s.p), rTake 1 (rSkip s.q), goX (rD (rSkip s.p)) (rD (rSkip s.q)) 1 s.x, goX (rD (rSkip s.q)) (rD (rSkip s.p)) 1 s.y⟩
def uRun (prior : Bool) : Nat → St → St
  | 0, s => (s.puts prior).go1
  | N + 1, s => uRun prior N (s.puts prior).go1
theorem pieces_append (m : Mk) : ∀ (a b : List Pc), m.pieces (a ++ b) = (m.pieces a).pieces b := by
  intro a b
  induction a generalizing m with
  | nil => rfl
  | cons p r ih => exact ih (m.piece p)
theorem more_zero (m : Mk) : m.more 0 = m := by
  obtain ⟨l, k⟩ := m
  show Mk.mk l (k + 0) = _
  rw [Int.add_zero]
theorem put_none (m : Mk) {s : ByteArray} (h : s.size = 0) : m.put s = m := if_neg (by omega)
theorem drop_zero_ (m : Mk) : m.drop 0 = m := if_neg (by omega)
theorem piece_put (m : Mk) (s : ByteArray) : m.piece ⟨0, 0, s⟩ = m.put s := by
  rw [Mk.piece_eq]
  show ((m.more 0).put s).drop 0 = _
  rw [more_zero, drop_zero_]
theorem piece_keep (m : Mk) (k : Int) : m.piece ⟨k, 0, ⟨#[]⟩⟩ = m.more k := by
  rw [Mk.piece_eq]
  show ((m.more k).put ⟨#[]⟩).drop 0 = _
  rw [put_none _ rfl, drop_zero_]
theorem piece_drop (m : Mk) (n : Int) : m.piece ⟨0, n, ⟨#[]⟩⟩ = m.drop n := by
  rw [Mk.piece_eq]
  show ((m.more 0).put ⟨#[]⟩).drop n = _
  rw [more_zero, put_none _ rfl]
theorem step_x (prior : Bool) (m : Mk) (a b : ByteArray × Bool) : m.pieces (bhStep prior a b) = goX a.2 b.2 1 (putsX prior a.1 b.1 m) := by
  obtain ⟨a1, a2⟩ := a
  obtain ⟨b1, b2⟩ := b
  cases prior <;> cases a2 <;> cases b2 <;> simp [bhStep, goX, putsX, Mk.pieces, piece_put, piece_keep, piece_drop]
theorem step_y (prior : Bool) (m : Mk) (a b : ByteArray × Bool) : m.pieces (bhStep (!prior) b a) = goX b.2 a.2 1 (putsY prior a.1 b.1 m) := by
  obtain ⟨a1, a2⟩ := a
  obtain ⟨b1, b2⟩ := b
  cases prior <;> cases a2 <;> cases b2 <;> simp [bhStep, goX, putsY, Mk.pieces, piece_put, piece_keep, piece_drop]
theorem uRun_x (prior : Bool) : ∀ (N : Nat) (s : St), (uRun prior N s).x = s.x.pieces (bhP prior (vwF s.p N) (vwF s.q N)) ∧ (uRun prior N s).y = s.y.pieces (bhP (!prior) (vwF s.q N) (vwF s.p N))
  | 0, s => by
    constructor
    · show _ = s.x.pieces (bhStep prior (hereR s.p) (hereR s.q) ++ [])
      rw [List.append_nil, step_x]
      rfl
    · show _ = s.y.pieces (bhStep (!prior) (hereR s.q) (hereR s.p) ++ [])
      rw [List.append_nil, step_y]
      rfl
  | N + 1, s => by
    obtain ⟨h1, h2⟩ := uRun_x prior N (s.puts prior).go1
    constructor
    · show (uRun prior N (s.puts prior).go1).x = s.x.pieces (bhStep prior (hereR s.p) (hereR s.q) ++ bhP prior (vwF (nextR s.p) N) (vwF (nextR s.q) N))
      rw [h1, pieces_append, step_x]
      rfl
    · show (uRun prior N (s.puts prior).go1).y = s.y.pieces (bhStep (!prior) (hereR s.q) (hereR s.p) ++ bhP (!prior) (vwF (nextR s.q) N) (vwF (nextR s.p) N))
      rw [h2, pieces_append, step_y]
      rfl
/-- Behind the first piece all keep something. -/
def NR (l : List Pc) : Prop := ∀ x ∈ l.tail, 0 < x.keep
theorem NR.put : ∀ {l : List Pc}, NR l → NR (rPut l)
  | [], h => h
  | p :: r, h => by
    simp only [rPut]
    split
    · exact h
    · exact h
theorem NR.tail {p : Pc} {r : List Pc} (h : NR (p :: r)) : NR r := by
  intro x hx
  exact h x (List.mem_of_mem_tail hx)
theorem NR.skip : ∀ {l : List Pc}, NR l → NR (rSkip l)
  | [], h => h
  | p :: r, h => by
    simp only [rSkip]
    split
    · exact h
    · exact NR.skip h.tail
theorem NR.take {n : Int} : ∀ {l : List Pc}, NR l → NR (rTake n l)
  | [], h => h
  | p :: r, h => by
    simp only [rTake]
    split
    · exact h
    · exact h
/-- Behind puts and the skip nothing is to be put at once. -/
def PE (l : List Pc) : Prop := ∀ p r, l = p :: r → ¬ (0 < p.keep) → p.put = ⟨#[]⟩
theorem PE.of {l : List Pc} (h : NR l) : PE (rSkip (rPut l)) := by
  intro p r he hk
  cases l with
  | nil => simp [rPut, rSkip] at he
  | cons x t =>
    by_cases hx : 0 < x.keep
    · have e1 : rPut (x :: t) = x :: t := if_pos hx
      have e2 : rSkip (x :: t) = x :: t := if_pos (.inl hx)
      rw [e1, e2] at he
      obtain ⟨rfl, rfl⟩ := List.cons.inj he
      exact absurd hx hk
    · have e1 : rPut (x :: t) = { x with put := ⟨#[]⟩ } :: t := if_neg hx
      rw [e1] at he
      by_cases hd : 0 < x.drop
      · have e2 : rSkip ({ x with put := ⟨#[]⟩ } :: t) = { x with put := ⟨#[]⟩ } :: t := if_pos (.inr hd)
        rw [e2] at he
        obtain ⟨rfl, rfl⟩ := List.cons.inj he
        rfl
      · have e2 : rSkip ({ x with put := ⟨#[]⟩ } :: t) = rSkip t := if_neg (by simp only; omega)
        rw [e2] at he
        cases t with
        | nil => simp [rSkip] at he
        | cons y t =>
          have hy : 0 < y.keep := h y (by simp)
          have e3 : rSkip (y :: t) = y :: t := if_pos (.inl hy)
          rw [e3] at he
          obtain ⟨rfl, rfl⟩ := List.cons.inj he
          exact absurd hy hk
/-- A row that stands within a run: one byte more. -/
theorem row_step {a : List Pc} {j : Int} (hs : rSkip a = a) (hp : PE a) (_hj : 0 ≤ j) (hn : a ≠ [] → j < rN a) :
    rPutS (rTake j a) = ⟨#[]⟩ ∧ rPut (rTake j a) = rTake j a ∧ rSkip (rTake j a) = rTake j a ∧ rD (rTake j a) = rD a ∧ rTake 1 (rTake j a) = rTake (j + 1) a := by
  cases a with
  | nil => exact ⟨rfl, rfl, rfl, rfl, rfl⟩
  | cons p r =>
    have hn := hn (by simp)
    obtain ⟨pk, pd, pp⟩ := p
    by_cases hk : 0 < pk
    · have e1 : rN (⟨pk, pd, pp⟩ :: r) = pk := if_pos hk
      rw [e1] at hn
      have e2 : rTake j (⟨pk, pd, pp⟩ :: r) = ⟨pk - j, pd, pp⟩ :: r := if_pos hk
      have e3 : rTake (j + 1) (⟨pk, pd, pp⟩ :: r) = ⟨pk - (j + 1), pd, pp⟩ :: r := if_pos hk
      have e4 : 0 < pk - j := by omega
      rw [e2, e3]
      refine ⟨if_pos e4, if_pos e4, if_pos (.inl e4), ?_, ?_⟩
      · rw [show rD (⟨pk - j, pd, pp⟩ :: r) = false from if_pos e4, show rD (⟨pk, pd, pp⟩ :: r) = false from if_pos hk]
      · rw [show rTake 1 (⟨pk - j, pd, pp⟩ :: r) = ⟨pk - j - 1, pd, pp⟩ :: r from if_pos e4, show pk - j - 1 = pk - (j + 1) by omega]
    · have e1 : rN (⟨pk, pd, pp⟩ :: r) = pd := if_neg hk
      rw [e1] at hn
      have e5 : pp = ⟨#[]⟩ := hp _ _ rfl hk
      have e2 : rTake j (⟨pk, pd, pp⟩ :: r) = ⟨pk, pd - j, pp⟩ :: r := if_neg hk
      have e3 : rTake (j + 1) (⟨pk, pd, pp⟩ :: r) = ⟨pk, pd - (j + 1), pp⟩ :: r := if_neg hk
      have e4 : 0 < pd - j := by omega
      rw [e2, e3]
      refine ⟨?_, ?_, if_pos (.inr e4), ?_, ?_⟩
      · rw [show rPutS (⟨pk, pd - j, pp⟩ :: r) = pp from if_neg hk]; exact e5
      · rw [show rPut (⟨pk, pd - j, pp⟩ :: r) = ⟨pk, pd - j, ⟨#[]⟩⟩ :: r from if_neg hk, e5]
      · rw [show rD (⟨pk, pd - j, pp⟩ :: r) = true from if_neg hk, show rD (⟨pk, pd, pp⟩ :: r) = true from if_neg hk]
      · rw [show rTake 1 (⟨pk, pd - j, pp⟩ :: r) = ⟨pk, pd - j - 1, pp⟩ :: r from if_neg hk, show pd - j - 1 = pd - (j + 1) by omega]
theorem skip_skip : ∀ l : List Pc, rSkip (rSkip l) = rSkip l
  | [] => rfl
  | p :: r => by
    by_cases h : 0 < p.keep ∨ 0 < p.drop
    · have e : rSkip (p :: r) = p :: r := if_pos h
      rw [e, e]
    · have e : rSkip (p :: r) = rSkip r := if_neg h
      rw [e, skip_skip r]
theorem drop_drop {m : Mk} (hm : NnM m) {a b : Int} (ha : 0 < a) (hb : 0 < b) : (m.drop a).drop b = m.drop (a + b) := by
  have h1 : m.drop a = ⟨onLast (fun p => { p with drop := p.drop + a }) m.last.l, m.last.keep⟩ := if_pos ha
  have h2 : m.drop (a + b) = ⟨onLast (fun p => { p with drop := p.drop + (a + b) }) m.last.l, m.last.keep⟩ := if_pos (by omega)
  have hk : m.last.keep = 0 := by
    unfold Mk.last
    split
    · rfl
    · rename_i hn
      have : ¬ (0 < m.keep) := fun h1 => hn (.inl h1)
      have := hm.2
      omega
  rw [h1, h2, hk]
  have hl : (Mk.mk (onLast (fun p => { p with drop := p.drop + a }) m.last.l) 0).last = ⟨onLast (fun p => { p with drop := p.drop + a }) m.last.l, 0⟩ := if_neg (fun h => h.elim (fun h => by simp only at h; omega) (fun h => onLast_ne m.last_ne h))
  have h3 : (Mk.mk (onLast (fun p => { p with drop := p.drop + a }) m.last.l) 0).drop b = ⟨onLast (fun p => { p with drop := p.drop + b }) (Mk.mk (onLast (fun p => { p with drop := p.drop + a }) m.last.l) 0).last.l, (Mk.mk (onLast (fun p => { p with drop := p.drop + a }) m.last.l) 0).last.keep⟩ := if_pos hb
  rw [h3, hl, onLast_onLast]
  simp only [Int.add_assoc]
theorem more_more (m : Mk) (a b : Int) : (m.more a).more b = m.more (a + b) := by
  obtain ⟨l, k⟩ := m
  show Mk.mk l (k + a + b) = Mk.mk l (k + (a + b))
  rw [Int.add_assoc]
theorem goX_one {m : Mk} (hm : NnM m) (a b : Bool) {j : Int} (hj : 0 < j) : goX a b 1 (goX a b j m) = goX a b (j + 1) m := by
  cases a <;> cases b <;> simp [goX, more_more, drop_drop hm hj (show (0 : Int) < 1 by decide)]
def St.goN (s : St) (j : Int) : St := ⟨rTake j (rSkip s.p), rTake j (rSkip s.q), goX (rD (rSkip s.p)) (rD (rSkip s.q)) j s.x, goX (rD (rSkip s.q)) (rD (rSkip s.p)) j s.y⟩
theorem putsX_none (prior : Bool) (m : Mk) : putsX prior ⟨#[]⟩ ⟨#[]⟩ m = m := by
  have e : ((⟨#[]⟩ : ByteArray).size : Int) = 0 := rfl
  cases prior
  · show (m.more ((⟨#[]⟩ : ByteArray).size : Int)).put ⟨#[]⟩ = m
    rw [e, more_zero, put_none _ rfl]
  · show (m.put ⟨#[]⟩).more ((⟨#[]⟩ : ByteArray).size : Int) = m
    rw [e, put_none _ rfl, more_zero]
theorem putsY_none (prior : Bool) (m : Mk) : putsY prior ⟨#[]⟩ ⟨#[]⟩ m = m := by
  have e : ((⟨#[]⟩ : ByteArray).size : Int) = 0 := rfl
  cases prior
  · show (m.put ⟨#[]⟩).more ((⟨#[]⟩ : ByteArray).size : Int) = m
    rw [e, put_none _ rfl, more_zero]
  · show (m.more ((⟨#[]⟩ : ByteArray).size : Int)).put ⟨#[]⟩ = m
    rw [e, more_zero, put_none _ rfl]
theorem goN_step (prior : Bool) {s : St} (hx : NnM s.x) (hy : NnM s.y) (hp : PE (rSkip s.p)) (hq : PE (rSkip s.q)) {j : Int} (hj : 0 < j) (h1 : rSkip s.p ≠ [] → j < rN (rSkip s.p)) (h2 : rSkip s.q ≠ [] → j < rN (rSkip s.q)) :
    (((s.goN j).puts prior).go1) = s.goN (j + 1) := by
  obtain ⟨a1, a2, a3, a4, a5⟩ := row_step (skip_skip s.p) hp (by omega) h1
  obtain ⟨b1, b2, b3, b4, b5⟩ := row_step (skip_skip s.q) hq (by omega) h2
  have e1 : (s.goN j).puts prior = s.goN j := by
    unfold St.puts St.goN
    simp only [a1, a2, b1, b2, putsX_none, putsY_none]
  rw [e1]
  unfold St.go1 St.goN
  simp only [a3, a4, a5, b3, b4, b5, goX_one hx _ _ hj, goX_one hy _ _ hj]
theorem uRun_goN (prior : Bool) {s : St} (hx : NnM s.x) (hy : NnM s.y) (hp : PE (rSkip s.p)) (hq : PE (rSkip s.q)) : ∀ (d j N : Nat), 0 < j → j + d ≤ N → (rSkip s.p ≠ [] → ((j + d : Nat) : Int) ≤ rN (rSkip s.p)) → (rSkip s.q ≠ [] → ((j + d : Nat) : Int) ≤ rN (rSkip s.q)) →
    uRun prior (N - j) (s.goN j) = uRun prior (N - (j + d)) (s.goN ((j + d : Nat) : Int))
  | 0, j, N, _, _, _, _ => rfl
  | d + 1, j, N, hj, hN, h1, h2 => by
    have e : N - j = (N - (j + 1)) + 1 := by omega
    rw [e]
    show uRun prior (N - (j + 1)) (((s.goN j).puts prior).go1) = _
    rw [goN_step prior hx hy hp hq (by omega) (fun h => by have := h1 h; omega) (fun h => by have := h2 h; omega)]
    have := uRun_goN prior hx hy hp hq d (j + 1) N (by omega) (by omega) (fun h => by have := h1 h; omega) (fun h => by have := h2 h; omega)
    rw [show ((j + 1 : Nat) : Int) = (j : Int) + 1 by omega] at this
    rw [this, show j + 1 + d = j + (d + 1) by omega]
end Go.Proofs.Ytkimbpeapolcbaa.Sy
