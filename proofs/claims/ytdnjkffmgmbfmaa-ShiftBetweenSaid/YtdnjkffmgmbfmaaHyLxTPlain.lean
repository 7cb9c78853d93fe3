/- SyLxTPlain turned to this seat. (Printed by gport.py.) -/
import Derived.Test.YtdnjkffmgmbfmaaHyLxNorm
namespace Go.Proofs.Ytdnjkffmgmbfmaa.Sy
open Go.RowKit Go.Proofs.Ytdnjkffmgmbfmaa.Bw Go.Proofs.Ytdnjkffmgmbfmaa.Bs
def wt : List Pc → Int
 | [] => 0
 | p :: r => p.keep + p.drop + p.put.size + wt r
def Nn (l : List Pc) : Prop := ∀ p ∈ l, 0 ≤ p.keep ∧ 0 ≤ p.drop
theorem Nn.tail {p : Pc} {l : List Pc} (h : Nn (p :: l)) : Nn l := fun q hq => h q (List.mem_cons_of_mem _ hq)
theorem Nn.cons {p : Pc} {l : List Pc} (hp : 0 ≤ p.keep ∧ 0 ≤ p.drop) (h : Nn l) : Nn (p :: l) := fun q hq => (List.mem_cons.1 hq).elim (fun e => e ▸ hp) (h q)
theorem wt_append : ∀ a b : List Pc, wt (a ++ b) = wt a + wt b
 | [], b => by simp [wt]
 | p :: r, b => by show _ + wt (r ++ b) = _ + wt r + wt b; rw [wt_append r b]; omega
theorem Nn.append {a b : List Pc} (h : Nn a) (k : Nn b) : Nn (a ++ b) := fun q hq => (List.mem_append.1 hq).elim (h q) (k q)
theorem wt_nn : ∀ {l : List Pc}, Nn l → 0 ≤ wt l
 | [], _ => Int.le_refl _
 | p :: r, h => by
  have := wt_nn h.tail
  have := h p List.mem_cons_self
  show 0 ≤ _ + wt r
  omega
theorem wt_mem : ∀ {l : List Pc} {p : Pc}, Nn l → p ∈ l → p.keep + p.drop + p.put.size ≤ wt l
 | [], _, _, h => absurd h List.not_mem_nil
 | x :: r, p, hn, h => by
  have h1 := wt_nn hn.tail
  have h2 := hn x List.mem_cons_self
  show _ ≤ x.keep + x.drop + x.put.size + wt r
  rcases List.mem_cons.1 h with e | e
  ·rw [e]; omega
  ·have := wt_mem hn.tail e; omega
theorem RB.of_wt {C : Nat} {l : List Pc} (h : Nn l) (hw : wt l ≤ (C : Int)) : RB C l := fun p hp => by
 have h1 := wt_mem h hp
 obtain ⟨h2, h3⟩ := h p hp
 exact ⟨h2, by omega, h3, by omega, by omega⟩
def wtM (m : Mk) : Int := wt m.l + m.keep
def NnM (m : Mk) : Prop := Nn m.l ∧ 0 ≤ m.keep
theorem MB.of_wt {n C : Nat} {m : Mk} (h : NnM m) (hw : wtM m ≤ (C : Int)) (hl : m.l.length ≤ n) : MB n C m := by
 have h1 := wt_nn h.1
 have h2 := h.2
 unfold wtM at hw
 exact ⟨hl, fun p hp => by have := RB.of_wt (C := C) h.1 (by omega) p hp; exact ⟨this.2.2.2.2, this.2.2.1, this.2.2.2.1⟩, h.2, by omega⟩
theorem wt_onLast {f : Pc → Pc} {d : Int} (hf : ∀ p, (f p).keep + (f p).drop + (f p).put.size = p.keep + p.drop + p.put.size + d) : ∀ {l : List Pc}, l ≠ [] → wt (onLast f l) = wt l + d
 | [], h => absurd rfl h
 | [p], _ => by show (f p).keep + (f p).drop + (f p).put.size + 0 = p.keep + p.drop + p.put.size + 0 + d; rw [hf p]; omega
 | p :: q :: r, _ => by
  show p.keep + p.drop + p.put.size + wt (onLast f (q :: r)) = p.keep + p.drop + p.put.size + wt (q :: r) + d
  rw [wt_onLast hf (by simp)]; omega
theorem wtM_last (m : Mk) : wtM m.last = wtM m := by
 unfold Mk.last
 split
 ·unfold wtM
  simp only [wt_append]
  show wt m.l + (m.keep + 0 + ((0 : Nat) : Int) + 0) + 0 = _
  omega
 ·rfl
theorem NnM.last {m : Mk} (h : NnM m) : NnM m.last := by
 unfold Mk.last
 split
 ·exact ⟨h.1.append (Nn.cons ⟨h.2, Int.le_refl _⟩ (fun _ hq => absurd hq List.not_mem_nil)), Int.le_refl _⟩
 ·exact h
theorem wtM_put (m : Mk) (s : ByteArray) : wtM (m.put s) = wtM m + s.size := by
 unfold Mk.put
 split
 ·have h := wt_onLast (f := fun p => { p with put := p.put ++ s }) (d := s.size) (fun p => by simp only [ByteArray.size_append]; omega) m.last_ne
  have h2 := wtM_last m
  unfold wtM at h2 ⊢
  simp only at h ⊢
  rw [h]; omega
 ·omega
theorem wtM_drop (m : Mk) (n : Int) (h0 : 0 ≤ n) : wtM (m.drop n) = wtM m + n := by
 unfold Mk.drop
 split
 ·have h := wt_onLast (f := fun p => { p with drop := p.drop + n }) (d := n) (fun p => by simp only; omega) m.last_ne
  have h2 := wtM_last m
  unfold wtM at h2 ⊢
  simp only at h ⊢
  rw [h]; omega
 ·omega
theorem NnM.put {m : Mk} (h : NnM m) (s : ByteArray) : NnM (m.put s) := by
 unfold Mk.put
 split
 ·exact ⟨onLast_all (P := fun p => 0 ≤ p.keep ∧ 0 ≤ p.drop) (f := fun p => { p with put := p.put ++ s }) (fun p hp => hp) _ h.last.1, h.last.2⟩
 ·exact h
theorem NnM.drop {m : Mk} (h : NnM m) (n : Int) : NnM (m.drop n) := by
 unfold Mk.drop
 split
 ·exact ⟨onLast_all (P := fun p => 0 ≤ p.keep ∧ 0 ≤ p.drop) (f := fun p => { p with drop := p.drop + n }) (fun p hp => ⟨hp.1, by show 0 ≤ p.drop + n; omega⟩) _ h.last.1, h.last.2⟩
 ·exact h
/-- More is kept. -/
def Mk.more (m : Mk) (n : Int) : Mk := { m with keep := m.keep + n }
theorem wtM_more (m : Mk) (n : Int) : wtM (m.more n) = wtM m + n := by unfold wtM Mk.more; simp only; omega
theorem NnM.more {m : Mk} (h : NnM m) {n : Int} (h0 : 0 ≤ n) : NnM (m.more n) := ⟨h.1, by have := h.2; show 0 ≤ m.keep + n; omega⟩
theorem NnM.piece {m : Mk} (h : NnM m) {p : Pc} (h1 : 0 ≤ p.keep) : NnM (m.piece p) := ((h.more h1).put _).drop _
theorem NnM.pieces : ∀ {l : List Pc} {m : Mk}, NnM m → Nn l → NnM (m.pieces l)
 | [], _, h, _ => h
 | _ :: r, _, h, k => NnM.pieces (l := r) (h.piece (k _ List.mem_cons_self).1) k.tail
theorem NnM.zero : NnM ⟨[], 0⟩ := ⟨fun _ h => absurd h List.not_mem_nil, Int.le_refl _⟩
theorem pcsOk_nn : ∀ {l : List Pc} {n : Nat}, pcsOk n l = true → Nn l ∧ wt l ≤ (l.length : Int) * 2097152 + putLen l ∧ n + putLen l ≤ max n 1048576
 | [], n, _ => ⟨fun _ h => absurd h List.not_mem_nil, by show (0 : Int) ≤ _; simp [putLen], by show n + 0 ≤ _; omega⟩
 | p :: r, n, h => by
  simp only [pcsOk, Bool.and_eq_true, decide_eq_true_eq] at h
  obtain ⟨⟨h1, h2⟩, h3⟩ := h
  simp only [pcOk, Bool.and_eq_true, decide_eq_true_eq] at h1
  obtain ⟨a, b, c⟩ := pcsOk_nn h3
  refine ⟨Nn.cons ⟨h1.1.1.1, h1.1.2⟩ a, ?_, ?_⟩
  ·show p.keep + p.drop + p.put.size + wt r ≤ ((r.length + 1 : Nat) : Int) * 2097152 + ((p.put.size + putLen r : Nat) : Int)
   omega
  ·show n + (p.put.size + putLen r) ≤ _
   omega
theorem right_nn {l : List Pc} (h : pcsRight l = true) : Nn l ∧ wt l ≤ 10000000000 ∧ l.length ≤ 4096 := by
 simp only [pcsRight, Bool.and_eq_true, decide_eq_true_eq] at h
 obtain ⟨a, b, c⟩ := pcsOk_nn h.2
 refine ⟨a, ?_, h.1⟩
 have := h.1
 omega
def phi1 (p : Pc) : Nat := (if 0 < p.keep then 1 else 0) + (if 0 < p.drop then 1 else 0)
def phi : List Pc → Nat
 | [] => 0
 | p :: r => phi1 p + phi r
theorem phi_put : ∀ l : List Pc, phi (rPut l) = phi l
 | [] => rfl
 | p :: r => by simp only [rPut]; split <;> rfl
theorem phi_skip : ∀ l : List Pc, phi (rSkip l) = phi l
 | [] => rfl
 | p :: r => by
  simp only [rSkip]
  split
  ·rfl
  ·rename_i h
   rw [phi_skip r]
   have : phi1 p = 0 := by unfold phi1; rw [if_neg (by omega), if_neg (by omega)]
   show _ = phi1 p + phi r
   omega
theorem wt_put : ∀ l : List Pc, wt (rPut l) + (rPutS l).size = wt l
 | [] => rfl
 | p :: r => by
  simp only [rPut, rPutS]
  split
  ·show _ + ((0 : Nat) : Int) = _; omega
  ·show p.keep + p.drop + ((0 : Nat) : Int) + wt r + _ = p.keep + p.drop + p.put.size + wt r
   omega
theorem Nn.put : ∀ {l : List Pc}, Nn l → Nn (rPut l)
 | [], h => h
 | p :: r, h => by
  simp only [rPut]
  split
  ·exact h
  ·exact Nn.cons (h p List.mem_cons_self) h.tail
theorem Nn.skip : ∀ {l : List Pc}, Nn l → Nn (rSkip l)
 | [], h => h
 | p :: r, h => by
  simp only [rSkip]
  split
  ·exact h
  ·exact Nn.skip h.tail
theorem wt_skip : ∀ {l : List Pc}, Nn l → wt (rSkip l) ≤ wt l
 | [], _ => Int.le_refl _
 | p :: r, h => by
  simp only [rSkip]
  split
  ·exact Int.le_refl _
  ·have h1 := wt_skip h.tail
   have h2 := h p List.mem_cons_self
   show _ ≤ p.keep + p.drop + p.put.size + wt r
   omega
theorem Nn.take {l : List Pc} {n : Int} (h : Nn l) (hn : l ≠ [] → n ≤ rN l) : Nn (rTake n l) := by
 cases l with
 | nil => exact h
 | cons p r =>
  have hn := hn (by simp)
  obtain ⟨h1, h2⟩ := h p List.mem_cons_self
  simp only [rTake]
  simp only [rN] at hn
  split
  ·rename_i hk
   rw [if_pos hk] at hn
   exact Nn.cons ⟨by show 0 ≤ p.keep - n; omega, h2⟩ h.tail
  ·rename_i hk
   rw [if_neg hk] at hn
   exact Nn.cons ⟨h1, by show 0 ≤ p.drop - n; omega⟩ h.tail
theorem wt_take {l : List Pc} {n : Int} (h : l ≠ []) : wt (rTake n l) = wt l - n := by
 cases l with
 | nil => exact absurd rfl h
 | cons p r =>
  simp only [rTake]
  split
  ·show p.keep - n + p.drop + p.put.size + wt r = p.keep + p.drop + p.put.size + wt r - n; omega
  ·show p.keep + (p.drop - n) + p.put.size + wt r = p.keep + p.drop + p.put.size + wt r - n; omega
theorem phi_take {l : List Pc} {n : Int} (hn : l ≠ [] → 0 ≤ n ∧ n ≤ rN l) : phi (rTake n l) ≤ phi l := by
 cases l with
 | nil => exact Nat.le_refl _
 | cons p r =>
  obtain ⟨h0, hn⟩ := hn (by simp)
  simp only [rTake]
  simp only [rN] at hn
  split
  ·show phi1 _ + phi r ≤ phi1 p + phi r
   have : phi1 { p with keep := p.keep - n } ≤ phi1 p := by
    unfold phi1; simp only
    split <;> split <;> omega
   omega
  ·rename_i hk
   show phi1 _ + phi r ≤ phi1 p + phi r
   have : phi1 { p with drop := p.drop - n } ≤ phi1 p := by
    unfold phi1; simp only
    rw [if_neg hk]
    split <;> split <;> omega
   omega
theorem phi_take_lt {l : List Pc} (hn : 0 < rN l) : phi (rTake (rN l) l) < phi l := by
 cases l with
 | nil => exact absurd hn (by show ¬ (0 : Int) < 0; omega)
 | cons p r =>
  simp only [rTake]
  simp only [rN] at hn ⊢
  split
  ·rename_i hk
   show phi1 _ + phi r < phi1 p + phi r
   have : phi1 { p with keep := p.keep - p.keep } < phi1 p := by
    unfold phi1; simp only
    rw [if_neg (by omega), if_pos hk]
    omega
   omega
  ·rename_i hk
   rw [if_neg hk] at hn
   show phi1 _ + phi r < phi1 p + phi r
   have : phi1 { p with drop := p.drop - p.drop } < phi1 p := by
    unfold phi1; simp only
    rw [if_neg hk, if_neg (by omega), if_pos hn]
    omega
   omega
theorem rN_skip_pos {l : List Pc} (h : rSkip l ≠ []) : 0 < rN (rSkip l) := by
 rcases rSkip_cases l with e | ⟨p, r, e, hp⟩
 ·exact absurd e h
 ·rw [e]
  simp only [rN]
  split
  ·assumption
  ·omega
structure St where
 p : List Pc
 q : List Pc
 x : Mk
 y : Mk
def putsX (prior : Bool) (s u : ByteArray) (x : Mk) : Mk := if prior then (x.put s).more u.size else (x.more u.size).put s
def putsY (prior : Bool) (s u : ByteArray) (y : Mk) : Mk := if prior then (y.more s.size).put u else (y.put u).more s.size
def St.puts (prior : Bool) (s : St) : St := ⟨rPut s.p, rPut s.q, putsX prior (rPutS s.p) (rPutS s.q) s.x, putsY prior (rPutS s.p) (rPutS s.q) s.y⟩
def St.more (s : St) : Bool := bSome (rSkip s.p) (rSkip s.q)
def St.n (s : St) : Int := bN (rSkip s.p) (rSkip s.q)
def goX (a b : Bool) (n : Int) (x : Mk) : Mk := if a then (if b then x else x.drop n) else (if b then x else x.more n)
def St.go (s : St) : St := ⟨rTake s.n (rSkip s.p), rTake s.n (rSkip s.q), goX (rD (rSkip s.p)) (rD (rSkip s.q)) s.n s.x, goX (rD (rSkip s.q)) (rD (rSkip s.p)) s.n s.y⟩
def St.phi (s : St) : Nat := Sy.phi s.p + Sy.phi s.q
/-- What holds of a state all the time. -/
structure St.Ok (s : St) (T : Int) (L : Nat) : Prop where
 np : Nn s.p
 nq : Nn s.q
 nx : NnM s.x
 ny : NnM s.y
 tx : wtM s.x + wt s.p + wt s.q ≤ T
 ty : wtM s.y + wt s.p + wt s.q ≤ T
 lx : s.x.l.length + 2 * s.phi ≤ L
 ly : s.y.l.length + 2 * s.phi ≤ L
theorem putsX_nn {prior : Bool} {s u : ByteArray} {x : Mk} (h : NnM x) : NnM (putsX prior s u x) := by
 unfold putsX; split
 ·exact (h.put _).more (by omega)
 ·exact (h.more (by omega)).put _
theorem putsY_nn {prior : Bool} {s u : ByteArray} {y : Mk} (h : NnM y) : NnM (putsY prior s u y) := by
 unfold putsY; split
 ·exact (h.more (by omega)).put _
 ·exact (h.put _).more (by omega)
theorem putsX_wt (prior : Bool) (s u : ByteArray) (x : Mk) : wtM (putsX prior s u x) = wtM x + s.size + u.size := by
 unfold putsX; split
 ·rw [wtM_more, wtM_put]
 ·rw [wtM_put, wtM_more]; omega
theorem putsY_wt (prior : Bool) (s u : ByteArray) (x : Mk) : wtM (putsY prior s u x) = wtM x + s.size + u.size := by
 unfold putsY; split
 ·rw [wtM_put, wtM_more]
 ·rw [wtM_more, wtM_put]; omega
theorem putsX_len (prior : Bool) (s u : ByteArray) (x : Mk) : (putsX prior s u x).l.length ≤ x.l.length + 1 := by
 unfold putsX; split
 ·exact x.put_len s
 ·exact Mk.put_len (x.more _) s
theorem putsY_len (prior : Bool) (s u : ByteArray) (x : Mk) : (putsY prior s u x).l.length ≤ x.l.length + 1 := by
 unfold putsY; split
 ·exact Mk.put_len (x.more _) u
 ·exact x.put_len u
theorem St.Ok.puts {s : St} {T : Int} {L : Nat} (h : s.Ok T L) (prior : Bool) : (s.puts prior).Ok T (L + 1) := by
 have e1 := wt_put s.p
 have e2 := wt_put s.q
 have e3 := phi_put s.p
 have e4 := phi_put s.q
 obtain ⟨h1, h2, h3, h4, h5, h6, h7, h8⟩ := h
 unfold St.phi at h7 h8
 refine ⟨h1.put, h2.put, putsX_nn h3, putsY_nn h4, ?_, ?_, ?_, ?_⟩
 ·show wtM (putsX _ _ _ _) + wt (rPut s.p) + wt (rPut s.q) ≤ T
  rw [putsX_wt]; omega
 ·show wtM (putsY _ _ _ _) + wt (rPut s.p) + wt (rPut s.q) ≤ T
  rw [putsY_wt]; omega
 ·show (putsX _ _ _ _).l.length + 2 * (Sy.phi (rPut s.p) + Sy.phi (rPut s.q)) ≤ _
  have := putsX_len prior (rPutS s.p) (rPutS s.q) s.x
  rw [e3, e4]; omega
 ·show (putsY _ _ _ _).l.length + 2 * (Sy.phi (rPut s.p) + Sy.phi (rPut s.q)) ≤ _
  have := putsY_len prior (rPutS s.p) (rPutS s.q) s.y
  rw [e3, e4]; omega
theorem goX_nn {a b : Bool} {n : Int} {x : Mk} (h : NnM x) (h0 : 0 ≤ n) : NnM (goX a b n x) := by
 unfold goX; split <;> split
 ·exact h
 ·exact h.drop n
 ·exact h
 ·exact h.more h0
theorem goX_wt {a b : Bool} {n : Int} {x : Mk} (h0 : 0 ≤ n) : wtM (goX a b n x) ≤ wtM x + n := by
 unfold goX; split <;> split
 ·omega
 ·rw [wtM_drop _ _ h0]; omega
 ·omega
 ·rw [wtM_more]; omega
theorem goX_len (a b : Bool) (n : Int) (x : Mk) : (goX a b n x).l.length ≤ x.l.length + 1 := by
 unfold goX; split <;> split
 ·omega
 ·exact x.drop_len n
 ·omega
 ·exact Nat.le_succ _
theorem St.n_le {s : St} {T : Int} {L : Nat} (h : s.Ok T L) : 0 ≤ s.n ∧ (rSkip s.p ≠ [] → s.n ≤ rN (rSkip s.p)) ∧ (rSkip s.q ≠ [] → s.n ≤ rN (rSkip s.q)) := by
 have h1 := RB.of_wt (C := (wt (rSkip s.p)).toNat) h.np.skip (by have := wt_nn h.np.skip; omega)
 have h2 := RB.of_wt (C := (wt (rSkip s.q)).toNat) h.nq.skip (by have := wt_nn h.nq.skip; omega)
 have k1 : RB (max (wt (rSkip s.p)).toNat (wt (rSkip s.q)).toNat) (rSkip s.p) := fun p hp => by have := h1 p hp; omega
 have k2 : RB (max (wt (rSkip s.p)).toNat (wt (rSkip s.q)).toNat) (rSkip s.q) := fun p hp => by have := h2 p hp; omega
 obtain ⟨a, b, c, d⟩ := bN_le k1 k2
 exact ⟨a, c, d⟩
theorem St.n_is {s : St} (h : s.more = true) : (rSkip s.p ≠ [] ∧ s.n = rN (rSkip s.p)) ∨ (rSkip s.q ≠ [] ∧ s.n = rN (rSkip s.q)) := by
 unfold St.more bSome at h
 unfold St.n
 cases ha : rSkip s.p with
 | nil =>
  cases hb : rSkip s.q with
  | nil => rw [ha, hb] at h; exact absurd h (by decide)
  | cons q r => exact .inr ⟨by simp, rfl⟩
 | cons p r =>
  cases hb : rSkip s.q with
  | nil => exact .inl ⟨by simp, rfl⟩
  | cons q t =>
   rw [bN_cons]
   rcases Int.lt_or_le (rN (q :: t)) (rN (p :: r)) with hm | hm
   ·exact .inr ⟨by simp, by omega⟩
   ·exact .inl ⟨by simp, by omega⟩
theorem St.go_phi {s : St} {T : Int} {L : Nat} (h : s.Ok T L) (hm : s.more = true) : s.go.phi < s.phi := by
 obtain ⟨a, b, c⟩ := St.n_le h
 have hp : Sy.phi (rTake s.n (rSkip s.p)) ≤ Sy.phi s.p := by rw [← phi_skip s.p]; exact phi_take (fun h => ⟨a, b h⟩)
 have hq : Sy.phi (rTake s.n (rSkip s.q)) ≤ Sy.phi s.q := by rw [← phi_skip s.q]; exact phi_take (fun h => ⟨a, c h⟩)
 show Sy.phi (rTake s.n (rSkip s.p)) + Sy.phi (rTake s.n (rSkip s.q)) < Sy.phi s.p + Sy.phi s.q
 rcases St.n_is hm with ⟨h1, h2⟩ | ⟨h1, h2⟩
 ·have := phi_take_lt (rN_skip_pos h1)
  rw [phi_skip, ← h2] at this
  omega
 ·have := phi_take_lt (rN_skip_pos h1)
  rw [phi_skip, ← h2] at this
  omega
theorem St.Ok.go {s : St} {T : Int} {L : Nat} (h : s.Ok T (L + 1)) (hm : s.more = true) : s.go.Ok T L := by
 have hphi := St.go_phi h hm
 obtain ⟨n0, n1, n2⟩ := St.n_le h
 have hi := St.n_is hm
 obtain ⟨h1, h2, h3, h4, h5, h6, h7, h8⟩ := h
 have hw : wt (rTake s.n (rSkip s.p)) + wt (rTake s.n (rSkip s.q)) + s.n ≤ wt s.p + wt s.q := by
  have a1 := wt_skip h1
  have a2 := wt_skip h2
  have b1 : wt (rTake s.n (rSkip s.p)) ≤ wt (rSkip s.p) := by
   cases hs : rSkip s.p with
   | nil => exact Int.le_refl _
   | cons x r => rw [wt_take (by simp)]; omega
  have b2 : wt (rTake s.n (rSkip s.q)) ≤ wt (rSkip s.q) := by
   cases hs : rSkip s.q with
   | nil => exact Int.le_refl _
   | cons x r => rw [wt_take (by simp)]; omega
  rcases hi with ⟨h1, h2⟩ | ⟨h1, h2⟩
  ·have := wt_take (n := s.n) h1; omega
  ·have := wt_take (n := s.n) h1; omega
 refine ⟨h1.skip.take n1, h2.skip.take n2, goX_nn h3 n0, goX_nn h4 n0, ?_, ?_, ?_, ?_⟩
 ·show wtM (goX _ _ _ _) + wt (rTake s.n (rSkip s.p)) + wt (rTake s.n (rSkip s.q)) ≤ T
  have := goX_wt (a := rD (rSkip s.p)) (b := rD (rSkip s.q)) (x := s.x) n0
  omega
 ·show wtM (goX _ _ _ _) + wt (rTake s.n (rSkip s.p)) + wt (rTake s.n (rSkip s.q)) ≤ T
  have := goX_wt (a := rD (rSkip s.q)) (b := rD (rSkip s.p)) (x := s.y) n0
  omega
 ·show (goX _ _ _ _).l.length + 2 * s.go.phi ≤ L
  have := goX_len (rD (rSkip s.p)) (rD (rSkip s.q)) s.n s.x
  omega
 ·show (goX _ _ _ _).l.length + 2 * s.go.phi ≤ L
  have := goX_len (rD (rSkip s.q)) (rD (rSkip s.p)) s.n s.y
  omega
end Go.Proofs.Ytdnjkffmgmbfmaa.Sy
