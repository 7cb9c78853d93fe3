/- Chapter 10: LxPlainV turned to this seat. (Printed by gsyport.py.) -/
import Derived.Test.YtkimbpeapolcbaaSyLxPlainT
import Derived.Test.YtkimbpeapolcbaaSyLxPlainA
namespace Go.Proofs.Ytkimbpeapolcbaa.Sy
open Go.RowKit Go.Proofs.Ytkimbpeapolcbaa.Bw Go.Proofs.Ytkimbpeapolcbaa.Bs

theorem uRun_end (prior : Bool) : ∀ (N : Nat) (s : St), rSkip (rPut s.p) = [] → rSkip (rPut s.q) = [] → (uRun prior N s).x.l = (s.puts prior).x.l ∧ (uRun prior N s).y.l = (s.puts prior).y.l := by
 intro N
 induction N with
 | zero =>
  intro s h1 h2
  have e1 : rSkip (s.puts prior).p = [] := h1
  have e2 : rSkip (s.puts prior).q = [] := h2
  constructor
  ·show (goX (rD (rSkip (s.puts prior).p)) (rD (rSkip (s.puts prior).q)) 1 (s.puts prior).x).l = _
   rw [e1, e2]; rfl
  ·show (goX (rD (rSkip (s.puts prior).q)) (rD (rSkip (s.puts prior).p)) 1 (s.puts prior).y).l = _
   rw [e1, e2]; rfl
 | succ N ih =>
  intro s h1 h2
  have e1 : rSkip (s.puts prior).p = [] := h1
  have e2 : rSkip (s.puts prior).q = [] := h2
  have e3 : (s.puts prior).go1 = ⟨[], [], (s.puts prior).x.more 1, (s.puts prior).y.more 1⟩ := by
   unfold St.go1
   rw [e1, e2]; rfl
  show (uRun prior N (s.puts prior).go1).x.l = _ ∧ (uRun prior N (s.puts prior).go1).y.l = _
  rw [e3]
  obtain ⟨i1, i2⟩ := ih ⟨[], [], (s.puts prior).x.more 1, (s.puts prior).y.more 1⟩ rfl rfl
  rw [i1, i2]
  constructor
  ·show (putsX prior ⟨#[]⟩ ⟨#[]⟩ ((s.puts prior).x.more 1)).l = _
   rw [putsX_none]; rfl
  ·show (putsY prior ⟨#[]⟩ ⟨#[]⟩ ((s.puts prior).y.more 1)).l = _
   rw [putsY_none]; rfl
theorem ext_put : ∀ l : List Pc, extL (rPut l) = extL l
 | [] => rfl
 | p :: r => by
  simp only [rPut]
  split <;> rfl
theorem ext_skip : ∀ {l : List Pc}, Nn l → extL (rSkip l) ≤ extL l
 | [], _ => Int.le_refl _
 | p :: r, h => by
  simp only [rSkip]
  split
  ·exact Int.le_refl _
  ·have := ext_skip h.tail
   obtain ⟨h1, h2⟩ := h p List.mem_cons_self
   show _ ≤ p.keep + p.drop + extL r
   omega
theorem ext_take {l : List Pc} {n : Int} (h : l ≠ []) : extL (rTake n l) = extL l - n := by
 cases l with
 | nil => exact absurd rfl h
 | cons p r =>
  simp only [rTake]
  split
  ·show p.keep - n + p.drop + extL r = p.keep + p.drop + extL r - n; omega
  ·show p.keep + (p.drop - n) + extL r = p.keep + p.drop + extL r - n; omega
theorem rN_ext {l : List Pc} (h : Nn l) : rN l ≤ extL l := by
 cases l with
 | nil => exact Int.le_refl _
 | cons p r =>
  obtain ⟨h1, h2⟩ := h p List.mem_cons_self
  have := extL_nn h.tail
  simp only [rN]
  split
  ·show _ ≤ p.keep + p.drop + extL r; omega
  ·show _ ≤ p.keep + p.drop + extL r; omega
theorem more_false {a b : List Pc} (h : bSome a b = false) : a = [] ∧ b = [] := by
 cases a <;> cases b <;> simp [bSome] at h ⊢
theorem uRun_tRun (prior : Bool) : ∀ (k N : Nat) (s : St), s.phi < k → Nn s.p → Nn s.q → NR s.p → NR s.q → NnM s.x → NnM s.y → extL s.p ≤ (N : Int) → extL s.q ≤ (N : Int) → (uRun prior N s).x.l = (tRun prior k s).x.l ∧ (uRun prior N s).y.l = (tRun prior k s).y.l
 | 0, _, _, h, _, _, _, _, _, _, _, _ => absurd h (by omega)
 | k + 1, N, s, hk, np, nq, rp, rq, nx, ny, ep, eq => by
  have np1 : Nn (s.puts prior).p := np.put
  have nq1 : Nn (s.puts prior).q := nq.put
  have nx1 : NnM (s.puts prior).x := putsX_nn nx
  have ny1 : NnM (s.puts prior).y := putsY_nn ny
  have ep1 : extL (s.puts prior).p ≤ (N : Int) := by show extL (rPut s.p) ≤ _; rw [ext_put]; exact ep
  have eq1 : extL (s.puts prior).q ≤ (N : Int) := by show extL (rPut s.q) ≤ _; rw [ext_put]; exact eq
  have hphi : (s.puts prior).phi = s.phi := by show phi (rPut s.p) + phi (rPut s.q) = _; rw [phi_put, phi_put]; rfl
  have hpe : PE (rSkip (s.puts prior).p) := PE.of rp
  have hqe : PE (rSkip (s.puts prior).q) := PE.of rq
  have rp1 : NR (s.puts prior).p := rp.put
  have rq1 : NR (s.puts prior).q := rq.put
  have ok : (s.puts prior).Ok (wtM (s.puts prior).x + wtM (s.puts prior).y + wt (s.puts prior).p + wt (s.puts prior).q) ((s.puts prior).x.l.length + (s.puts prior).y.l.length + 2 * (s.puts prior).phi) := by
   have a1 := wt_nn nx1.1
   have a2 := nx1.2
   have a3 := wt_nn ny1.1
   have a4 := ny1.2
   refine ⟨np1, nq1, nx1, ny1, ?_, ?_, by omega, by omega⟩
   ·unfold wtM; omega
   ·unfold wtM; omega
  cases hm : (s.puts prior).more with
  | false =>
   obtain ⟨h1, h2⟩ := more_false hm
   obtain ⟨u1, u2⟩ := uRun_end prior N s h1 h2
   have et : tRun prior (k + 1) s = s.puts prior := by
    show (if (s.puts prior).more then _ else _) = _
    rw [hm]; rfl
   rw [et]
   exact ⟨u1, u2⟩
  | true =>
   have et : tRun prior (k + 1) s = tRun prior k (s.puts prior).go := by
    show (if (s.puts prior).more then _ else _) = _
    rw [hm]; rfl
   rw [et]
   have hlt := St.go_phi ok hm
   obtain ⟨n0, m1, m2⟩ := St.n_le ok
   have hpos : 0 < (s.puts prior).n ∧ (s.puts prior).n ≤ (N : Int) := by
    rcases St.n_is hm with ⟨h1, h2⟩ | ⟨h1, h2⟩
    ·have := rN_skip_pos h1
     have := rN_ext np1.skip
     have := ext_skip np1
     omega
    ·have := rN_skip_pos h1
     have := rN_ext nq1.skip
     have := ext_skip nq1
     omega
   obtain ⟨n, hn⟩ : ∃ n : Nat, (s.puts prior).n = n := ⟨(s.puts prior).n.toNat, by omega⟩
   have hstep := uRun_goN prior nx1 ny1 hpe hqe (n - 1) 1 N (by omega) (by omega) (fun h => by have := m1 h; omega) (fun h => by have := m2 h; omega)
   have e1 : uRun prior N s = uRun prior (N - 1) ((s.puts prior).goN ((1 : Nat) : Int)) := by
    obtain ⟨M, rfl⟩ : ∃ M, N = M + 1 := ⟨N - 1, by omega⟩
    rfl
   have e2 : (s.puts prior).goN (((1 + (n - 1) : Nat)) : Int) = (s.puts prior).go := by
    rw [show (1 + (n - 1) : Nat) = n by omega, ← hn]; rfl
   rw [e1, hstep, e2, show N - (1 + (n - 1)) = N - n by omega]
   have ext1 : extL (rTake (s.puts prior).n (rSkip (s.puts prior).p)) ≤ ((N - n : Nat) : Int) := by
    cases hs : rSkip (s.puts prior).p with
    | nil => show (0 : Int) ≤ _; omega
    | cons x r =>
     rw [← hs, ext_take (by rw [hs]; simp)]
     have := ext_skip np1
     omega
   have ext2 : extL (rTake (s.puts prior).n (rSkip (s.puts prior).q)) ≤ ((N - n : Nat) : Int) := by
    cases hs : rSkip (s.puts prior).q with
    | nil => show (0 : Int) ≤ _; omega
    | cons x r =>
     rw [← hs, ext_take (by rw [hs]; simp)]
     have := ext_skip nq1
     omega
   exact uRun_tRun prior k (N - n) (s.puts prior).go (by omega) (np1.skip.take m1) (nq1.skip.take m2) rp1.skip.take rq1.skip.take (goX_nn nx1 n0) (goX_nn ny1 n0) ext1 ext2
/-- Normal edits: behind the first piece all keep something. -/
theorem NR.onLast {f : Pc → Pc} (hf : ∀ p, (f p).keep = p.keep) : ∀ {l : List Pc}, NR l → NR (onLast f l)
 | [], h => h
 | [p], _ => fun x hx => absurd hx (by simp [Sy.onLast])
 | p :: q :: r, h => by
  intro x hx
  have hx' : x ∈ Sy.onLast f (q :: r) := hx
  exact onLast_all (P := fun p => 0 < p.keep) (f := f) (fun p hp => by rw [hf]; exact hp) (q :: r) (fun y hy => h y hy) x hx'
theorem NR.last {m : Mk} (h : NR m.l) : NR m.last.l := by
 unfold Mk.last
 split
 ·rename_i hc
  intro x hx
  cases hl : m.l with
  | nil => rw [hl] at hx; simp at hx
  | cons p r =>
   rw [hl] at hx h hc
   rcases List.mem_append.1 (show x ∈ r ++ [⟨m.keep, 0, ⟨#[]⟩⟩] from hx) with e | e
   ·exact h x e
   ·obtain rfl := List.mem_singleton.1 e
    exact hc.elim id (fun h => by simp at h)
 ·exact h
theorem NR.mput {m : Mk} (h : NR m.l) (s : ByteArray) : NR (m.put s).l := by
 unfold Mk.put
 split
 ·exact NR.onLast (f := fun p => { p with put := p.put ++ s }) (fun _ => rfl) h.last
 ·exact h
theorem NR.mdrop {m : Mk} (h : NR m.l) (n : Int) : NR (m.drop n).l := by
 unfold Mk.drop
 split
 ·exact NR.onLast (f := fun p => { p with drop := p.drop + n }) (fun _ => rfl) h.last
 ·exact h
theorem NR.pieces : ∀ (l : List Pc) {m : Mk}, NR m.l → NR (m.pieces l).l
 | [], _, h => h
 | p :: r, m, h => NR.pieces r (m := m.piece p) (by
   rw [Mk.piece_eq]
   exact NR.mdrop (NR.mput (m := m.more p.keep) h _) _)
theorem NR.normL (l : List Pc) : NR (normL l) := NR.pieces l (m := ⟨[], 0⟩) (fun _ h => absurd h (by simp))
/-- What the walk makes is what the document makes. -/
theorem trS_eq (prior : Bool) {a b : List Pc} (ha : Nn a) (hb : Nn b) (N : Nat) (h1 : extL (normL a) ≤ (N : Int)) (h2 : extL (normL b) ≤ (N : Int)) :
  (trS prior a b).x.l = normL (bhP prior (vwF (normL a) N) (vwF (normL b) N)) ∧ (trS prior a b).y.l = normL (bhP (!prior) (vwF (normL b) N) (vwF (normL a) N)) := by
 obtain ⟨e1, e2⟩ := uRun_tRun prior ((St.mk (normL a) (normL b) ⟨[], 0⟩ ⟨[], 0⟩).phi + 1) N ⟨normL a, normL b, ⟨[], 0⟩, ⟨[], 0⟩⟩ (Nat.lt_succ_self _) (normL_nn ha) (normL_nn hb) (NR.normL a) (NR.normL b) NnM.zero NnM.zero h1 h2
 obtain ⟨u1, u2⟩ := uRun_x prior N ⟨normL a, normL b, ⟨[], 0⟩, ⟨[], 0⟩⟩
 constructor
 ·show (tRun _ _ _).x.l = _
  rw [← e1, u1]; rfl
 ·show (tRun _ _ _).y.l = _
  rw [← e2, u2]; rfl
end Go.Proofs.Ytkimbpeapolcbaa.Sy
namespace Go.Proofs.Ytkimbpeapolcbaa.Sy
open Go.RowKit Go.Proofs.Ytkimbpeapolcbaa.Bw Go.Proofs.Ytkimbpeapolcbaa.Bs

theorem last_keep_zero {m : Mk} (h : 0 ≤ m.keep) : m.last.keep = 0 := by
 unfold Mk.last
 split
 ·rfl
 ·rename_i hn
  have : ¬ (0 < m.keep) := fun h1 => hn (.inl h1)
  omega
/-- Behind a put or a drop the last piece goes on. -/
theorem last_of {l : List Pc} (h : l ≠ []) : (Mk.mk l 0).last = ⟨l, 0⟩ := if_neg (fun h' => h'.elim (fun h' => by simp only at h'; omega) (fun h' => h h'))
theorem put_of {l : List Pc} (h : l ≠ []) {u : ByteArray} (hu : 0 < u.size) : (Mk.mk l 0).put u = ⟨onLast (fun p => { p with put := p.put ++ u }) l, 0⟩ := by
 have e : (Mk.mk l 0).put u = ⟨onLast (fun p => { p with put := p.put ++ u }) (Mk.mk l 0).last.l, (Mk.mk l 0).last.keep⟩ := if_pos hu
 rw [e, last_of h]
theorem drop_of {l : List Pc} (h : l ≠ []) {n : Int} (hn : 0 < n) : (Mk.mk l 0).drop n = ⟨onLast (fun p => { p with drop := p.drop + n }) l, 0⟩ := by
 have e : (Mk.mk l 0).drop n = ⟨onLast (fun p => { p with drop := p.drop + n }) (Mk.mk l 0).last.l, (Mk.mk l 0).last.keep⟩ := if_pos hn
 rw [e, last_of h]
theorem put_eq {m : Mk} (hm : 0 ≤ m.keep) {u : ByteArray} (hu : 0 < u.size) : m.put u = ⟨onLast (fun p => { p with put := p.put ++ u }) m.last.l, 0⟩ := by
 have e : m.put u = ⟨onLast (fun p => { p with put := p.put ++ u }) m.last.l, m.last.keep⟩ := if_pos hu
 rw [e, last_keep_zero hm]
theorem drop_eq {m : Mk} (hm : 0 ≤ m.keep) {n : Int} (hn : 0 < n) : m.drop n = ⟨onLast (fun p => { p with drop := p.drop + n }) m.last.l, 0⟩ := by
 have e : m.drop n = ⟨onLast (fun p => { p with drop := p.drop + n }) m.last.l, m.last.keep⟩ := if_pos hn
 rw [e, last_keep_zero hm]
theorem put_put {m : Mk} (hm : 0 ≤ m.keep) (u v : ByteArray) : (m.put u).put v = m.put (u ++ v) := by
 rcases Nat.eq_zero_or_pos u.size with hu | hu
 ·rw [put_none m hu, bytes_empty hu]
  congr 1
 ·rcases Nat.eq_zero_or_pos v.size with hv | hv
  ·rw [put_none _ hv, append_none hv]
  ·have huv : 0 < (u ++ v).size := by rw [ByteArray.size_append]; omega
   rw [put_eq hm hu, put_of (onLast_ne m.last_ne) hv, put_eq hm huv, onLast_onLast]
   simp only [ByteArray.append_assoc]
theorem drop_drop' {m : Mk} (hm : 0 ≤ m.keep) {a b : Int} (ha : 0 ≤ a) (hb : 0 ≤ b) : (m.drop a).drop b = m.drop (a + b) := by
 rcases Int.lt_or_le 0 a with h1 | h1
 ·rcases Int.lt_or_le 0 b with h2 | h2
  ·rw [drop_eq hm h1, drop_of (onLast_ne m.last_ne) h2, drop_eq hm (show 0 < a + b by omega), onLast_onLast]
   simp only [Int.add_assoc]
  ·rw [show b = 0 by omega, drop_zero_, Int.add_zero]
 ·rw [show a = 0 by omega, drop_zero_, Int.zero_add]
theorem drop_put {m : Mk} (hm : 0 ≤ m.keep) (u : ByteArray) {n : Int} (hn : 0 ≤ n) : (m.drop n).put u = (m.put u).drop n := by
 rcases Nat.eq_zero_or_pos u.size with hu | hu
 ·rw [put_none _ hu, put_none _ hu]
 ·rcases Int.lt_or_le 0 n with h2 | h2
  ·rw [drop_eq hm h2, put_of (onLast_ne m.last_ne) hu, put_eq hm hu, drop_of (onLast_ne m.last_ne) h2, onLast_onLast, onLast_onLast]
  ·rw [show n = 0 by omega, drop_zero_, drop_zero_]
end Go.Proofs.Ytkimbpeapolcbaa.Sy
