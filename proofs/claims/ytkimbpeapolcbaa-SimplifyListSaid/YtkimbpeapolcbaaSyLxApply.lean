/- Chapter 10: LxPuts turned to this seat. (Printed by gsyport.py.) -/
import Derived.Test.YtkimbpeapolcbaaSyLxTPlain
namespace Go.Proofs.Ytkimbpeapolcbaa.Sy
open Go.RowKit Go.Proofs.Ytkimbpeapolcbaa.Bw Go.Proofs.Ytkimbpeapolcbaa.Bs

/-- Where the blocks lie. -/
structure TD (w0 : World) (Bo N : Nat) (Gp Gq : Option Nat) : Prop where
  b0 : w0.heap.size ≤ Bo
  bn : Bo < N
  gp : ∀ g, Gp = some g → Bo < g ∧ g < N
  gq : ∀ g, Gq = some g → Bo < g ∧ g < N
  pq : ∀ g, Gp = some g → Gq = some g → False
/-- Transform's state in memory. -/
structure TAt (W w0 : World) (Bo N : Nat) (Gp Gq : Option Nat) (prior : Bool) (s : St) (lx ly : Value) : Prop where
  rp : RowAt W N Gp s.p
  rq : RowAt W (N + 1) Gq s.q
  pr : NBox W Bo 4 #[.bool prior]
  mx : MkAt W (N + 2) (N + 4) s.x lx
  my : MkAt W (N + 3) (N + 4) s.y ly
  dis : ∀ k, lx.ownBlock = some k → ly.ownBlock = some k → False
  ext : Ext w0 W
theorem MkAt.fr {W W' : World} {S : Nat → Prop} (F : Fr W W' S) {B base : Nat} {m : Mk} {lv : Value} (h : MkAt W B base m lv) (hB : ¬ S B) (hs : ∀ g, lv.ownBlock = some g → ¬ S g) : MkAt W' B base m lv :=
  ⟨h.1.fr F hB, owns_fr F h.2.1 hs, h.2.2.1, Nat.le_trans h.2.2.2 F.size⟩
theorem MkAt.more {W : World} {B base : Nat} {m : Mk} {lv : Value} (h : MkAt W B base m lv) (n : Int) : MkAt (W.setCell ⟨B, 1, none⟩ (.int .i64 (m.keep + n))) B base (m.more n) lv := by
  refine ⟨h.1.set 1 _, owns_fr (Fr.setCell W B 1 _) h.2.1 (fun g hg h0 => ?_), h.2.2.1, Nat.le_trans h.2.2.2 (Fr.setCell W B 1 _).size⟩
  have := owns_base h.2.1 g hg
  have := h.2.2.1
  omega
theorem TAt.onX {W W' w0 : World} {Bo N : Nat} {Gp Gq : Option Nat} {prior : Bool} {s : St} {lx ly : Value} (D : TD w0 Bo N Gp Gq) (h : TAt W w0 Bo N Gp Gq prior s lx ly) {x' : Mk} {lx' : Value}
    (M : MkAt W' (N + 2) (N + 4) x' lx') (F : Fr W W' (fun k => k = N + 2 ∨ lx.ownBlock = some k)) (G : ∀ k, lx'.ownBlock = some k → lx.ownBlock = some k ∨ W.heap.size ≤ k) : TAt W' w0 Bo N Gp Gq prior { s with x := x' } lx' ly := by
  have ox : ∀ k, lx.ownBlock = some k → N + 4 ≤ k := fun k hk => owns_base h.mx.2.1 k hk
  have oy : ∀ k, ly.ownBlock = some k → N + 4 ≤ k ∧ k < W.heap.size := fun k hk => h.my.2.1.lt k hk
  have d1 := D.b0
  have d2 := D.bn
  refine ⟨h.rp.fr F ?_ ?_, h.rq.fr F ?_ ?_, h.pr.fr F ?_, M, h.my.fr F ?_ ?_, ?_, Fr.ext h.ext F ?_⟩
  · rintro (e | e)
    · omega
    · have := ox _ e; omega
  · rintro g hg (e | e)
    · have := D.gp g hg; omega
    · have := ox _ e; have := D.gp g hg; omega
  · rintro (e | e)
    · omega
    · have := ox _ e; omega
  · rintro g hg (e | e)
    · have := D.gq g hg; omega
    · have := ox _ e; have := D.gq g hg; omega
  · rintro (e | e)
    · omega
    · have := ox _ e; omega
  · rintro (e | e)
    · omega
    · have := ox _ e; omega
  · rintro g hg (e | e)
    · have := oy g hg; omega
    · exact h.dis g e hg
  · intro k hx hy
    rcases G k hx with e | e
    · exact h.dis k e hy
    · have := oy k hy; omega
  · rintro k (e | e)
    · omega
    · have := ox _ e; omega
theorem TAt.onY {W W' w0 : World} {Bo N : Nat} {Gp Gq : Option Nat} {prior : Bool} {s : St} {lx ly : Value} (D : TD w0 Bo N Gp Gq) (h : TAt W w0 Bo N Gp Gq prior s lx ly) {y' : Mk} {ly' : Value}
    (M : MkAt W' (N + 3) (N + 4) y' ly') (F : Fr W W' (fun k => k = N + 3 ∨ ly.ownBlock = some k)) (G : ∀ k, ly'.ownBlock = some k → ly.ownBlock = some k ∨ W.heap.size ≤ k) : TAt W' w0 Bo N Gp Gq prior { s with y := y' } lx ly' := by
  have ox : ∀ k, ly.ownBlock = some k → N + 4 ≤ k := fun k hk => owns_base h.my.2.1 k hk
  have oy : ∀ k, lx.ownBlock = some k → N + 4 ≤ k ∧ k < W.heap.size := fun k hk => h.mx.2.1.lt k hk
  have d1 := D.b0
  have d2 := D.bn
  refine ⟨h.rp.fr F ?_ ?_, h.rq.fr F ?_ ?_, h.pr.fr F ?_, h.mx.fr F ?_ ?_, M, ?_, Fr.ext h.ext F ?_⟩
  · rintro (e | e)
    · omega
    · have := ox _ e; omega
  · rintro g hg (e | e)
    · have := D.gp g hg; omega
    · have := ox _ e; have := D.gp g hg; omega
  · rintro (e | e)
    · omega
    · have := ox _ e; omega
  · rintro g hg (e | e)
    · have := D.gq g hg; omega
    · have := ox _ e; have := D.gq g hg; omega
  · rintro (e | e)
    · omega
    · have := ox _ e; omega
  · rintro (e | e)
    · omega
    · have := ox _ e; omega
  · rintro g hg (e | e)
    · have := oy g hg; omega
    · exact h.dis g hg e
  · intro k hx hy
    rcases G k hy with e | e
    · exact h.dis k hx e
    · have := oy k hx; omega
  · rintro k (e | e)
    · omega
    · have := ox _ e; omega
theorem TAt.rows {W W' w0 : World} {Bo N : Nat} {Gp Gq : Option Nat} {prior : Bool} {s : St} {lx ly : Value} (D : TD w0 Bo N Gp Gq) (h : TAt W w0 Bo N Gp Gq prior s lx ly) {p' q' : List Pc}
    (M : RowAt W' N Gp p') (M2 : RowAt W' (N + 1) Gq q') (F : Fr W W' (fun k => k = N ∨ k = N + 1 ∨ Gp = some k ∨ Gq = some k)) : TAt W' w0 Bo N Gp Gq prior { s with p := p', q := q' } lx ly := by
  have ox : ∀ k, ly.ownBlock = some k → N + 4 ≤ k := fun k hk => owns_base h.my.2.1 k hk
  have oy : ∀ k, lx.ownBlock = some k → N + 4 ≤ k := fun k hk => owns_base h.mx.2.1 k hk
  have d1 := D.b0
  have d2 := D.bn
  refine ⟨M, M2, h.pr.fr F ?_, h.mx.fr F ?_ ?_, h.my.fr F ?_ ?_, h.dis, Fr.ext h.ext F ?_⟩
  · rintro (e | e | e | e)
    · omega
    · omega
    · have := D.gp _ e; omega
    · have := D.gq _ e; omega
  · rintro (e | e | e | e)
    · omega
    · omega
    · have := D.gp _ e; omega
    · have := D.gq _ e; omega
  · rintro g hg (e | e | e | e)
    · have := oy g hg; omega
    · have := oy g hg; omega
    · have := oy g hg; have := D.gp _ e; omega
    · have := oy g hg; have := D.gq _ e; omega
  · rintro (e | e | e | e)
    · omega
    · omega
    · have := D.gp _ e; omega
    · have := D.gq _ e; omega
  · rintro g hg (e | e | e | e)
    · have := ox g hg; omega
    · have := ox g hg; omega
    · have := ox g hg; have := D.gp _ e; omega
    · have := ox g hg; have := D.gq _ e; omega
  · rintro k (e | e | e | e)
    · omega
    · omega
    · have := D.gp _ e; omega
    · have := D.gq _ e; omega
theorem TAt.moreX {W w0 : World} {Bo N : Nat} {Gp Gq : Option Nat} {prior : Bool} {s : St} {lx ly : Value} (D : TD w0 Bo N Gp Gq) (h : TAt W w0 Bo N Gp Gq prior s lx ly) (n : Int) : TAt (W.setCell ⟨N + 2, 1, none⟩ (.int .i64 (s.x.keep + n))) w0 Bo N Gp Gq prior { s with x := s.x.more n } lx ly :=
  h.onX D (h.mx.more n) ((Fr.setCell _ _ _ _).mono (fun _ h => .inl h)) (fun _ hk => .inl hk)
theorem TAt.moreY {W w0 : World} {Bo N : Nat} {Gp Gq : Option Nat} {prior : Bool} {s : St} {lx ly : Value} (D : TD w0 Bo N Gp Gq) (h : TAt W w0 Bo N Gp Gq prior s lx ly) (n : Int) : TAt (W.setCell ⟨N + 3, 1, none⟩ (.int .i64 (s.y.keep + n))) w0 Bo N Gp Gq prior { s with y := s.y.more n } lx ly :=
  h.onY D (h.my.more n) ((Fr.setCell _ _ _ _).mono (fun _ h => .inl h)) (fun _ hk => .inl hk)
end Go.Proofs.Ytkimbpeapolcbaa.Sy
namespace Go.Proofs.Ytkimbpeapolcbaa.Sy
open Go.RowKit Go.Proofs.Ytkimbpeapolcbaa.Bw Go.Proofs.Ytkimbpeapolcbaa.Bs

theorem rdPcs_of_vals {W : World} {g : Nat} : ∀ {l : List Pc} {off : Nat}, (∀ i x, (pcVals l)[i]? = some x → W.cell? ⟨g, off + i, none⟩ = some x) → (∀ p ∈ l, okStr p.put) → rdPcs W g off l
  | [], _, _, _ => trivial
  | p :: r, off, h, hs => by
    have e : pcVals (p :: r) = .int .i64 p.keep :: .int .i64 p.drop :: .string p.put :: pcVals r := rfl
    rw [e] at h
    refine ⟨h 0 _ rfl, h 1 _ rfl, h 2 _ rfl, hs p List.mem_cons_self, rdPcs_of_vals (fun i x hx => ?_) (fun q hq => hs q (List.mem_cons_of_mem _ hq))⟩
    have := h (i + 3) x (by simpa using hx)
    rwa [show off + 3 + i = off + (i + 3) by omega]
theorem RowV.of_owns {W : World} {base : Nat} {l : List Pc} {v : Value} (h : W.ownsRow base 35 3 v l.length (pcVals l)) (hs : ∀ p ∈ l, okStr p.put) : RowV W v.ownBlock l v := by
  have hc := fun g => h.cells (g := g)
  rcases h.2 with ⟨rfl, h0⟩ | ⟨g, cap, cur, rfl, hb, hg, h4, h5, h6, h7⟩
  · exact ⟨none, 0, by rw [h0], by omega, by decide, fun h1 => by omega⟩
  · refine ⟨_, cap, rfl, h4, h5, fun _ => ⟨g, 0, cur, rfl, rfl, hg, rdPcs_of_vals (fun i x hx => ?_) hs⟩⟩
    have := hc g rfl i x hx
    rw [Addr.add_lit] at this
    exact this
theorem RdP.of_owns {W : World} {base : Nat} {l : List Pc} {v : Value} (h : W.ownsRow base 35 3 v l.length (pcVals l)) (hs : ∀ p ∈ l, okStr p.put) : RdP W l v := (RowV.of_owns h hs).rd
theorem RdP.nil (W : World) : RdP W [] (.slice none 0 0) := ⟨none, 0, rfl, Nat.le_refl _, by decide, fun h => absurd h (by simp)⟩
theorem okStr_of {n C : Nat} {m : Mk} (h : MB n C m) (hC : C ≤ 1000000000000) : ∀ p ∈ m.l, okStr p.put := fun p hp => by
  have := (h.bnd p hp).1
  unfold okStr maxLen
  omega
set_option maxRecDepth 100000 in
set_option maxHeartbeats 2000000 in
theorem done_any (m : Mk) (B base : Nat) (lv : Value) (w : World) (h : MkAt w B base m lv) (hs : ∀ p ∈ m.l, okStr p.put) : Calls Try.prog 63 #[.pointer (some ⟨B, 0, none⟩)] w fun e w' => e = .returned (.tuple #[lv, .bool (pcsRight m.l)]) ∧ Ext w w' := by
  have hR := RdP.of_owns h.2.1 hs
  have hR0 := hR
  obtain ⟨A, c, rfl, _⟩ := hR
  have c0 := h.1.cell 0
  go_enter Try.func63, Try.ntmps63
  go_wp2_with fail
  go_region_held3 (fun W => Ext w W ∧ W.cell? ⟨B, 0, none⟩ = some (.slice A m.l.length c)) (first | exact ⟨(Ext.refl w).drew, c0⟩ | exact ⟨E2, E2.cell c0⟩) ((go_at_call 46; have hh := ‹Ext w _ ∧ _›; refine (right_any m.l _ _ (hR0.ext hh.1)).mono ?_; rintro e u ⟨r, rfl, rfl, hE⟩; have E2 := Ext.trans hh.1 hE; clear hE))
  go_wp2_with fail
  go_ret2
  exact ⟨rfl, E2⟩
end Go.Proofs.Ytkimbpeapolcbaa.Sy
namespace Go.Proofs.Ytkimbpeapolcbaa.Sy
open Go.RowKit Go.Proofs.Ytkimbpeapolcbaa.Bw Go.Proofs.Ytkimbpeapolcbaa.Bs

theorem onLast_onLast (f g : Pc → Pc) : ∀ l : List Pc, onLast g (onLast f l) = onLast (fun p => g (f p)) l
  | [] => rfl
  | [_] => rfl
  | x :: y :: r => by
    have h := onLast_onLast f g (y :: r)
    have hne : onLast f (y :: r) ≠ [] := by
      intro h0
      have := onLast_len f (y :: r)
      rw [h0] at this; simp at this
    obtain ⟨z, t, hzt⟩ := List.exists_cons_of_ne_nil hne
    show onLast g (x :: onLast f (y :: r)) = x :: onLast (fun p => g (f p)) (y :: r)
    rw [← h, hzt]
    rfl
theorem onLast_ne {f : Pc → Pc} {l : List Pc} (h : l ≠ []) : onLast f l ≠ [] := by
  intro h0
  have := onLast_len f l
  rw [h0] at this
  exact h (List.eq_nil_of_length_eq_zero (by simpa using this.symm))
theorem onLast_id {f : Pc → Pc} (hf : ∀ p, f p = p) : ∀ l : List Pc, onLast f l = l
  | [] => rfl
  | [p] => by show [f p] = _; rw [hf]
  | x :: y :: r => by show x :: onLast f (y :: r) = _; rw [onLast_id hf]
theorem bytes_empty {s : ByteArray} (h : s.size = 0) : s = ⟨#[]⟩ := by
  obtain ⟨d⟩ := s
  congr
  exact Array.eq_empty_of_size_eq_zero h
theorem append_none {s t : ByteArray} (h : t.size = 0) : s ++ t = s := by
  rw [bytes_empty h]; exact ByteArray.append_empty
/-- What the document does with a piece. -/
theorem piece_ref (m : Mk) (p : Pc) (hk : 0 ≤ m.keep) (hp : 0 ≤ p.keep) (hd : 0 ≤ p.drop) : m.piece p =
    if p.put.size = 0 ∧ p.drop = 0 then m.more p.keep
    else if m.keep + p.keep = 0 ∧ m.l ≠ [] then ⟨onLast (fun q => { q with put := q.put ++ p.put, drop := q.drop + p.drop }) m.l, 0⟩
    else ⟨m.l ++ [⟨m.keep + p.keep, p.drop, p.put⟩], 0⟩ := by
  rw [Mk.piece_eq]
  obtain ⟨l, k⟩ := m
  obtain ⟨pk, pd, pp⟩ := p
  simp only at hk hp hd ⊢
  have hK : 0 ≤ k + pk := by omega
  show ((Mk.mk l (k + pk)).put pp).drop pd = _
  by_cases h1 : pp.size = 0
  · have hput : (Mk.mk l (k + pk)).put pp = ⟨l, k + pk⟩ := if_neg (by omega)
    rw [hput]
    by_cases h2 : pd = 0
    · rw [if_pos ⟨h1, h2⟩]
      exact if_neg (by omega)
    · rw [if_neg (fun h => h2 h.2)]
      have hdr : (Mk.mk l (k + pk)).drop pd = ⟨onLast (fun p => { p with drop := p.drop + pd }) (Mk.mk l (k + pk)).last.l, (Mk.mk l (k + pk)).last.keep⟩ := if_pos (by omega)
      rw [hdr]
      by_cases h3 : k + pk = 0 ∧ l ≠ []
      · rw [if_pos h3]
        have hl : (Mk.mk l (k + pk)).last = ⟨l, k + pk⟩ := if_neg (fun h => h.elim (fun h => by have := h3.1; simp only at h; omega) (fun h => h3.2 h))
        rw [hl, h3.1]
        simp only [append_none h1]
      · rw [if_neg h3]
        have hl : (Mk.mk l (k + pk)).last = ⟨l ++ [⟨k + pk, 0, ⟨#[]⟩⟩], 0⟩ := if_pos (by
          by_cases h : l = []
          · exact .inr h
          · exact .inl (by show 0 < k + pk; have : ¬ (k + pk = 0) := fun h' => h3 ⟨h', h⟩; omega))
        rw [hl, onLast_snoc, bytes_empty h1]
        simp
  · rw [if_neg (fun h => h1 h.1)]
    have hput : (Mk.mk l (k + pk)).put pp = ⟨onLast (fun p => { p with put := p.put ++ pp }) (Mk.mk l (k + pk)).last.l, (Mk.mk l (k + pk)).last.keep⟩ := if_pos (by omega)
    by_cases h3 : k + pk = 0 ∧ l ≠ []
    · rw [if_pos h3]
      have hl : (Mk.mk l (k + pk)).last = ⟨l, k + pk⟩ := if_neg (fun h => h.elim (fun h => by have := h3.1; simp only at h; omega) (fun h => h3.2 h))
      rw [hput, hl, h3.1]
      by_cases h2 : pd = 0
      · have hdr : (Mk.mk (onLast (fun p => { p with put := p.put ++ pp }) l) 0).drop pd = ⟨onLast (fun p => { p with put := p.put ++ pp }) l, 0⟩ := if_neg (by omega)
        rw [hdr, h2]
        simp
      · have hdr : (Mk.mk (onLast (fun p => { p with put := p.put ++ pp }) l) 0).drop pd = ⟨onLast (fun p => { p with drop := p.drop + pd }) (Mk.mk (onLast (fun p => { p with put := p.put ++ pp }) l) 0).last.l, (Mk.mk (onLast (fun p => { p with put := p.put ++ pp }) l) 0).last.keep⟩ := if_pos (by omega)
        have hl2 : (Mk.mk (onLast (fun p => { p with put := p.put ++ pp }) l) 0).last = ⟨onLast (fun p => { p with put := p.put ++ pp }) l, 0⟩ := if_neg (fun h => h.elim (fun h => by simp only at h; omega) (fun h => onLast_ne h3.2 h))
        rw [hdr, hl2, onLast_onLast]
    · rw [if_neg h3]
      have hl : (Mk.mk l (k + pk)).last = ⟨l ++ [⟨k + pk, 0, ⟨#[]⟩⟩], 0⟩ := if_pos (by
        by_cases h : l = []
        · exact .inr h
        · exact .inl (by show 0 < k + pk; have : ¬ (k + pk = 0) := fun h' => h3 ⟨h', h⟩; omega))
      rw [hput, hl, onLast_snoc]
      have e0 : (⟨#[]⟩ : ByteArray) ++ pp = pp := ByteArray.empty_append
      simp only [e0]
      by_cases h2 : pd = 0
      · have hdr : (Mk.mk (l ++ [⟨k + pk, 0, pp⟩]) 0).drop pd = ⟨l ++ [⟨k + pk, 0, pp⟩], 0⟩ := if_neg (by omega)
        rw [hdr, h2]
      · have hdr : (Mk.mk (l ++ [⟨k + pk, 0, pp⟩]) 0).drop pd = ⟨onLast (fun p => { p with drop := p.drop + pd }) (Mk.mk (l ++ [⟨k + pk, 0, pp⟩]) 0).last.l, (Mk.mk (l ++ [⟨k + pk, 0, pp⟩]) 0).last.keep⟩ := if_pos (by omega)
        have hl2 : (Mk.mk (l ++ [⟨k + pk, 0, pp⟩]) 0).last = ⟨l ++ [⟨k + pk, 0, pp⟩], 0⟩ := if_neg (fun h => h.elim (fun h => by simp only at h; omega) (fun h => by simp at h))
        rw [hdr, hl2, onLast_snoc]
        simp
end Go.Proofs.Ytkimbpeapolcbaa.Sy
namespace Go.Proofs.Ytkimbpeapolcbaa.Sy
open Go.RowKit Go.Proofs.Ytkimbpeapolcbaa.Bw Go.Proofs.Ytkimbpeapolcbaa.Bs

def normR (l : List Pc) : List Pc := if pcsRight l then normL l else []
theorem puts_ok {l : List Pc} (h : pcsRight l = true) : ∀ p ∈ normL l, okStr p.put := fun p hp => by
  obtain ⟨h1, h2, h3⟩ := right_nn h
  have h4 := wt_mem (normL_nn h1) hp
  have h5 := normL_wt h1
  have h6 := normL_nn h1 p hp
  unfold okStr maxLen; omega
set_option maxRecDepth 100000 in
set_option maxHeartbeats 2000000 in
theorem Norm_any (l : List Pc) (v : Value) (w : World) (h : RdP w l v) : Calls Try.prog 27 #[v] w fun e w' => ∃ v', e = .returned v' ∧ w'.ownsRow w.heap.size 35 3 v' (normR l).length (pcVals (normR l)) ∧ Ext w w' := by
  have hc := right_any l v w h
  obtain ⟨A, c, rfl, _⟩ := id h
  obtain ⟨r, hr⟩ : ∃ r, pcsRight l = r := ⟨_, rfl⟩
  rw [hr] at hc
  have HR := Lib.hid hr
  clear hr
  go_enter Try.func27, Try.ntmps27
  go_wp2_with fail
  refine hc.mono ?_
  clear hc
  rintro e w1 ⟨_, rfl, rfl, E1⟩
  cases r with
  | false =>
    go_wp2_with fail
    go_ret
    have e0 : normR l = [] := by unfold normR; rw [HR.out]; rfl
    rw [e0]
    exact ⟨_, rfl, ⟨rfl, .inl ⟨rfl, rfl⟩⟩, E1⟩
  | true =>
    have hn := norm_any l _ w1 (h.ext E1) HR.out
    go_wp2_with fail
    refine hn.mono ?_
    clear hn
    rintro e w2 ⟨v', rfl, O, E2⟩
    go_wp2_with fail
    go_ret
    have e0 : normR l = normL l := by unfold normR; rw [HR.out]; rfl
    rw [e0]
    exact ⟨_, rfl, owns_mono O E1.size, E1.trans E2⟩
/-- Of how many bytes an edit tells. -/
def extL : List Pc → Int
  | [] => 0
  | p :: r => p.keep + p.drop + extL r
theorem extL_nn : ∀ {l : List Pc}, Nn l → 0 ≤ extL l ∧ extL l ≤ wt l
  | [], _ => ⟨Int.le_refl _, Int.le_refl _⟩
  | p :: r, h => by
    have h1 := extL_nn h.tail
    have h2 := h p List.mem_cons_self
    show 0 ≤ p.keep + p.drop + extL r ∧ p.keep + p.drop + extL r ≤ p.keep + p.drop + p.put.size + wt r
    omega
theorem Nn.at {l : List Pc} (h : Nn l) {i : Nat} {p : Pc} (hp : l[i]? = some p) : 0 ≤ p.keep ∧ 0 ≤ p.drop := h p (List.mem_of_getElem? hp)
theorem Nn.drop {l : List Pc} (h : Nn l) (i : Nat) : Nn (l.drop i) := fun p hp => h p (List.mem_of_mem_drop hp)
theorem extL_at {l : List Pc} {i : Nat} {p : Pc} (hp : l[i]? = some p) : extL (l.drop i) = p.keep + p.drop + extL (l.drop (i + 1)) := by rw [drop_at hp]; rfl
/-- A text, edited. -/
def applyB (t : ByteArray) : List Pc → ByteArray
  | [] => t
  | p :: r => t.extract 0 p.keep.toNat ++ p.put ++ applyB (t.extract (p.keep + p.drop).toNat t.size) r
def apE (t : ByteArray) (l : List Pc) : Int := if pcsRight l then (if extL l ≤ t.size then 0 else 50) else 2
def apS (t : ByteArray) (l : List Pc) : ByteArray := if apE t l = 0 then applyB t l else ⟨#[]⟩
theorem applyB_at (t : ByteArray) {l : List Pc} {i : Nat} {p : Pc} (hp : l[i]? = some p) : applyB t (l.drop i) = t.extract 0 p.keep.toNat ++ p.put ++ applyB (t.extract (p.keep + p.drop).toNat t.size) (l.drop (i + 1)) := by rw [drop_at hp]; rfl
theorem wt_at {l : List Pc} {i : Nat} {p : Pc} (hp : l[i]? = some p) : wt (l.drop i) = p.keep + p.drop + p.put.size + wt (l.drop (i + 1)) := by rw [drop_at hp]; rfl
theorem wt_drop {l : List Pc} (h : Nn l) (i : Nat) : wt (l.drop i) ≤ wt l := by
  have h1 := wt_append (l.take i) (l.drop i)
  rw [List.take_append_drop] at h1
  have h2 : Nn (l.take i) := fun p hp => h p (List.mem_of_mem_take hp)
  have h3 := wt_nn h2
  omega
end Go.Proofs.Ytkimbpeapolcbaa.Sy
