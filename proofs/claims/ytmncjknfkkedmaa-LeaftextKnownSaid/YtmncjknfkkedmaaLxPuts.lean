/- Chapter 05: Transform's closure: what is put at one place. -/
import Derived.Test.YtmncjknfkkedmaaLxTPlain
namespace Go.Proofs.Ytmncjknfkkedmaa.Lx
open Go.RowKit Go.Proofs.Ytmncjknfkkedmaa.Bw Go.Proofs.Ytmncjknfkkedmaa.Bs

/-- Where the blocks lie. -/
structure TD (w0 : World) (Bo N : Nat) (Gp Gq : Option Nat) : Prop where
  b0 : w0.heap.size ≤ Bo
  bn : Bo < N
  gp : ∀ g, Gp = some g → Bo < g ∧ g < N
  gq : ∀ g, Gq = some g → Bo < g ∧ g < N
  pq : ∀ g, Gp = some g → Gq = some g → False
/-- Transform's state in memory. -/
structure TAt (W w0 : World) (Bo N : Nat) (Gp Gq : Option Nat) (prior : Bool) (s : St) (lx ly : Value) : Prop where
  rp : RowAt W N Gp s.p
  rq : RowAt W (N + 1) Gq s.q
  pr : NBox W Bo 4 #[.bool prior]
  mx : MkAt W (N + 2) (N + 4) s.x lx
  my : MkAt W (N + 3) (N + 4) s.y ly
  dis : ∀ k, lx.ownBlock = some k → ly.ownBlock = some k → False
  ext : Ext w0 W
theorem MkAt.fr {W W' : World} {S : Nat → Prop} (F : Fr W W' S) {B base : Nat} {m : Mk} {lv : Value} (h : MkAt W B base m lv) (hB : ¬ S B) (hs : ∀ g, lv.ownBlock = some g → ¬ S g) : MkAt W' B base m lv :=
  ⟨h.1.fr F hB, owns_fr F h.2.1 hs, h.2.2.1, Nat.le_trans h.2.2.2 F.size⟩
theorem MkAt.more {W : World} {B base : Nat} {m : Mk} {lv : Value} (h : MkAt W B base m lv) (n : Int) : MkAt (W.setCell ⟨B, 1, none⟩ (.int .i64 (m.keep + n))) B base (m.more n) lv := by
  refine ⟨h.1.set 1 _, owns_fr (Fr.setCell W B 1 _) h.2.1 (fun g hg h0 => ?_), h.2.2.1, Nat.le_trans h.2.2.2 (Fr.setCell W B 1 _).size⟩
  have := owns_base h.2.1 g hg
  have := h.2.2.1
  omega
theorem TAt.onX {W W' w0 : World} {Bo N : Nat} {Gp Gq : Option Nat} {prior : Bool} {s : St} {lx ly : Value} (D : TD w0 Bo N Gp Gq) (h : TAt W w0 Bo N Gp Gq prior s lx ly) {x' : Mk} {lx' : Value}
    (M : MkAt W' (N + 2) (N + 4) x' lx') (F : Fr W W' (fun k => k = N + 2 ∨ lx.ownBlock = some k)) (G : ∀ k, lx'.ownBlock = some k → lx.ownBlock = some k ∨ W.heap.size ≤ k) : TAt W' w0 Bo N Gp Gq prior { s with x := x' } lx' ly := by
  have ox : ∀ k, lx.ownBlock = some k → N + 4 ≤ k := fun k hk => owns_base h.mx.2.1 k hk
  have oy : ∀ k, ly.ownBlock = some k → N + 4 ≤ k ∧ k < W.heap.size := fun k hk => h.my.2.1.lt k hk
  have d1 := D.b0
  have d2 := D.bn
  refine ⟨h.rp.fr F ?_ ?_, h.rq.fr F ?_ ?_, h.pr.fr F ?_, M, h.my.fr F ?_ ?_, ?_, Fr.ext h.ext F ?_⟩
  · rintro (e | e)
    · omega
    · have := ox _ e; omega
  · rintro g hg (e | e)
    · have := D.gp g hg; omega
    · have := ox _ e; have := D.gp g hg; omega
  · rintro (e | e)
    · omega
    · have := ox _ e; omega
  · rintro g hg (e | e)
    · have := D.gq g hg; omega
    · have := ox _ e; have := D.gq g hg; omega
  · rintro (e | e)
    · omega
    · have := ox _ e; omega
  · rintro (e | e)
    · omega
    · have := ox _ e; omega
  · rintro g hg (e | e)
    · have := oy g hg; omega
    · exact h.dis g e hg
  · intro k hx hy
    rcases G k hx with e | e
    · exact h.dis k e hy
    · have := oy k hy; omega
  · rintro k (e | e)
    · omega
    · have := ox _ e; omega
theorem TAt.onY {W W' w0 : World} {Bo N : Nat} {Gp Gq : Option Nat} {prior : Bool} {s : St} {lx ly : Value} (D : TD w0 Bo N Gp Gq) (h : TAt W w0 Bo N Gp Gq prior s lx ly) {y' : Mk} {ly' : Value}
    (M : MkAt W' (N + 3) (N + 4) y' ly') (F : Fr W W' (fun k => k = N + 3 ∨ ly.ownBlock = some k)) (G : ∀ k, ly'.ownBlock = some k → ly.ownBlock = some k ∨ W.heap.size ≤ k) : TAt W' w0 Bo N Gp Gq prior { s with y := y' } lx ly' := by
  have ox : ∀ k, ly.ownBlock = some k → N + 4 ≤ k := fun k hk => owns_base h.my.2.1 k hk
  have oy : ∀ k, lx.ownBlock = some k → N + 4 ≤ k ∧ k < W.heap.size := fun k hk => h.mx.2.1.lt k hk
  have d1 := D.b0
  have d2 := D.bn
  refine ⟨h.rp.fr F ?_ ?_, h.rq.fr F ?_ ?_, h.pr.fr F ?_, h.mx.fr F ?_ ?_, M, ?_, Fr.ext h.ext F ?_⟩
  · rintro (e | e)
    · omega
    · have := ox _ e; omega
  · rintro g hg (e | e)
    · have := D.gp g hg; omega
    · have := ox _ e; have := D.gp g hg; omega
  · rintro (e | e)
    · omega
    · have := ox _ e; omega
  · rintro g hg (e | e)
    · have := D.gq g hg; omega
    · have := ox _ e; have := D.gq g hg; omega
  · rintro (e | e)
    · omega
    · have := ox _ e; omega
  · rintro (e | e)
    · omega
    · have := ox _ e; omega
  · rintro g hg (e | e)
    · have := oy g hg; omega
    · exact h.dis g hg e
  · intro k hx hy
    rcases G k hy with e | e
    · exact h.dis k hx e
    · have := oy k hx; omega
  · rintro k (e | e)
    · omega
    · have := ox _ e; omega
theorem TAt.rows {W W' w0 : World} {Bo N : Nat} {Gp Gq : Option Nat} {prior : Bool} {s : St} {lx ly : Value} (D : TD w0 Bo N Gp Gq) (h : TAt W w0 Bo N Gp Gq prior s lx ly) {p' q' : List Pc}
    (M : RowAt W' N Gp p') (M2 : RowAt W' (N + 1) Gq q') (F : Fr W W' (fun k => k = N ∨ k = N + 1 ∨ Gp = some k ∨ Gq = some k)) : TAt W' w0 Bo N Gp Gq prior { s with p := p', q := q' } lx ly := by
  have ox : ∀ k, ly.ownBlock = some k → N + 4 ≤ k := fun k hk => owns_base h.my.2.1 k hk
  have oy : ∀ k, lx.ownBlock = some k → N + 4 ≤ k := fun k hk => owns_base h.mx.2.1 k hk
  have d1 := D.b0
  have d2 := D.bn
  refine ⟨M, M2, h.pr.fr F ?_, h.mx.fr F ?_ ?_, h.my.fr F ?_ ?_, h.dis, Fr.ext h.ext F ?_⟩
  · rintro (e | e | e | e)
    · omega
    · omega
    · have := D.gp _ e; omega
    · have := D.gq _ e; omega
  · rintro (e | e | e | e)
    · omega
    · omega
    · have := D.gp _ e; omega
    · have := D.gq _ e; omega
  · rintro g hg (e | e | e | e)
    · have := oy g hg; omega
    · have := oy g hg; omega
    · have := oy g hg; have := D.gp _ e; omega
    · have := oy g hg; have := D.gq _ e; omega
  · rintro (e | e | e | e)
    · omega
    · omega
    · have := D.gp _ e; omega
    · have := D.gq _ e; omega
  · rintro g hg (e | e | e | e)
    · have := ox g hg; omega
    · have := ox g hg; omega
    · have := ox g hg; have := D.gp _ e; omega
    · have := ox g hg; have := D.gq _ e; omega
  · rintro k (e | e | e | e)
    · omega
    · omega
    · have := D.gp _ e; omega
    · have := D.gq _ e; omega

theorem TAt.moreX {W w0 : World} {Bo N : Nat} {Gp Gq : Option Nat} {prior : Bool} {s : St} {lx ly : Value} (D : TD w0 Bo N Gp Gq) (h : TAt W w0 Bo N Gp Gq prior s lx ly) (n : Int) : TAt (W.setCell ⟨N + 2, 1, none⟩ (.int .i64 (s.x.keep + n))) w0 Bo N Gp Gq prior { s with x := s.x.more n } lx ly :=
  h.onX D (h.mx.more n) ((Fr.setCell _ _ _ _).mono (fun _ h => .inl h)) (fun _ hk => .inl hk)
theorem TAt.moreY {W w0 : World} {Bo N : Nat} {Gp Gq : Option Nat} {prior : Bool} {s : St} {lx ly : Value} (D : TD w0 Bo N Gp Gq) (h : TAt W w0 Bo N Gp Gq prior s lx ly) (n : Int) : TAt (W.setCell ⟨N + 3, 1, none⟩ (.int .i64 (s.y.keep + n))) w0 Bo N Gp Gq prior { s with y := s.y.more n } lx ly :=
  h.onY D (h.my.more n) ((Fr.setCell _ _ _ _).mono (fun _ h => .inl h)) (fun _ hk => .inl hk)

set_option maxRecDepth 100000 in
set_option maxHeartbeats 2000000 in
theorem puts_any (w0 : World) (Bo N : Nat) (Gp Gq : Option Nat) (prior : Bool) (s : St) (lx ly : Value) (D : TD w0 Bo N Gp Gq) (w : World) (h : TAt w w0 Bo N Gp Gq prior s lx ly) {T : Int} (hT : T ≤ 1000000000000) {L : Nat} (hL : L ≤ 900000) (ok : s.Ok T L) :
    Calls Try.prog 33 #[.pointer (some ⟨N, 0, none⟩), .pointer (some ⟨N + 1, 0, none⟩), .pointer (some ⟨Bo, 0, none⟩), .pointer (some ⟨N + 2, 0, none⟩), .pointer (some ⟨N + 3, 0, none⟩)] w fun e w' => ∃ lx' ly', e = .returned (.tuple #[]) ∧ TAt w' w0 Bo N Gp Gq prior (s.puts prior) lx' ly' := by
  obtain ⟨v, Nv, V⟩ := h.rp
  have c0 := Nv.cell 0
  have hc := rput_any Gp s.p v w V
  go_enter Try.func33, Try.ntmps33
  go_wp2_with fail
  refine hc.mono ?_
  clear hc c0
  rintro e w1 ⟨rfl, V1, F1⟩
  have h1 : TAt w1 w0 Bo N Gp Gq prior { s with p := rPut s.p } lx ly := h.rows D ⟨v, Nv.fr F1 (fun e => by have := D.gp _ e; omega), V1⟩ (h.rq.fr F1 (fun e => by have := D.gp _ e; omega) (fun g hg e => D.pq g e hg)) (F1.mono (fun k hk => .inr (.inr (.inl hk))))
  clear Nv V V1 F1 h
  obtain ⟨u, Nu, U⟩ := h1.rq
  have c0 := Nu.cell 0
  have hc := rput_any Gq s.q u w1 U
  go_wp2_with fail
  refine hc.mono ?_
  clear hc c0
  rintro e w2 ⟨rfl, U2, F2⟩
  have h2 : TAt w2 w0 Bo N Gp Gq prior { s with p := rPut s.p, q := rPut s.q } lx ly := h1.rows D (h1.rp.fr F2 (fun e => by have := D.gq _ e; omega) (fun g hg e => D.pq g hg e)) ⟨u, Nu.fr F2 (fun e => by have := D.gq _ e; omega), U2⟩ (F2.mono (fun k hk => .inr (.inr (.inr hk))))
  clear Nu U U2 F2 h1
  have r0 := h2.pr.cell 0
  have kx := MB.of_wt (n := 900000) (C := 1000000000000) ok.nx (by have := ok.tx; have := wt_nn ok.np; have := wt_nn ok.nq; omega) (by have := ok.lx; omega)
  have ky := MB.of_wt (n := 900000) (C := 1000000000000) ok.ny (by have := ok.ty; have := wt_nn ok.np; have := wt_nn ok.nq; omega) (by have := ok.ly; omega)
  obtain ⟨S, hS⟩ : ∃ S, rPutS s.p = S := ⟨_, rfl⟩
  obtain ⟨U, hU⟩ : ∃ U, rPutS s.q = U := ⟨_, rfl⟩
  have kxw : wtM s.x + S.size + U.size ≤ 1000000000000 := by
    have a1 := wt_put s.p; have a2 := wt_put s.q; have a3 := wt_nn ok.np.put; have a4 := wt_nn ok.nq.put; have a5 := ok.tx
    rw [hS] at a1; rw [hU] at a2; omega
  have kyw : wtM s.y + S.size + U.size ≤ 1000000000000 := by
    have a1 := wt_put s.p; have a2 := wt_put s.q; have a3 := wt_nn ok.np.put; have a4 := wt_nn ok.nq.put; have a5 := ok.ty
    rw [hS] at a1; rw [hU] at a2; omega
  have xn : 0 ≤ wtM s.x := by have := wt_nn ok.nx.1; have := ok.nx.2; unfold wtM; omega
  have yn : 0 ≤ wtM s.y := by have := wt_nn ok.ny.1; have := ok.ny.2; unfold wtM; omega
  rw [hS, hU]
  have HS := Lib.hid hS
  have HU := Lib.hid hU
  clear hS hU
  cases prior
  · have hc := put_any s.y (N + 3) (N + 4) ly U w2 h2.my (by have := ky.len; omega) (fun q hq => (ky.bnd q hq).1) (by omega)
    go_wp2_with fail
    refine hc.mono ?_
    clear hc r0
    rintro e w3 ⟨l3, rfl, M, F, G⟩
    have h3 := h2.onY D M F G
    clear M F G h2
    have ca := h3.my.1.cell 1
    have fa := h3.my.1.frozen 1
    have cb := h3.mx.1.cell 1
    have fb := h3.mx.1.frozen 1
    have kA : NnM (s.y.put U) := ok.ny.put _
    have ka0 := kA.2
    have kaw := wtM_put s.y U
    have ka1 := wt_nn kA.1
    have kb0 := ok.nx.2
    have kb1 := wt_nn ok.nx.1
    have kB : NnM (s.x.more U.size) := ok.nx.more (by omega)
    have kbw := wtM_more s.x U.size
    have kB2 := MB.of_wt (n := 900000) (C := 1000000000000) kB (by omega) (show s.x.l.length ≤ _ by have := kx.len; omega)
    unfold wtM at kaw kyw kxw
    have a1 : 0 ≤ (s.y.put U).keep + (S.size : Int) ∧ (s.y.put U).keep + (S.size : Int) ≤ 1000000000000 := by omega
    have a2 : 0 ≤ s.x.keep + (U.size : Int) ∧ s.x.keep + (U.size : Int) ≤ 1000000000000 := by omega
    have h4 := h3.moreX D U.size
    have h5 := h4.moreY D S.size
    have hc := put_any (s.x.more U.size) (N + 2) (N + 4) lx S _ h5.mx (by have := kB2.len; omega) (fun q hq => (kB2.bnd q hq).1) (by omega)
    clear kA ka0 kaw ka1 kb0 kb1 kB kbw kB2
    have ne1 : ¬ (N + 2 = N + 3) := by omega
    have ne2 : ¬ (N + 3 = N + 2) := by omega
    go_wp2_with fail
    refine hc.mono ?_
    clear hc
    rintro e w6 ⟨l6, rfl, M, F, G⟩
    have h6 := h5.onX D M F G
    clear M F G h5 h4 h3
    go_wp2_with fail
    refine bodyPost_end (results_none rfl _ _ _) rfl ?_
    rw [← HS.out, ← HU.out] at h6
    exact ⟨l6, l3, rfl, h6⟩
  · have hc := put_any s.x (N + 2) (N + 4) lx S w2 h2.mx (by have := kx.len; omega) (fun q hq => (kx.bnd q hq).1) (by omega)
    go_wp2_with fail
    refine hc.mono ?_
    clear hc r0
    rintro e w3 ⟨l3, rfl, M, F, G⟩
    have h3 := h2.onX D M F G
    clear M F G h2
    have ca := h3.mx.1.cell 1
    have fa := h3.mx.1.frozen 1
    have cb := h3.my.1.cell 1
    have fb := h3.my.1.frozen 1
    have kA : NnM (s.x.put S) := ok.nx.put _
    have ka0 := kA.2
    have kaw := wtM_put s.x S
    have ka1 := wt_nn kA.1
    have kb0 := ok.ny.2
    have kb1 := wt_nn ok.ny.1
    have kB : NnM (s.y.more S.size) := ok.ny.more (by omega)
    have kbw := wtM_more s.y S.size
    have kB2 := MB.of_wt (n := 900000) (C := 1000000000000) kB (by omega) (show s.y.l.length ≤ _ by have := ky.len; omega)
    unfold wtM at kaw kxw kyw
    have a1 : 0 ≤ (s.x.put S).keep + (U.size : Int) ∧ (s.x.put S).keep + (U.size : Int) ≤ 1000000000000 := by omega
    have a2 : 0 ≤ s.y.keep + (S.size : Int) ∧ s.y.keep + (S.size : Int) ≤ 1000000000000 := by omega
    have h4 := h3.moreY D S.size
    have h5 := h4.moreX D U.size
    have hc := put_any (s.y.more S.size) (N + 3) (N + 4) ly U _ h5.my (by have := kB2.len; omega) (fun q hq => (kB2.bnd q hq).1) (by omega)
    clear kA ka0 kaw ka1 kb0 kb1 kB kbw kB2
    have ne1 : ¬ (N + 2 = N + 3) := by omega
    have ne2 : ¬ (N + 3 = N + 2) := by omega
    go_wp2_with fail
    refine hc.mono ?_
    clear hc
    rintro e w6 ⟨l6, rfl, M, F, G⟩
    have h6 := h5.onY D M F G
    clear M F G h5 h4 h3
    go_wp2_with fail
    refine bodyPost_ret (results_none rfl _ _ _) rfl ?_
    rw [← HS.out, ← HU.out] at h6
    exact ⟨l3, l6, rfl, h6⟩
end Go.Proofs.Ytmncjknfkkedmaa.Lx
