/- Chapter 10: LxPuts turned to this seat. (Printed by gsyport.py.) -/
import Derived.Test.YtkimbpeapolcbaaSyLxTPlain
namespace Go.Proofs.Ytkimbpeapolcbaa.Sy
open Go.RowKit Go.Proofs.Ytkimbpeapolcbaa.Bw Go.Proofs.Ytkimbpeapolcbaa.Bs

/-- Where the blocks lie. -/
structure TD (w0 : World) (Bo N : Nat) (Gp Gq : Option Nat) : Prop where
  b0 : w0.heap.size ≤ Bo
  bn : Bo < N
  gp : ∀ g, Gp = some g → Bo < g ∧ g < N
  gq : ∀ g, Gq = some g → Bo < g ∧ g < N
  pq : ∀ g, Gp = some g → Gq = some g → False
/-- Transform's state in memory. -/
structure TAt (W w0 : World) (Bo N : Nat) (Gp Gq : Option Nat) (prior : Bool) (s : St) (lx ly : Value) : Prop where
  rp : RowAt W N Gp s.p
  rq : RowAt W (N + 1) Gq s.q
  pr : NBox W Bo 4 #[.bool prior]
  mx : MkAt W (N + 2) (N + 4) s.x lx
  my : MkAt W (N + 3) (N + 4) s.y ly
  dis : ∀ k, lx.ownBlock = some k → ly.ownBlock = some k → False
  ext : Ext w0 W
theorem MkAt.fr {W W' : World} {S : Nat → Prop} (F : Fr W W' S) {B base : Nat} {m : Mk} {lv : Value} (h : MkAt W B base m lv) (hB : ¬ S B) (hs : ∀ g, lv.ownBlock = some g → ¬ S g) : MkAt W' B base m lv :=
  ⟨h.1.fr F hB, owns_fr F h.2.1 hs, h.2.2.1, Nat.le_trans h.2.2.2 F.size⟩
theorem MkAt.more {W : World} {B base : Nat} {m : Mk} {lv : Value} (h : MkAt W B base m lv) (n : Int) : MkAt (W.setCell ⟨B, 1, none⟩ (.int .i64 (m.keep + n))) B base (m.more n) lv := by
  refine ⟨h.1.set 1 _, owns_fr (Fr.setCell W B 1 _) h.2.1 (fun g hg h0 => ?_), h.2.2.1, Nat.le_trans h.2.2.2 (Fr.setCell W B 1 _).size⟩
  have := owns_base h.2.1 g hg
  have := h.2.2.1
  omega
theorem TAt.onX {W W' w0 : World} {Bo N : Nat} {Gp Gq : Option Nat} {prior : Bool} {s : St} {lx ly : Value} (D : TD w0 Bo N Gp Gq) (h : TAt W w0 Bo N Gp Gq prior s lx ly) {x' : Mk} {lx' : Value}
    (M : MkAt W' (N + 2) (N + 4) x' lx') (F : Fr W W' (fun k => k = N + 2 ∨ lx.ownBlock = some k)) (G : ∀ k, lx'.ownBlock = some k → lx.ownBlock = some k ∨ W.heap.size ≤ k) : TAt W' w0 Bo N Gp Gq prior { s with x := x' } lx' ly := by
  have ox : ∀ k, lx.ownBlock = some k → N + 4 ≤ k := fun k hk => owns_base h.mx.2.1 k hk
  have oy : ∀ k, ly.ownBlock = some k → N + 4 ≤ k ∧ k < W.heap.size := fun k hk => h.my.2.1.lt k hk
  have d1 := D.b0
  have d2 := D.bn
  refine ⟨h.rp.fr F ?_ ?_, h.rq.fr F ?_ ?_, h.pr.fr F ?_, M, h.my.fr F ?_ ?_, ?_, Fr.ext h.ext F ?_⟩
  · rintro (e | e)
    · omega
    · have := ox _ e; omega
  · rintro g hg (e | e)
    · have := D.gp g hg; omega
    · have := ox _ e; have := D.gp g hg; omega
  · rintro (e | e)
    · omega
    · have := ox _ e; omega
  · rintro g hg (e | e)
    · have := D.gq g hg; omega
    · have := ox _ e; have := D.gq g hg; omega
  · rintro (e | e)
    · omega
    · have := ox _ e; omega
  · rintro (e | e)
    · omega
    · have := ox _ e; omega
  · rintro g hg (e | e)
    · have := oy g hg; omega
    · exact h.dis g e hg
  · intro k hx hy
    rcases G k hx with e | e
    · exact h.dis k e hy
    · have := oy k hy; omega
  · rintro k (e | e)
    · omega
    · have := ox _ e; omega
theorem TAt.onY {W W' w0 : World} {Bo N : Nat} {Gp Gq : Option Nat} {prior : Bool} {s : St} {lx ly : Value} (D : TD w0 Bo N Gp Gq) (h : TAt W w0 Bo N Gp Gq prior s lx ly) {y' : Mk} {ly' : Value}
    (M : MkAt W' (N + 3) (N + 4) y' ly') (F : Fr W W' (fun k => k = N + 3 ∨ ly.ownBlock = some k)) (G : ∀ k, ly'.ownBlock = some k → ly.ownBlock = some k ∨ W.heap.size ≤ k) : TAt W' w0 Bo N Gp Gq prior { s with y := y' } lx ly' := by
  have ox : ∀ k, ly.ownBlock = some k → N + 4 ≤ k := fun k hk => owns_base h.my.2.1 k hk
  have oy : ∀ k, lx.ownBlock = some k → N + 4 ≤ k ∧ k < W.heap.size := fun k hk => h.mx.2.1.lt k hk
  have d1 := D.b0
  have d2 := D.bn
  refine ⟨h.rp.fr F ?_ ?_, h.rq.fr F ?_ ?_, h.pr.fr F ?_, h.mx.fr F ?_ ?_, M, ?_, Fr.ext h.ext F ?_⟩
  · rintro (e | e)
    · omega
    · have := ox _ e; omega
  · rintro g hg (e | e)
    · have := D.gp g hg; omega
    · have := ox _ e; have := D.gp g hg; omega
  · rintro (e | e)
    · omega
    · have := ox _ e; omega
  · rintro g hg (e | e)
    · have := D.gq g hg; omega
    · have := ox _ e; have := D.gq g hg; omega
  · rintro (e | e)
    · omega
    · have := ox _ e; omega
  · rintro (e | e)
    · omega
    · have := ox _ e; omega
  · rintro g hg (e | e)
    · have := oy g hg; omega
    · exact h.dis g hg e
  · intro k hx hy
    rcases G k hy with e | e
    · exact h.dis k hx e
    · have := oy k hx; omega
  · rintro k (e | e)
    · omega
    · have := ox _ e; omega
theorem TAt.rows {W W' w0 : World} {Bo N : Nat} {Gp Gq : Option Nat} {prior : Bool} {s : St} {lx ly : Value} (D : TD w0 Bo N Gp Gq) (h : TAt W w0 Bo N Gp Gq prior s lx ly) {p' q' : List Pc}
    (M : RowAt W' N Gp p') (M2 : RowAt W' (N + 1) Gq q') (F : Fr W W' (fun k => k = N ∨ k = N + 1 ∨ Gp = some k ∨ Gq = some k)) : TAt W' w0 Bo N Gp Gq prior { s with p := p', q := q' } lx ly := by
  have ox : ∀ k, ly.ownBlock = some k → N + 4 ≤ k := fun k hk => owns_base h.my.2.1 k hk
  have oy : ∀ k, lx.ownBlock = some k → N + 4 ≤ k := fun k hk => owns_base h.mx.2.1 k hk
  have d1 := D.b0
  have d2 := D.bn
  refine ⟨M, M2, h.pr.fr F ?_, h.mx.fr F ?_ ?_, h.my.fr F ?_ ?_, h.dis, Fr.ext h.ext F ?_⟩
  · rintro (e | e | e | e)
    · omega
    · omega
    · have := D.gp _ e; omega
    · have := D.gq _ e; omega
  · rintro (e | e | e | e)
    · omega
    · omega
    · have := D.gp _ e; omega
    · have := D.gq _ e; omega
  · rintro g hg (e | e | e | e)
    · have := oy g hg; omega
    · have := oy g hg; omega
    · have := oy g hg; have := D.gp _ e; omega
    · have := oy g hg; have := D.gq _ e; omega
  · rintro (e | e | e | e)
    · omega
    · omega
    · have := D.gp _ e; omega
    · have := D.gq _ e; omega
  · rintro g hg (e | e | e | e)
    · have := ox g hg; omega
    · have := ox g hg; omega
    · have := ox g hg; have := D.gp _ e; omega
    · have := ox g hg; have := D.gq _ e; omega
  · rintro k (e | e | e | e)
    · omega
    · omega
    · have := D.gp _ e; omega
    · have := D.gq _ e; omega
theorem TAt.moreX {W w0 : World} {Bo N : Nat} {Gp Gq : Option Nat} {prior : Bool} {s : St} {lx ly : Value} (D : TD w0 Bo N Gp Gq) (h : TAt W w0 Bo N Gp Gq prior s lx ly) (n : Int) : TAt (W.setCell ⟨N + 2, 1, none⟩ (.int .i64 (s.x.keep + n))) w0 Bo N Gp Gq prior { s with x := s.x.more n } lx ly :=
  h.onX D (h.mx.more n) ((Fr.setCell _ _ _ _).mono (fun _ h => .inl h)) (fun _ hk => .inl hk)
theorem TAt.moreY {W w0 : World} {Bo N : Nat} {Gp Gq : Option Nat} {prior : Bool} {s : St} {lx ly : Value} (D : TD w0 Bo N Gp Gq) (h : TAt W w0 Bo N Gp Gq prior s lx ly) (n : Int) : TAt (W.setCell ⟨N + 3, 1, none⟩ (.int .i64 (s.y.keep + n))) w0 Bo N Gp Gq prior { s with y := s.y.more n } lx ly :=
  h.onY D (h.my.more n) ((Fr.setCell _ _ _ _).mono (fun _ h => .inl h)) (fun _ hk => .inl hk)
end Go.Proofs.Ytkimbpeapolcbaa.Sy
