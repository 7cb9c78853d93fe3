/- Chapter 10: LxPuts turned to this seat. (Printed by gsyport.py.) -/
import Derived.Test.YtkimbpeapolcbaaSyLxTPlain
import Derived.Test.YtkimbpeapolcbaaSyWiLate
import Derived.WalkKit
import Derived.Deep.Cut
import Derived.Deep.CutRange
import Derived.Deep.RegionHeld3
import Derived.BigQuiet
import Derived.IntWalk
import Derived.Test.YtkimbpeapolcbaaSyBsInts
import Derived.Test.YtkimbpeapolcbaaSyLxFrame
import Derived.Test.YtkimbpeapolcbaaBsPlain
namespace Go.Proofs.Ytkimbpeapolcbaa.Sy
open Go.RowKit Go.Proofs.Ytkimbpeapolcbaa.Bw Go.Proofs.Ytkimbpeapolcbaa.Bs

/-- Where the blocks lie. -/
structure TD (w0 : World) (Bo N : Nat) (Gp Gq : Option Nat) : Prop where
 b0 : w0.heap.size ≤ Bo
 bn : Bo < N
 gp : ∀ g, Gp = some g → Bo < g ∧ g < N
 gq : ∀ g, Gq = some g → Bo < g ∧ g < N
 pq : ∀ g, Gp = some g → Gq = some g → False
/-- Transform's state in memory. -/
structure TAt (W w0 : World) (Bo N : Nat) (Gp Gq : Option Nat) (prior : Bool) (s : St) (lx ly : Value) : Prop where
 rp : RowAt W N Gp s.p
 rq : RowAt W (N + 1) Gq s.q
 pr : NBox W Bo 4 #[.bool prior]
 mx : MkAt W (N + 2) (N + 4) s.x lx
 my : MkAt W (N + 3) (N + 4) s.y ly
 dis : ∀ k, lx.ownBlock = some k → ly.ownBlock = some k → False
 ext : Ext w0 W
theorem MkAt.fr {W W' : World} {S : Nat → Prop} (F : Fr W W' S) {B base : Nat} {m : Mk} {lv : Value} (h : MkAt W B base m lv) (hB : ¬ S B) (hs : ∀ g, lv.ownBlock = some g → ¬ S g) : MkAt W' B base m lv :=
 ⟨h.1.fr F hB, owns_fr F h.2.1 hs, h.2.2.1, Nat.le_trans h.2.2.2 F.size⟩
theorem MkAt.more {W : World} {B base : Nat} {m : Mk} {lv : Value} (h : MkAt W B base m lv) (n : Int) : MkAt (W.setCell ⟨B, 1, none⟩ (.int .i64 (m.keep + n))) B base (m.more n) lv := by
 refine ⟨h.1.set 1 _, owns_fr (Fr.setCell W B 1 _) h.2.1 (fun g hg h0 => ?_), h.2.2.1, Nat.le_trans h.2.2.2 (Fr.setCell W B 1 _).size⟩
 have := owns_base h.2.1 g hg
 have := h.2.2.1
 omega
theorem TAt.onX {W W' w0 : World} {Bo N : Nat} {Gp Gq : Option Nat} {prior : Bool} {s : St} {lx ly : Value} (D : TD w0 Bo N Gp Gq) (h : TAt W w0 Bo N Gp Gq prior s lx ly) {x' : Mk} {lx' : Value}
  (M : MkAt W' (N + 2) (N + 4) x' lx') (F : Fr W W' (fun k => k = N + 2 ∨ lx.ownBlock = some k)) (G : ∀ k, lx'.ownBlock = some k → lx.ownBlock = some k ∨ W.heap.size ≤ k) : TAt W' w0 Bo N Gp Gq prior { s with x := x' } lx' ly := by
 have ox : ∀ k, lx.ownBlock = some k → N + 4 ≤ k := fun k hk => owns_base h.mx.2.1 k hk
 have oy : ∀ k, ly.ownBlock = some k → N + 4 ≤ k ∧ k < W.heap.size := fun k hk => h.my.2.1.lt k hk
 have d1 := D.b0
 have d2 := D.bn
 refine ⟨h.rp.fr F ?_ ?_, h.rq.fr F ?_ ?_, h.pr.fr F ?_, M, h.my.fr F ?_ ?_, ?_, Fr.ext h.ext F ?_⟩
 ·rintro (e | e)
  ·omega
  ·have := ox _ e; omega
 ·rintro g hg (e | e)
  ·have := D.gp g hg; omega
  ·have := ox _ e; have := D.gp g hg; omega
 ·rintro (e | e)
  ·omega
  ·have := ox _ e; omega
 ·rintro g hg (e | e)
  ·have := D.gq g hg; omega
  ·have := ox _ e; have := D.gq g hg; omega
 ·rintro (e | e)
  ·omega
  ·have := ox _ e; omega
 ·rintro (e | e)
  ·omega
  ·have := ox _ e; omega
 ·rintro g hg (e | e)
  ·have := oy g hg; omega
  ·exact h.dis g e hg
 ·intro k hx hy
  rcases G k hx with e | e
  ·exact h.dis k e hy
  ·have := oy k hy; omega
 ·rintro k (e | e)
  ·omega
  ·have := ox _ e; omega
theorem TAt.onY {W W' w0 : World} {Bo N : Nat} {Gp Gq : Option Nat} {prior : Bool} {s : St} {lx ly : Value} (D : TD w0 Bo N Gp Gq) (h : TAt W w0 Bo N Gp Gq prior s lx ly) {y' : Mk} {ly' : Value}
  (M : MkAt W' (N + 3) (N + 4) y' ly') (F : Fr W W' (fun k => k = N + 3 ∨ ly.ownBlock = some k)) (G : ∀ k, ly'.ownBlock = some k → ly.ownBlock = some k ∨ W.heap.size ≤ k) : TAt W' w0 Bo N Gp Gq prior { s with y := y' } lx ly' := by
 have ox : ∀ k, ly.ownBlock = some k → N + 4 ≤ k := fun k hk => owns_base h.my.2.1 k hk
 have oy : ∀ k, lx.ownBlock = some k → N + 4 ≤ k ∧ k < W.heap.size := fun k hk => h.mx.2.1.lt k hk
 have d1 := D.b0
 have d2 := D.bn
 refine ⟨h.rp.fr F ?_ ?_, h.rq.fr F ?_ ?_, h.pr.fr F ?_, h.mx.fr F ?_ ?_, M, ?_, Fr.ext h.ext F ?_⟩
 ·rintro (e | e)
  ·omega
  ·have := ox _ e; omega
 ·rintro g hg (e | e)
  ·have := D.gp g hg; omega
  ·have := ox _ e; have := D.gp g hg; omega
 ·rintro (e | e)
  ·omega
  ·have := ox _ e; omega
 ·rintro g hg (e | e)
  ·have := D.gq g hg; omega
  ·have := ox _ e; have := D.gq g hg; omega
 ·rintro (e | e)
  ·omega
  ·have := ox _ e; omega
 ·rintro (e | e)
  ·omega
  ·have := ox _ e; omega
 ·rintro g hg (e | e)
  ·have := oy g hg; omega
  ·exact h.dis g hg e
 ·intro k hx hy
  rcases G k hy with e | e
  ·exact h.dis k hx e
  ·have := oy k hx; omega
 ·rintro k (e | e)
  ·omega
  ·have := ox _ e; omega
theorem TAt.rows {W W' w0 : World} {Bo N : Nat} {Gp Gq : Option Nat} {prior : Bool} {s : St} {lx ly : Value} (D : TD w0 Bo N Gp Gq) (h : TAt W w0 Bo N Gp Gq prior s lx ly) {p' q' : List Pc}
  (M : RowAt W' N Gp p') (M2 : RowAt W' (N + 1) Gq q') (F : Fr W W' (fun k => k = N ∨ k = N + 1 ∨ Gp = some k ∨ Gq = some k)) : TAt W' w0 Bo N Gp Gq prior { s with p := p', q := q' } lx ly := by
 have ox : ∀ k, ly.ownBlock = some k → N + 4 ≤ k := fun k hk => owns_base h.my.2.1 k hk
 have oy : ∀ k, lx.ownBlock = some k → N + 4 ≤ k := fun k hk => owns_base h.mx.2.1 k hk
 have d1 := D.b0
 have d2 := D.bn
 refine ⟨M, M2, h.pr.fr F ?_, h.mx.fr F ?_ ?_, h.my.fr F ?_ ?_, h.dis, Fr.ext h.ext F ?_⟩
 ·rintro (e | e | e | e)
  ·omega
  ·omega
  ·have := D.gp _ e; omega
  ·have := D.gq _ e; omega
 ·rintro (e | e | e | e)
  ·omega
  ·omega
  ·have := D.gp _ e; omega
  ·have := D.gq _ e; omega
 ·rintro g hg (e | e | e | e)
  ·have := oy g hg; omega
  ·have := oy g hg; omega
  ·have := oy g hg; have := D.gp _ e; omega
  ·have := oy g hg; have := D.gq _ e; omega
 ·rintro (e | e | e | e)
  ·omega
  ·omega
  ·have := D.gp _ e; omega
  ·have := D.gq _ e; omega
 ·rintro g hg (e | e | e | e)
  ·have := ox g hg; omega
  ·have := ox g hg; omega
  ·have := ox g hg; have := D.gp _ e; omega
  ·have := ox g hg; have := D.gq _ e; omega
 ·rintro k (e | e | e | e)
  ·omega
  ·omega
  ·have := D.gp _ e; omega
  ·have := D.gq _ e; omega
theorem TAt.moreX {W w0 : World} {Bo N : Nat} {Gp Gq : Option Nat} {prior : Bool} {s : St} {lx ly : Value} (D : TD w0 Bo N Gp Gq) (h : TAt W w0 Bo N Gp Gq prior s lx ly) (n : Int) : TAt (W.setCell ⟨N + 2, 1, none⟩ (.int .i64 (s.x.keep + n))) w0 Bo N Gp Gq prior { s with x := s.x.more n } lx ly :=
 h.onX D (h.mx.more n) ((Fr.setCell _ _ _ _).mono (fun _ h => .inl h)) (fun _ hk => .inl hk)
theorem TAt.moreY {W w0 : World} {Bo N : Nat} {Gp Gq : Option Nat} {prior : Bool} {s : St} {lx ly : Value} (D : TD w0 Bo N Gp Gq) (h : TAt W w0 Bo N Gp Gq prior s lx ly) (n : Int) : TAt (W.setCell ⟨N + 3, 1, none⟩ (.int .i64 (s.y.keep + n))) w0 Bo N Gp Gq prior { s with y := s.y.more n } lx ly :=
 h.onY D (h.my.more n) ((Fr.setCell _ _ _ _).mono (fun _ h => .inl h)) (fun _ hk => .inl hk)
end Go.Proofs.Ytkimbpeapolcbaa.Sy
namespace Go.Proofs.Ytkimbpeapolcbaa.Sy
open Go.RowKit Go.Proofs.Ytkimbpeapolcbaa.Bw Go.Proofs.Ytkimbpeapolcbaa.Bs

theorem rdPcs_of_vals {W : World} {g : Nat} : ∀ {l : List Pc} {off : Nat}, (∀ i x, (pcVals l)[i]? = some x → W.cell? ⟨g, off + i, none⟩ = some x) → (∀ p ∈ l, okStr p.put) → rdPcs W g off l
 | [], _, _, _ => trivial
 | p :: r, off, h, hs => by
  have e : pcVals (p :: r) = .int .i64 p.keep :: .int .i64 p.drop :: .string p.put :: pcVals r := rfl
  rw [e] at h
  refine ⟨h 0 _ rfl, h 1 _ rfl, h 2 _ rfl, hs p List.mem_cons_self, rdPcs_of_vals (fun i x hx => ?_) (fun q hq => hs q (List.mem_cons_of_mem _ hq))⟩
  have := h (i + 3) x (by simpa using hx)
  rwa [show off + 3 + i = off + (i + 3) by omega]
theorem RowV.of_owns {W : World} {base : Nat} {l : List Pc} {v : Value} (h : W.ownsRow base 35 3 v l.length (pcVals l)) (hs : ∀ p ∈ l, okStr p.put) : RowV W v.ownBlock l v := by
 have hc := fun g => h.cells (g := g)
 rcases h.2 with ⟨rfl, h0⟩ | ⟨g, cap, cur, rfl, hb, hg, h4, h5, h6, h7⟩
 ·exact ⟨none, 0, by rw [h0], by omega, by decide, fun h1 => by omega⟩
 ·refine ⟨_, cap, rfl, h4, h5, fun _ => ⟨g, 0, cur, rfl, rfl, hg, rdPcs_of_vals (fun i x hx => ?_) hs⟩⟩
  have := hc g rfl i x hx
  rw [Addr.add_lit] at this
  exact this
theorem RdP.of_owns {W : World} {base : Nat} {l : List Pc} {v : Value} (h : W.ownsRow base 35 3 v l.length (pcVals l)) (hs : ∀ p ∈ l, okStr p.put) : RdP W l v := (RowV.of_owns h hs).rd
theorem RdP.nil (W : World) : RdP W [] (.slice none 0 0) := ⟨none, 0, rfl, Nat.le_refl _, by decide, fun h => absurd h (by simp)⟩
theorem okStr_of {n C : Nat} {m : Mk} (h : MB n C m) (hC : C ≤ 1000000000000) : ∀ p ∈ m.l, okStr p.put := fun p hp => by
 have := (h.bnd p hp).1
 unfold okStr maxLen
 omega
set_option maxRecDepth 100000 in
set_option maxHeartbeats 2000000 in
theorem done_any (m : Mk) (B base : Nat) (lv : Value) (w : World) (h : MkAt w B base m lv) (hs : ∀ p ∈ m.l, okStr p.put) : Calls Try.prog 63 #[.pointer (some ⟨B, 0, none⟩)] w fun e w' => e = .returned (.tuple #[lv, .bool (pcsRight m.l)]) ∧ Ext w w' := by
 have hR := RdP.of_owns h.2.1 hs
 have hR0 := hR
 obtain ⟨A, c, rfl, _⟩ := hR
 have c0 := h.1.cell 0
 go_enter Try.func63, Try.ntmps63
 go_wp2_with fail
 go_region_held3 (fun W => Ext w W ∧ W.cell? ⟨B, 0, none⟩ = some (.slice A m.l.length c)) (first | exact ⟨(Ext.refl w).drew, c0⟩ | exact ⟨E2, E2.cell c0⟩) ((go_at_call 46; have hh := ‹Ext w _ ∧ _›; refine (right_any m.l _ _ (hR0.ext hh.1)).mono ?_; rintro e u ⟨r, rfl, rfl, hE⟩; have E2 := Ext.trans hh.1 hE; clear hE))
 go_wp2_with fail
 go_ret2
 exact ⟨rfl, E2⟩
end Go.Proofs.Ytkimbpeapolcbaa.Sy
namespace Go.Proofs.Ytkimbpeapolcbaa.Sy
open Go.RowKit Go.Proofs.Ytkimbpeapolcbaa.Bw Go.Proofs.Ytkimbpeapolcbaa.Bs

theorem results_st {P : Program} {fn : Func} {p : Tmp} {ty : TypeId} (h : fn.results = #[.cell p ty]) (tmps : Array Value) {w : World} {g : Nat} {cs : Array Value} {d : TypeDesc}
  (hp : tmps.getD p undef = .pointer (some ⟨g, 0, none⟩)) (hg : NBox w g ty cs) (hu : P.underlying ty = some d) (hd : (match d with | .struct _ | .array _ _ => true | _ => false) = true) (hi : (P.info? ty).map (·.size) = some cs.size) :
  (results fn tmps).run P w = .ok (.agg cs) w := results_cell_row h tmps w g ty cs (0, 0) d hp hg hu hd hi
theorem owns_lo {W : World} {a b e n : Nat} {v : Value} {xs : List Value} (h : W.ownsRow a e 1 v n xs) (hab : b ≤ a) : W.ownsRow b e 1 v n xs := by
 refine ⟨h.1, h.2.imp id ?_⟩
 rintro ⟨g, cap, cur, h1, h2, h3⟩
 exact ⟨g, cap, cur, h1, Nat.le_trans hab h2, h3⟩
theorem ints_one1 (l : List Int) : ∀ u ∈ l.map (Value.int .i64), u.oneCell' = true := by
 intro u hu
 obtain ⟨x, -, rfl⟩ := List.mem_map.1 hu
 rfl
end Go.Proofs.Ytkimbpeapolcbaa.Sy
namespace Go.Proofs.Ytkimbpeapolcbaa.Sy
open Go.RowKit Go.Proofs.Ytkimbpeapolcbaa.Bw Go.Proofs.Ytkimbpeapolcbaa.Bs

def RdO (W : World) (x : OpD) (v : Value) : Prop := x.rd W v
theorem rdOps_of {W : World} {b : Nat} : ∀ (l : List OpD) (us : List Value) (off : Nat), rowCells RdO 11 W l us → (∀ j u, us[j]? = some u → W.cell? ⟨b, off + j, none⟩ = some u) → rdOps W b off l
 | [], _, _, _, _ => trivial
 | x :: l, us, off, h, hc => by
  obtain ⟨cs, us', h1, h2, rfl, h5⟩ := h
  obtain ⟨pv, tv, cv, he, hr⟩ := h2
  simp only [Value.agg.injEq] at he
  have he' : cs = [.int .u8 x.kind, pv, .int .i64 x.at_, tv, .int .u64 x.id, .bool x.leaf, .string x.label, .string x.key, .string x.value, .bool x.gone, cv] := by
   have := congrArg Array.toList he
   simpa using this
  subst he'
  refine ⟨⟨pv, tv, cv, ?_, hc 1 _ rfl, hc 2 _ rfl, hc 3 _ rfl, hc 4 _ rfl, hc 5 _ rfl, hc 6 _ rfl, hc 7 _ rfl, hc 8 _ rfl, hc 9 _ rfl, hc 10 _ rfl, pv, tv, cv, rfl, hr⟩, rdOps_of l us' (off + 11) h5 (fun j u hj => ?_)⟩
  ·have := hc 0 _ rfl
   simpa using this
  ·have := hc (11 + j) u (by simpa [Nat.add_comm] using hj)
   rw [show off + 11 + j = off + (11 + j) by omega]
   exact this
theorem RdL.of_row {W : World} {base e : Nat} {v : Value} {l : List OpD} {us : List Value} (h : W.ownsRow base e 11 v l.length us) (hr : rowCells RdO 11 W l us) : RdL W l v := by
 obtain ⟨A, c, rfl, h1, h2, h3⟩ := owns_cells h
 refine ⟨A, c, rfl, h1, h2, fun hl => ?_⟩
 obtain ⟨g, rfl, hc⟩ := h3 hl
 exact ⟨g, 0, rfl, rdOps_of l us 0 hr hc⟩
/-- A list in new memory. -/
def lsV (lo : Nat) (l : List OpD) (v : Value) (W : World) : Prop := rowV2 RdO 26 11 lo l v W
theorem lsV.rd {lo : Nat} {l : List OpD} {v : Value} {W : World} (h : lsV lo l v W) : RdL W l v := by
 obtain ⟨us, h1, h2⟩ := h
 exact RdL.of_row h1 h2.now
theorem lsV.slice {lo : Nat} {l : List OpD} {v : Value} {W : World} (h : lsV lo l v W) : ∃ A c, v = .slice A l.length c := by
 obtain ⟨us, h1, -⟩ := h
 obtain ⟨A, c, rfl, -⟩ := owns_cells h1
 exact ⟨A, c, rfl⟩
theorem rowV2.fr {α : Type} {R : World → α → Value → Prop} {t sz lo : Nat} {l : List α} {v : Value} {W W' : World} {Z : Nat} (h : rowV2 R t sz lo l v W) (F : Fr W W' (fun k => k = Z)) (hZ : Z < lo) : rowV2 R t sz lo l v W' := by
 obtain ⟨us, h1, h2⟩ := h
 exact ⟨us, owns_fr F h1 (fun g hg hk => by have := owns_base h1 g hg; rw [show g = Z from hk] at this; omega), h2.to F (fun k _ hh => hh.elim (fun hk => .inl (by rw [show k = Z from hk]; exact hZ)) id)⟩
theorem rowV2.ext {α : Type} {R : World → α → Value → Prop} {t sz lo : Nat} {l : List α} {v : Value} {W W' : World} (h : rowV2 R t sz lo l v W) (X : Ext W W') : rowV2 R t sz lo l v W' := by
 obtain ⟨us, h1, h2⟩ := h
 exact ⟨us, owns_ext X h1, h2.ext X⟩
theorem lsV.ext {lo : Nat} {l : List OpD} {v : Value} {W W' : World} (h : lsV lo l v W) (X : Ext W W') : lsV lo l v W' := rowV2.ext h X
theorem lsV.none_ (lo : Nat) (W : World) : lsV lo [] (.slice none 0 0) W := ⟨[], ⟨rfl, .inl ⟨rfl, rfl⟩⟩, Late.all fun _ => rfl⟩
theorem lsV.one {lo g : Nat} {W : World} {o : OpD} {c0 c1 c2 c3 c4 c5 c6 c7 c8 c9 c10 : Value} (hG : NBox W g 26 #[c0, c1, c2, c3, c4, c5, c6, c7, c8, c9, c10]) (hl : lo ≤ g) (hx : Late (fun k => k < lo ∨ k = g) (fun W => o.rd W (.agg #[c0, c1, c2, c3, c4, c5, c6, c7, c8, c9, c10])) W) : lsV lo [o] (.slice (some ⟨g, 0, none⟩) 1 1) W := by
 refine ⟨[c0, c1, c2, c3, c4, c5, c6, c7, c8, c9, c10], ⟨rfl, .inr ⟨g, 1, _, rfl, hl, hG, Nat.le_refl _, by simp [maxLen], rfl, rfl⟩⟩, ?_⟩
 refine (hx.sub (fun k hk => ?_)).imp fun W2 h => ⟨_, [], rfl, h, by simp, rfl⟩
 rcases hk with h | h
 ·exact .inl h
 ·cases h; exact .inr rfl
theorem rowCells_app {α : Type} {R : World → α → Value → Prop} {sz : Nat} {W : World} : ∀ (l m : List α) (us us2 : List Value), rowCells R sz W l us → rowCells R sz W m us2 → rowCells R sz W (l ++ m) (us ++ us2)
 | [], m, us, us2, h, k => by rw [show us = [] from h]; exact k
 | x :: l, m, us, us2, h, k => by
  obtain ⟨cs, us', h1, h2, rfl, h4⟩ := h
  exact ⟨cs, us' ++ us2, h1, h2, List.append_assoc _ _ _, rowCells_app l m us' us2 h4 k⟩
theorem owns_apart {W : World} {b b' e e' s s' n n' : Nat} {v v' : Value} {xs xs' : List Value} (h : W.ownsRow b e s v n xs) (h' : W.ownsRow b' e' s' v' n' xs') (he : e ≠ e') {g : Nat} (hg : v.ownBlock = some g) : v'.ownBlock ≠ some g := by
 intro hg'
 obtain ⟨-, h1 | ⟨q, c, cur, rfl, -, h2, -⟩⟩ := h
 ·rw [h1.1] at hg; cases hg
 ·obtain ⟨-, h3 | ⟨q', c', cur', rfl, -, h4, -⟩⟩ := h'
  ·rw [h3.1] at hg'; cases hg'
  ·cases hg
   cases hg'
   rw [h2] at h4
   simp only [Option.some.injEq, Obj.cells.injEq] at h4
   exact he h4.2.1
/-- Two lists behind an append. -/
theorem rowV2.app {α : Type} {R : World → α → Value → Prop} {t sz lo : Nat} {l m : List α} {v v4 : Value} {us us2 : List Value} {w w4 : World} (h2 : Late (rowS lo v) (fun W => rowCells R sz W l us) w)
  (hx : Late (rowS lo v) (fun W => rowCells R sz W m us2) w) (hg : w.grownBy w4 v.ownBlock) (hat : v4.ownBlock = v.ownBlock ∨ v4.ownBlock = some w.heap.size)
  (h4 : w4.ownsRow lo t sz v4 (l.length + m.length) (us ++ us2)) : rowV2 R t sz lo (l ++ m) v4 w4 := by
 have F := Fr.grown hg
 refine ⟨us ++ us2, by rw [List.length_append]; exact h4, ?_⟩
 exact ((h2.and hx).to F (fun k hk hh => by
  rcases hh with hh | hh | hh
  ·exact .inr hh
  ·exact .inl hh
  ·rcases hat with h | h
   ·exact .inr (h ▸ hh)
   ·rw [h] at hh
    cases hh
    exact absurd hk (Nat.lt_irrefl _))).imp fun W ⟨a, b⟩ => rowCells_app _ _ _ _ a b
theorem T30 : SliceT Try.prog 30 26 (.agg #[.int .u8 0, .slice none 0 0, .int .i64 0, .slice none 0 0, .int .u64 0, .bool false, .string ⟨#[]⟩, .string ⟨#[]⟩, .string ⟨#[]⟩, .bool false, .slice none 0 0]) 11 160 := SliceT.mk' Try.underlying30 (by kernel_rfl) rfl (by decide)
theorem op_late {S : Nat → Prop} {lo : Nat} {W : World} {o : OpD} {pA : Option Addr} {pc : Nat} (hP : W.ownsRow lo 3 1 (.slice pA o.path.length pc) o.path.length (o.path.map (Value.int .i64))) (hS : ∀ g, (Value.slice pA o.path.length pc).ownBlock = some g → ¬ S g) (hto : o.to = []) (hpcs : o.pcs = []) (h1 : okStr o.label) (h2 : okStr o.key) (h3 : okStr o.value) (h4 : 0 ≤ o.id ∧ o.id ≤ 18446744073709551615) (h5 : 0 ≤ o.kind ∧ o.kind ≤ 255) :
  Late S (fun W => RdO W o (.agg #[.int .u8 o.kind, .slice pA o.path.length pc, .int .i64 o.at_, .slice none 0 0, .int .u64 o.id, .bool o.leaf, .string o.label, .string o.key, .string o.value, .bool o.gone, .slice none 0 0])) W := by
 intro W2 F
 exact ⟨_, _, _, rfl, RdS.of_owns (owns_fr F hP hS), by rw [hto]; exact RdS.nil_ _ _, by rw [hpcs]; exact ⟨none, 0, rfl, Nat.le_refl _, by simp [maxLen], fun h => absurd h (by simp)⟩, h1, h2, h3, h4, h5⟩
theorem ones11 {c0 c1 c2 c3 c4 c5 c6 c7 c8 c9 c10 : Value} (h : c0.oneCell' = true ∧ c1.oneCell' = true ∧ c2.oneCell' = true ∧ c3.oneCell' = true ∧ c4.oneCell' = true ∧ c5.oneCell' = true ∧ c6.oneCell' = true ∧ c7.oneCell' = true ∧ c8.oneCell' = true ∧ c9.oneCell' = true ∧ c10.oneCell' = true) : ∀ u ∈ [c0, c1, c2, c3, c4, c5, c6, c7, c8, c9, c10], u.oneCell' = true := by simpa using h
theorem rowCells_ones {W : World} : ∀ (l : List OpD) (us : List Value), rowCells RdO 11 W l us → ∀ u ∈ us, u.oneCell' = true
 | [], us, h => by rw [show us = [] from h]; simp
 | x :: l, us, ⟨cs, us', h1, ⟨pv, tv, cv, he, ⟨pA, pc, hp, _⟩, ⟨tA, tc, ht, _⟩, ⟨cA, cc, hc, _⟩, _⟩, h3, h4⟩ => by
  subst hp ht hc
  simp only [Value.agg.injEq] at he
  have he' := congrArg Array.toList he
  dsimp only at he'
  subst he'
  rw [h3]
  intro u hu
  rcases List.mem_append.1 hu with h | h
  ·revert u
   exact fun u _ hu => ones11 ⟨rfl, rfl, rfl, rfl, rfl, rfl, rfl, rfl, rfl, rfl, rfl⟩ u hu
  ·exact rowCells_ones l us' h4 u h
theorem NBox.row {W : World} {g : Nat} {c0 c1 c2 c3 c4 c5 c6 c7 c8 c9 c10 : Value} (hG : NBox W g 26 #[c0, c1, c2, c3, c4, c5, c6, c7, c8, c9, c10]) : RdS W 11 1 [c0, c1, c2, c3, c4, c5, c6, c7, c8, c9, c10] (.slice (some ⟨g, 0, none⟩) 1 1) :=
 RdS.of_owns (base := 0) (e := 26) ⟨rfl, .inr ⟨g, 1, _, rfl, Nat.zero_le _, hG, Nat.le_refl _, by simp [maxLen], rfl, rfl⟩⟩
/-- What is edited. -/
def editO (p : List Int) (x : Pc) : OpD := ⟨6, p, 0, [], 0, false, ⟨#[]⟩, ⟨#[]⟩, ⟨#[]⟩, false, [x]⟩
theorem editO_late {lo g q : Nat} {W : World} {p : List Int} {x : Pc} {nA : Option Addr} {nc : Nat} (hO : W.ownsRow lo 3 1 (.slice nA p.length nc) p.length (p.map (Value.int .i64))) (hq : NBox W q 35 #[.int .i64 x.keep, .int .i64 x.drop, .string x.put]) (hl : lo ≤ q) (hgO : (Value.slice nA p.length nc).ownBlock ≠ some g) (hqg : q ≠ g) (hx : okStr x.put) :
  Late (fun k => k < lo ∨ k = g) (fun W => (editO p x).rd W (.agg #[.int .u8 6, .slice nA p.length nc, .int .i64 0, .slice none 0 0, .int .u64 0, .bool false, .string ⟨#[]⟩, .string ⟨#[]⟩, .string ⟨#[]⟩, .bool false, .slice (some ⟨q, 0, none⟩) 1 1])) W := by
 intro W2 F
 have hO2 := owns_fr F hO (fun b hb hk => hk.elim (fun h => by have := owns_base hO b hb; omega) (fun h => hgO (by rw [hb, h])))
 have hq2 := hq.fr F (fun hk => hk.elim (fun h => by omega) hqg)
 refine ⟨_, _, _, rfl, RdS.of_owns hO2, RdS.nil_ _ _, ⟨_, 1, rfl, Nat.le_refl _, by simp [maxLen], fun _ => ⟨q, 0, rfl, hq2.cell 0, hq2.cell 1, hq2.cell 2, hx, trivial⟩⟩, ?_, ?_, ?_, ⟨?_, ?_⟩, ?_, ?_⟩
 all_goals first | exact Nat.zero_le _ | (dsimp only [editO]; omega)
end Go.Proofs.Ytkimbpeapolcbaa.Sy
namespace Go.Proofs.Ytkimbpeapolcbaa.Bw
open Go.RowKit

mutual
def Nd.cnt : Nd → Nat
  | .mk _ _ _ _ _ ks => 1 + cntK ks
def cntK : List Nd → Nat
  | [] => 0
  | k :: r => k.cnt + cntK r
end
theorem Nd.cnt_eq (t : Nd) : t.cnt = 1 + cntK t.kids := by cases t; rw [Nd.cnt]; rfl
theorem cntK_mem : ∀ {l : List Nd} {k : Nd}, k ∈ l → k.cnt ≤ cntK l
  | x :: r, k, h => by
    rw [cntK]
    rcases List.mem_cons.1 h with rfl | h
    · omega
    · have := cntK_mem h; omega
theorem Nd.cnt_kid {t k : Nd} {i : Nat} (h : t.kids[i]? = some k) : k.cnt < t.cnt := by
  have := cntK_mem (List.mem_of_getElem? h)
  rw [Nd.cnt_eq t]; omega

/-- The attributes' part; none: the bound is answered at once. -/
def weighA (top w : Int) : List (ByteArray × ByteArray) → Option Int
  | [] => some w
  | (k, v) :: r => if w ≤ top then (if top < (k.size : Int) ∨ top < (v.size : Int) then none else weighA top (w + 1 + k.size + v.size) r) else some w

mutual
def Nd.weigh : Nd → Int → Int
  | .mk _ _ lb ats tx ks, top => if top < (lb.size : Int) ∨ top < (tx.size : Int) ∨ top < (ats.length : Int) then top + 1 else
      match weighA top (1 + lb.size + tx.size) ats with
      | none => top + 1
      | some w => weighK top w ks
def weighK : Int → Int → List Nd → Int
  | _, w, [] => w
  | top, w, k :: r => if w ≤ top then weighK top (w + k.weigh (top - w)) r else w
end

theorem weighA_done {top w : Int} {l : List (ByteArray × ByteArray)} (h : l = [] ∨ top < w) : weighA top w l = some w := by
  cases l with
  | nil => rfl
  | cons x r => obtain ⟨k, v⟩ := x; rcases h with h | h; · cases h
                rw [weighA, if_neg (by omega)]
theorem weighA_out {top w : Int} {k v : ByteArray} {r : List (ByteArray × ByteArray)} (h : w ≤ top) (h2 : top < (k.size : Int) ∨ top < (v.size : Int)) : weighA top w ((k, v) :: r) = none := by
  rw [weighA, if_pos h, if_pos h2]
theorem weighA_on {top w : Int} {k v : ByteArray} {r : List (ByteArray × ByteArray)} (h : w ≤ top) (h2 : ¬ top < (k.size : Int)) (h3 : ¬ top < (v.size : Int)) : weighA top w ((k, v) :: r) = weighA top (w + 1 + k.size + v.size) r := by
  rw [weighA, if_pos h, if_neg (by omega)]
theorem weighK_done {top w : Int} {l : List Nd} (h : l = [] ∨ top < w) : weighK top w l = w := by
  cases l with
  | nil => rw [weighK]
  | cons x r => rcases h with h | h; · cases h
                rw [weighK, if_neg (by omega)]
theorem weighK_on {top w : Int} {k : Nd} {r : List Nd} (h : w ≤ top) : weighK top w (k :: r) = weighK top (w + k.weigh (top - w)) r := by
  rw [weighK, if_pos h]

theorem weighA_le {top : Int} (h0 : 0 ≤ top) : ∀ {l : List (ByteArray × ByteArray)} {w x : Int}, 0 ≤ w → w ≤ 3 * top + 1 → weighA top w l = some x → w ≤ x ∧ x ≤ 3 * top + 1
  | [], w, x, h1, h2, h => by rw [weighA] at h; injection h with h; omega
  | (k, v) :: r, w, x, h1, h2, h => by
    rw [weighA] at h
    split at h
    · split at h
      · cases h
      · have := weighA_le h0 (by omega) (by omega) h; omega
    · injection h with h; omega

mutual
theorem Nd.weigh_le : ∀ (t : Nd) (top : Int), 0 ≤ top → 0 ≤ t.weigh top ∧ t.weigh top ≤ 3 * top + 1
  | .mk _ _ lb ats tx ks, top, h0 => by
    rw [Nd.weigh]
    split
    · omega
    · split
      · omega
      · rename_i x hx
        have := weighA_le h0 (by omega) (by omega) hx
        have := weighK_le top x ks h0 (by omega) (by omega)
        omega
theorem weighK_le : ∀ (top w : Int) (l : List Nd), 0 ≤ top → 0 ≤ w → w ≤ 3 * top + 1 → 0 ≤ weighK top w l ∧ weighK top w l ≤ 3 * top + 1
  | top, w, [], _, _, _ => by rw [weighK]; omega
  | top, w, k :: r, h0, h1, h2 => by
    rw [weighK]
    split
    · have := Nd.weigh_le k (top - w) (by omega)
      exact weighK_le top _ r h0 (by omega) (by omega)
    · omega
end

/-! ### The true weight -/
def wtA : List (ByteArray × ByteArray) → Nat
  | [] => 0
  | (k, v) :: r => 1 + k.size + v.size + wtA r
mutual
def Nd.wt : Nd → Nat
  | .mk _ _ lb ats tx ks => 1 + lb.size + tx.size + wtA ats + wtK ks
def wtK : List Nd → Nat
  | [] => 0
  | k :: r => k.wt + wtK r
end
theorem Nd.wt_eq (t : Nd) : t.wt = 1 + t.label.size + t.text.size + wtA t.attrs + wtK t.kids := by cases t; rw [Nd.wt]; rfl
theorem wtK_mem : ∀ {l : List Nd} {k : Nd}, k ∈ l → k.wt ≤ wtK l
  | x :: r, k, h => by
    rw [wtK]
    rcases List.mem_cons.1 h with rfl | h
    · omega
    · have := wtK_mem h; omega
theorem Nd.wt_kid {t k : Nd} {i : Nat} (h : t.kids[i]? = some k) : k.wt < t.wt := by
  have := wtK_mem (List.mem_of_getElem? h)
  rw [Nd.wt_eq t]; omega
theorem wtA_len : ∀ l, l.length ≤ wtA l
  | [] => Nat.le_refl _
  | (k, v) :: r => by have := wtA_len r; simp only [List.length_cons, wtA]; omega
theorem wtA_mem : ∀ {l : List (ByteArray × ByteArray)} {k v : ByteArray}, (k, v) ∈ l → 1 + k.size + v.size ≤ wtA l
  | (a, b) :: r, k, v, h => by
    rw [wtA]
    rcases List.mem_cons.1 h with h | h
    · injection h with h1 h2; subst h1; subst h2; omega
    · have := wtA_mem h; omega
mutual
theorem Nd.cnt_wt : ∀ t : Nd, t.cnt ≤ t.wt
  | .mk _ _ _ _ _ ks => by have := cntK_wt ks; rw [Nd.cnt, Nd.wt]; omega
theorem cntK_wt : ∀ l : List Nd, cntK l ≤ wtK l
  | [] => by rw [cntK, wtK]; exact Nat.le_refl _
  | k :: r => by have := Nd.cnt_wt k; have := cntK_wt r; rw [cntK, wtK]; omega
end
theorem wtK_len : ∀ l : List Nd, l.length ≤ wtK l
  | [] => Nat.le_refl _
  | k :: r => by have := wtK_len r; have := Nd.cnt_wt k; rw [Nd.cnt_eq] at this; simp only [List.length_cons, wtK]; omega

/-- Whether it has at most so much is told rightly; and if so, how much. -/
theorem weighA_spec {top : Int} : ∀ {l : List (ByteArray × ByteArray)} {w : Int}, 0 ≤ w → (w + wtA l ≤ top → weighA top w l = some (w + wtA l)) ∧ (top < w + wtA l → ∀ x, weighA top w l = some x → top < x)
  | [], w, h0 => by rw [weighA, wtA]; refine ⟨fun _ => by simp, fun h x hx => by injection hx with hx; omega⟩
  | (k, v) :: r, w, h0 => by
    rw [weighA, wtA]
    have ih := weighA_spec (top := top) (l := r) (w := w + 1 + k.size + v.size) (by omega)
    refine ⟨fun h => ?_, fun h x hx => ?_⟩
    · rw [if_pos (by omega), if_neg (by omega), ih.1 (by omega)]; congr 1; omega
    · split at hx
      · split at hx
        · cases hx
        · exact ih.2 (by omega) x hx
      · injection hx with hx; omega
mutual
theorem Nd.weigh_spec : ∀ (t : Nd) (top : Int), 0 ≤ top → ((t.wt : Int) ≤ top → t.weigh top = t.wt) ∧ (top < (t.wt : Int) → top < t.weigh top)
  | .mk _ _ lb ats tx ks, top, h0 => by
    rw [Nd.weigh, Nd.wt]
    have hl := wtA_len ats
    have hA := weighA_spec (top := top) (l := ats) (w := 1 + lb.size + tx.size) (by omega)
    refine ⟨fun h => ?_, fun h => ?_⟩
    · rw [if_neg (by omega), hA.1 (by omega)]
      have := (weighK_spec top (1 + lb.size + tx.size + wtA ats) ks h0 (by omega)).1 (by omega)
      dsimp only; rw [this]; omega
    · split
      · omega
      · split
        · omega
        · rename_i x hx
          rcases Int.lt_or_le top (1 + lb.size + tx.size + wtA ats) with h1 | h1
          · have h2 := hA.2 (by omega) x hx
            rw [weighK_done (.inr h2)]; exact h2
          · have h3 := hA.1 h1
            rw [h3] at hx; injection hx with hx
            exact (weighK_spec top x ks h0 (by omega)).2 (by omega)
theorem weighK_spec : ∀ (top w : Int) (l : List Nd), 0 ≤ top → 0 ≤ w → (w + wtK l ≤ top → weighK top w l = w + wtK l) ∧ (top < w + wtK l → top < weighK top w l)
  | top, w, [], _, _ => by rw [weighK, wtK]; omega
  | top, w, k :: r, h0, h1 => by
    rw [weighK, wtK]
    have hk := Nd.weigh_le k (top - w)
    refine ⟨fun h => ?_, fun h => ?_⟩
    · rw [if_pos (by omega)]
      have := (Nd.weigh_spec k (top - w) (by omega)).1 (by omega)
      rw [this]
      have := (weighK_spec top (w + k.wt) r h0 (by omega)).1 (by omega)
      omega
    · split
      · rename_i hle
        have hk2 := Nd.weigh_spec k (top - w) (by omega)
        have hk3 := hk (by omega)
        rcases Int.lt_or_le (top - w) k.wt with h2 | h2
        · have := hk2.2 h2
          rw [weighK_done (.inr (by omega))]; omega
        · rw [hk2.1 h2]
          exact (weighK_spec top (w + k.wt) r h0 (by omega)).2 (by omega)
      · omega
end
theorem Nd.weigh_iff (t : Nd) {top : Int} (h0 : 0 ≤ top) : t.weigh top ≤ top ↔ (t.wt : Int) ≤ top := by
  have := Nd.weigh_spec t top h0
  constructor
  · intro h
    rcases Int.lt_or_le top t.wt with h1 | h1
    · have := this.2 h1; omega
    · exact h1
  · intro h; rw [this.1 h]; exact h
end Go.Proofs.Ytkimbpeapolcbaa.Bw
