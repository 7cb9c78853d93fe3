/- Chapter 10: what a function hands back of a box; rows. -/
import Derived.Test.YtkimbpeapolcbaaSyWiLate
import Derived.Test.YtkimbpeapolcbaaSyLxApply
import Derived.WalkKit
import Derived.Deep.Cut
import Derived.Deep.CutRange
import Derived.Deep.RegionHeld3
import Derived.BigQuiet
import Derived.IntWalk
import Derived.Test.YtkimbpeapolcbaaSyBsInts
import Derived.Test.YtkimbpeapolcbaaSyLxFrame
import Derived.Test.YtkimbpeapolcbaaSyWiMem
namespace Go.Proofs.Ytkimbpeapolcbaa.Sy
open Go.RowKit Go.Proofs.Ytkimbpeapolcbaa.Bw Go.Proofs.Ytkimbpeapolcbaa.Bs

theorem results_st {P : Program} {fn : Func} {p : Tmp} {ty : TypeId} (h : fn.results = #[.cell p ty]) (tmps : Array Value) {w : World} {g : Nat} {cs : Array Value} {d : TypeDesc}
    (hp : tmps.getD p undef = .pointer (some ⟨g, 0, none⟩)) (hg : NBox w g ty cs) (hu : P.underlying ty = some d) (hd : (match d with | .struct _ | .array _ _ => true | _ => false) = true) (hi : (P.info? ty).map (·.size) = some cs.size) :
    (results fn tmps).run P w = .ok (.agg cs) w := results_cell_row h tmps w g ty cs (0, 0) d hp hg hu hd hi
theorem owns_lo {W : World} {a b e n : Nat} {v : Value} {xs : List Value} (h : W.ownsRow a e 1 v n xs) (hab : b ≤ a) : W.ownsRow b e 1 v n xs := by
  refine ⟨h.1, h.2.imp id ?_⟩
  rintro ⟨g, cap, cur, h1, h2, h3⟩
  exact ⟨g, cap, cur, h1, Nat.le_trans hab h2, h3⟩
theorem ints_one1 (l : List Int) : ∀ u ∈ l.map (Value.int .i64), u.oneCell' = true := by
  intro u hu
  obtain ⟨x, -, rfl⟩ := List.mem_map.1 hu
  rfl
end Go.Proofs.Ytkimbpeapolcbaa.Sy
namespace Go.Proofs.Ytkimbpeapolcbaa.Sy
open Go.RowKit Go.Proofs.Ytkimbpeapolcbaa.Bw Go.Proofs.Ytkimbpeapolcbaa.Bs

def RdO (W : World) (x : OpD) (v : Value) : Prop := x.rd W v
theorem rdOps_of {W : World} {b : Nat} : ∀ (l : List OpD) (us : List Value) (off : Nat), rowCells RdO 11 W l us → (∀ j u, us[j]? = some u → W.cell? ⟨b, off + j, none⟩ = some u) → rdOps W b off l
  | [], _, _, _, _ => trivial
  | x :: l, us, off, h, hc => by
    obtain ⟨cs, us', h1, h2, rfl, h5⟩ := h
    obtain ⟨pv, tv, cv, he, hr⟩ := h2
    simp only [Value.agg.injEq] at he
    have he' : cs = [.int .u8 x.kind, pv, .int .i64 x.at_, tv, .int .u64 x.id, .bool x.leaf, .string x.label, .string x.key, .string x.value, .bool x.gone, cv] := by
      have := congrArg Array.toList he
      simpa using this
    subst he'
    refine ⟨⟨pv, tv, cv, ?_, hc 1 _ rfl, hc 2 _ rfl, hc 3 _ rfl, hc 4 _ rfl, hc 5 _ rfl, hc 6 _ rfl, hc 7 _ rfl, hc 8 _ rfl, hc 9 _ rfl, hc 10 _ rfl, pv, tv, cv, rfl, hr⟩, rdOps_of l us' (off + 11) h5 (fun j u hj => ?_)⟩
    · have := hc 0 _ rfl
      simpa using this
    · have := hc (11 + j) u (by simpa [Nat.add_comm] using hj)
      rw [show off + 11 + j = off + (11 + j) by omega]
      exact this
theorem RdL.of_row {W : World} {base e : Nat} {v : Value} {l : List OpD} {us : List Value} (h : W.ownsRow base e 11 v l.length us) (hr : rowCells RdO 11 W l us) : RdL W l v := by
  obtain ⟨A, c, rfl, h1, h2, h3⟩ := owns_cells h
  refine ⟨A, c, rfl, h1, h2, fun hl => ?_⟩
  obtain ⟨g, rfl, hc⟩ := h3 hl
  exact ⟨g, 0, rfl, rdOps_of l us 0 hr hc⟩
/-- A list in new memory. -/
def lsV (lo : Nat) (l : List OpD) (v : Value) (W : World) : Prop := rowV2 RdO 26 11 lo l v W
theorem lsV.rd {lo : Nat} {l : List OpD} {v : Value} {W : World} (h : lsV lo l v W) : RdL W l v := by
  obtain ⟨us, h1, h2⟩ := h
  exact RdL.of_row h1 h2.now
theorem lsV.slice {lo : Nat} {l : List OpD} {v : Value} {W : World} (h : lsV lo l v W) : ∃ A c, v = .slice A l.length c := by
  obtain ⟨us, h1, -⟩ := h
  obtain ⟨A, c, rfl, -⟩ := owns_cells h1
  exact ⟨A, c, rfl⟩
theorem rowV2.fr {α : Type} {R : World → α → Value → Prop} {t sz lo : Nat} {l : List α} {v : Value} {W W' : World} {Z : Nat} (h : rowV2 R t sz lo l v W) (F : Fr W W' (fun k => k = Z)) (hZ : Z < lo) : rowV2 R t sz lo l v W' := by
  obtain ⟨us, h1, h2⟩ := h
  exact ⟨us, owns_fr F h1 (fun g hg hk => by have := owns_base h1 g hg; rw [show g = Z from hk] at this; omega), h2.to F (fun k _ hh => hh.elim (fun hk => .inl (by rw [show k = Z from hk]; exact hZ)) id)⟩
theorem rowV2.ext {α : Type} {R : World → α → Value → Prop} {t sz lo : Nat} {l : List α} {v : Value} {W W' : World} (h : rowV2 R t sz lo l v W) (X : Ext W W') : rowV2 R t sz lo l v W' := by
  obtain ⟨us, h1, h2⟩ := h
  exact ⟨us, owns_ext X h1, h2.ext X⟩
theorem lsV.ext {lo : Nat} {l : List OpD} {v : Value} {W W' : World} (h : lsV lo l v W) (X : Ext W W') : lsV lo l v W' := rowV2.ext h X
theorem lsV.none_ (lo : Nat) (W : World) : lsV lo [] (.slice none 0 0) W := ⟨[], ⟨rfl, .inl ⟨rfl, rfl⟩⟩, Late.all fun _ => rfl⟩
theorem lsV.one {lo g : Nat} {W : World} {o : OpD} {c0 c1 c2 c3 c4 c5 c6 c7 c8 c9 c10 : Value} (hG : NBox W g 26 #[c0, c1, c2, c3, c4, c5, c6, c7, c8, c9, c10]) (hl : lo ≤ g) (hx : Late (fun k => k < lo ∨ k = g) (fun W => o.rd W (.agg #[c0, c1, c2, c3, c4, c5, c6, c7, c8, c9, c10])) W) : lsV lo [o] (.slice (some ⟨g, 0, none⟩) 1 1) W := by
  refine ⟨[c0, c1, c2, c3, c4, c5, c6, c7, c8, c9, c10], ⟨rfl, .inr ⟨g, 1, _, rfl, hl, hG, Nat.le_refl _, by simp [maxLen], rfl, rfl⟩⟩, ?_⟩
  refine (hx.sub (fun k hk => ?_)).imp fun W2 h => ⟨_, [], rfl, h, by simp, rfl⟩
  rcases hk with h | h
  · exact .inl h
  · cases h; exact .inr rfl
theorem rowCells_app {α : Type} {R : World → α → Value → Prop} {sz : Nat} {W : World} : ∀ (l m : List α) (us us2 : List Value), rowCells R sz W l us → rowCells R sz W m us2 → rowCells R sz W (l ++ m) (us ++ us2)
  | [], m, us, us2, h, k => by rw [show us = [] from h]; exact k
  | x :: l, m, us, us2, h, k => by
    obtain ⟨cs, us', h1, h2, rfl, h4⟩ := h
    exact ⟨cs, us' ++ us2, h1, h2, List.append_assoc _ _ _, rowCells_app l m us' us2 h4 k⟩
theorem owns_apart {W : World} {b b' e e' s s' n n' : Nat} {v v' : Value} {xs xs' : List Value} (h : W.ownsRow b e s v n xs) (h' : W.ownsRow b' e' s' v' n' xs') (he : e ≠ e') {g : Nat} (hg : v.ownBlock = some g) : v'.ownBlock ≠ some g := by
  intro hg'
  obtain ⟨-, h1 | ⟨q, c, cur, rfl, -, h2, -⟩⟩ := h
  · rw [h1.1] at hg; cases hg
  · obtain ⟨-, h3 | ⟨q', c', cur', rfl, -, h4, -⟩⟩ := h'
    · rw [h3.1] at hg'; cases hg'
    · cases hg
      cases hg'
      rw [h2] at h4
      simp only [Option.some.injEq, Obj.cells.injEq] at h4
      exact he h4.2.1
/-- Two lists behind an append. -/
theorem rowV2.app {α : Type} {R : World → α → Value → Prop} {t sz lo : Nat} {l m : List α} {v v4 : Value} {us us2 : List Value} {w w4 : World} (h2 : Late (rowS lo v) (fun W => rowCells R sz W l us) w)
    (hx : Late (rowS lo v) (fun W => rowCells R sz W m us2) w) (hg : w.grownBy w4 v.ownBlock) (hat : v4.ownBlock = v.ownBlock ∨ v4.ownBlock = some w.heap.size)
    (h4 : w4.ownsRow lo t sz v4 (l.length + m.length) (us ++ us2)) : rowV2 R t sz lo (l ++ m) v4 w4 := by
  have F := Fr.grown hg
  refine ⟨us ++ us2, by rw [List.length_append]; exact h4, ?_⟩
  exact ((h2.and hx).to F (fun k hk hh => by
    rcases hh with hh | hh | hh
    · exact .inr hh
    · exact .inl hh
    · rcases hat with h | h
      · exact .inr (h ▸ hh)
      · rw [h] at hh
        cases hh
        exact absurd hk (Nat.lt_irrefl _))).imp fun W ⟨a, b⟩ => rowCells_app _ _ _ _ a b
theorem T30 : SliceT Try.prog 30 26 (.agg #[.int .u8 0, .slice none 0 0, .int .i64 0, .slice none 0 0, .int .u64 0, .bool false, .string ⟨#[]⟩, .string ⟨#[]⟩, .string ⟨#[]⟩, .bool false, .slice none 0 0]) 11 160 := SliceT.mk' Try.underlying30 (by kernel_rfl) rfl (by decide)
theorem op_late {S : Nat → Prop} {lo : Nat} {W : World} {o : OpD} {pA : Option Addr} {pc : Nat} (hP : W.ownsRow lo 3 1 (.slice pA o.path.length pc) o.path.length (o.path.map (Value.int .i64))) (hS : ∀ g, (Value.slice pA o.path.length pc).ownBlock = some g → ¬ S g) (hto : o.to = []) (hpcs : o.pcs = []) (h1 : okStr o.label) (h2 : okStr o.key) (h3 : okStr o.value) (h4 : 0 ≤ o.id ∧ o.id ≤ 18446744073709551615) (h5 : 0 ≤ o.kind ∧ o.kind ≤ 255) :
    Late S (fun W => RdO W o (.agg #[.int .u8 o.kind, .slice pA o.path.length pc, .int .i64 o.at_, .slice none 0 0, .int .u64 o.id, .bool o.leaf, .string o.label, .string o.key, .string o.value, .bool o.gone, .slice none 0 0])) W := by
  intro W2 F
  exact ⟨_, _, _, rfl, RdS.of_owns (owns_fr F hP hS), by rw [hto]; exact RdS.nil_ _ _, by rw [hpcs]; exact ⟨none, 0, rfl, Nat.le_refl _, by simp [maxLen], fun h => absurd h (by simp)⟩, h1, h2, h3, h4, h5⟩
theorem ones11 {c0 c1 c2 c3 c4 c5 c6 c7 c8 c9 c10 : Value} (h : c0.oneCell' = true ∧ c1.oneCell' = true ∧ c2.oneCell' = true ∧ c3.oneCell' = true ∧ c4.oneCell' = true ∧ c5.oneCell' = true ∧ c6.oneCell' = true ∧ c7.oneCell' = true ∧ c8.oneCell' = true ∧ c9.oneCell' = true ∧ c10.oneCell' = true) : ∀ u ∈ [c0, c1, c2, c3, c4, c5, c6, c7, c8, c9, c10], u.oneCell' = true := by simpa using h
theorem rowCells_ones {W : World} : ∀ (l : List OpD) (us : List Value), rowCells RdO 11 W l us → ∀ u ∈ us, u.oneCell' = true
  | [], us, h => by rw [show us = [] from h]; simp
  | x :: l, us, ⟨cs, us', h1, ⟨pv, tv, cv, he, ⟨pA, pc, hp, _⟩, ⟨tA, tc, ht, _⟩, ⟨cA, cc, hc, _⟩, _⟩, h3, h4⟩ => by
    subst hp ht hc
    simp only [Value.agg.injEq] at he
    have he' := congrArg Array.toList he
    dsimp only at he'
    subst he'
    rw [h3]
    intro u hu
    rcases List.mem_append.1 hu with h | h
    · revert u
      exact fun u _ hu => ones11 ⟨rfl, rfl, rfl, rfl, rfl, rfl, rfl, rfl, rfl, rfl, rfl⟩ u hu
    · exact rowCells_ones l us' h4 u h
theorem NBox.row {W : World} {g : Nat} {c0 c1 c2 c3 c4 c5 c6 c7 c8 c9 c10 : Value} (hG : NBox W g 26 #[c0, c1, c2, c3, c4, c5, c6, c7, c8, c9, c10]) : RdS W 11 1 [c0, c1, c2, c3, c4, c5, c6, c7, c8, c9, c10] (.slice (some ⟨g, 0, none⟩) 1 1) :=
  RdS.of_owns (base := 0) (e := 26) ⟨rfl, .inr ⟨g, 1, _, rfl, Nat.zero_le _, hG, Nat.le_refl _, by simp [maxLen], rfl, rfl⟩⟩
/-- What is edited. -/
def editO (p : List Int) (x : Pc) : OpD := ⟨6, p, 0, [], 0, false, ⟨#[]⟩, ⟨#[]⟩, ⟨#[]⟩, false, [x]⟩
theorem editO_late {lo g q : Nat} {W : World} {p : List Int} {x : Pc} {nA : Option Addr} {nc : Nat} (hO : W.ownsRow lo 3 1 (.slice nA p.length nc) p.length (p.map (Value.int .i64))) (hq : NBox W q 35 #[.int .i64 x.keep, .int .i64 x.drop, .string x.put]) (hl : lo ≤ q) (hgO : (Value.slice nA p.length nc).ownBlock ≠ some g) (hqg : q ≠ g) (hx : okStr x.put) :
    Late (fun k => k < lo ∨ k = g) (fun W => (editO p x).rd W (.agg #[.int .u8 6, .slice nA p.length nc, .int .i64 0, .slice none 0 0, .int .u64 0, .bool false, .string ⟨#[]⟩, .string ⟨#[]⟩, .string ⟨#[]⟩, .bool false, .slice (some ⟨q, 0, none⟩) 1 1])) W := by
  intro W2 F
  have hO2 := owns_fr F hO (fun b hb hk => hk.elim (fun h => by have := owns_base hO b hb; omega) (fun h => hgO (by rw [hb, h])))
  have hq2 := hq.fr F (fun hk => hk.elim (fun h => by omega) hqg)
  refine ⟨_, _, _, rfl, RdS.of_owns hO2, RdS.nil_ _ _, ⟨_, 1, rfl, Nat.le_refl _, by simp [maxLen], fun _ => ⟨q, 0, rfl, hq2.cell 0, hq2.cell 1, hq2.cell 2, hx, trivial⟩⟩, ?_, ?_, ?_, ⟨?_, ?_⟩, ?_, ?_⟩
  all_goals first | exact Nat.zero_le _ | (dsimp only [editO]; omega)
end Go.Proofs.Ytkimbpeapolcbaa.Sy
