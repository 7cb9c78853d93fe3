/- SyOuLists turned to this seat. (Printed by gport.py.) -/
import Derived.Test.YtofcbclokkjfjaaOyWiLate
import Derived.Test.YtofcbclokkjfjaaOyBsInts
import Derived.Test.YtofcbclokkjfjaaOyNdAt
import Derived.Test.YtofcbclokkjfjaaOyLxFrame
import Derived.Test.YtofcbclokkjfjaaProg
import Derived.Deep.QuietTactic
import Derived.Test.YtofcbclokkjfjaaOyLxNorm
namespace Go.Proofs.Ytofcbclokkjfjaa.Sy
open Go.RowKit Go.Proofs.Ytofcbclokkjfjaa.Bw Go.Proofs.Ytofcbclokkjfjaa.Bs
def RdO (W : World) (x : OpD) (v : Value) : Prop := x.rd W v
theorem rdOps_of {W : World} {b : Nat} : ∀ (l : List OpD) (us : List Value) (off : Nat), rowCells RdO 11 W l us → (∀ j u, us[j]? = some u → W.cell? ⟨b, off + j, none⟩ = some u) → rdOps W b off l
 | [], _, _, _, _ => trivial
 | x :: l, us, off, h, hc => by
  obtain ⟨cs, us', h1, h2, rfl, h5⟩ := h
  obtain ⟨pv, tv, cv, he, hr⟩ := h2
  simp only [Value.agg.injEq] at he
  have he' : cs = [.int .u8 x.kind, pv, .int .i64 x.at_, tv, .int .u64 x.id, .bool x.leaf, .string x.label, .string x.key, .string x.value, .bool x.gone, cv] := by
   have := congrArg Array.toList he
   simpa using this
  subst he'
  refine ⟨⟨pv, tv, cv, ?_, hc 1 _ rfl, hc 2 _ rfl, hc 3 _ rfl, hc 4 _ rfl, hc 5 _ rfl, hc 6 _ rfl, hc 7 _ rfl, hc 8 _ rfl, hc 9 _ rfl, hc 10 _ rfl, pv, tv, cv, rfl, hr⟩, rdOps_of l us' (off + 11) h5 (fun j u hj => ?_)⟩
  ·have := hc 0 _ rfl
   simpa using this
  ·have := hc (11 + j) u (by simpa [Nat.add_comm] using hj)
   rw [show off + 11 + j = off + (11 + j) by omega]
   exact this
theorem RdL.of_row {W : World} {base e : Nat} {v : Value} {l : List OpD} {us : List Value} (h : W.ownsRow base e 11 v l.length us) (hr : rowCells RdO 11 W l us) : RdL W l v := by
 obtain ⟨A, c, rfl, h1, h2, h3⟩ := owns_cells h
 refine ⟨A, c, rfl, h1, h2, fun hl => ?_⟩
 obtain ⟨g, rfl, hc⟩ := h3 hl
 exact ⟨g, 0, rfl, rdOps_of l us 0 hr hc⟩
/-- A list in new memory. -/
def lsV (lo : Nat) (l : List OpD) (v : Value) (W : World) : Prop := rowV2 RdO 38 11 lo l v W
theorem lsV.rd {lo : Nat} {l : List OpD} {v : Value} {W : World} (h : lsV lo l v W) : RdL W l v := by
 obtain ⟨us, h1, h2⟩ := h
 exact RdL.of_row h1 h2.now
theorem lsV.slice {lo : Nat} {l : List OpD} {v : Value} {W : World} (h : lsV lo l v W) : ∃ A c, v = .slice A l.length c := by
 obtain ⟨us, h1, -⟩ := h
 obtain ⟨A, c, rfl, -⟩ := owns_cells h1
 exact ⟨A, c, rfl⟩
theorem rowV2.fr {α : Type} {R : World → α → Value → Prop} {t sz lo : Nat} {l : List α} {v : Value} {W W' : World} {Z : Nat} (h : rowV2 R t sz lo l v W) (F : Fr W W' (fun k => k = Z)) (hZ : Z < lo) : rowV2 R t sz lo l v W' := by
 obtain ⟨us, h1, h2⟩ := h
 exact ⟨us, owns_fr F h1 (fun g hg hk => by have := owns_base h1 g hg; rw [show g = Z from hk] at this; omega), h2.to F (fun k _ hh => hh.elim (fun hk => .inl (by rw [show k = Z from hk]; exact hZ)) id)⟩
theorem rowV2.ext {α : Type} {R : World → α → Value → Prop} {t sz lo : Nat} {l : List α} {v : Value} {W W' : World} (h : rowV2 R t sz lo l v W) (X : Ext W W') : rowV2 R t sz lo l v W' := by
 obtain ⟨us, h1, h2⟩ := h
 exact ⟨us, owns_ext X h1, h2.ext X⟩
theorem lsV.ext {lo : Nat} {l : List OpD} {v : Value} {W W' : World} (h : lsV lo l v W) (X : Ext W W') : lsV lo l v W' := rowV2.ext h X
theorem lsV.none_ (lo : Nat) (W : World) : lsV lo [] (.slice none 0 0) W := ⟨[], ⟨rfl, .inl ⟨rfl, rfl⟩⟩, Late.all fun _ => rfl⟩
theorem lsV.one {lo g : Nat} {W : World} {o : OpD} {c0 c1 c2 c3 c4 c5 c6 c7 c8 c9 c10 : Value} (hG : NBox W g 38 #[c0, c1, c2, c3, c4, c5, c6, c7, c8, c9, c10]) (hl : lo ≤ g) (hx : Late (fun k => k < lo ∨ k = g) (fun W => o.rd W (.agg #[c0, c1, c2, c3, c4, c5, c6, c7, c8, c9, c10])) W) : lsV lo [o] (.slice (some ⟨g, 0, none⟩) 1 1) W := by
 refine ⟨[c0, c1, c2, c3, c4, c5, c6, c7, c8, c9, c10], ⟨rfl, .inr ⟨g, 1, _, rfl, hl, hG, Nat.le_refl _, by simp [maxLen], rfl, rfl⟩⟩, ?_⟩
 refine (hx.sub (fun k hk => ?_)).imp fun W2 h => ⟨_, [], rfl, h, by simp, rfl⟩
 rcases hk with h | h
 ·exact .inl h
 ·cases h; exact .inr rfl
theorem rowCells_app {α : Type} {R : World → α → Value → Prop} {sz : Nat} {W : World} : ∀ (l m : List α) (us us2 : List Value), rowCells R sz W l us → rowCells R sz W m us2 → rowCells R sz W (l ++ m) (us ++ us2)
 | [], m, us, us2, h, k => by rw [show us = [] from h]; exact k
 | x :: l, m, us, us2, h, k => by
  obtain ⟨cs, us', h1, h2, rfl, h4⟩ := h
  exact ⟨cs, us' ++ us2, h1, h2, List.append_assoc _ _ _, rowCells_app l m us' us2 h4 k⟩
theorem owns_apart {W : World} {b b' e e' s s' n n' : Nat} {v v' : Value} {xs xs' : List Value} (h : W.ownsRow b e s v n xs) (h' : W.ownsRow b' e' s' v' n' xs') (he : e ≠ e') {g : Nat} (hg : v.ownBlock = some g) : v'.ownBlock ≠ some g := by
 intro hg'
 obtain ⟨-, h1 | ⟨q, c, cur, rfl, -, h2, -⟩⟩ := h
 ·rw [h1.1] at hg; cases hg
 ·obtain ⟨-, h3 | ⟨q', c', cur', rfl, -, h4, -⟩⟩ := h'
  ·rw [h3.1] at hg'; cases hg'
  ·cases hg
   cases hg'
   rw [h2] at h4
   simp only [Option.some.injEq, Obj.cells.injEq] at h4
   exact he h4.2.1
/-- Two lists behind an append. -/
theorem rowV2.app {α : Type} {R : World → α → Value → Prop} {t sz lo : Nat} {l m : List α} {v v4 : Value} {us us2 : List Value} {w w4 : World} (h2 : Late (rowS lo v) (fun W => rowCells R sz W l us) w)
  (hx : Late (rowS lo v) (fun W => rowCells R sz W m us2) w) (hg : w.grownBy w4 v.ownBlock) (hat : v4.ownBlock = v.ownBlock ∨ v4.ownBlock = some w.heap.size)
  (h4 : w4.ownsRow lo t sz v4 (l.length + m.length) (us ++ us2)) : rowV2 R t sz lo (l ++ m) v4 w4 := by
 have F := Fr.grown hg
 refine ⟨us ++ us2, by rw [List.length_append]; exact h4, ?_⟩
 exact ((h2.and hx).to F (fun k hk hh => by
  rcases hh with hh | hh | hh
  ·exact .inr hh
  ·exact .inl hh
  ·rcases hat with h | h
   ·exact .inr (h ▸ hh)
   ·rw [h] at hh
    cases hh
    exact absurd hk (Nat.lt_irrefl _))).imp fun W ⟨a, b⟩ => rowCells_app _ _ _ _ a b
theorem op_late {S : Nat → Prop} {lo : Nat} {W : World} {o : OpD} {pA : Option Addr} {pc : Nat} (hP : W.ownsRow lo 3 1 (.slice pA o.path.length pc) o.path.length (o.path.map (Value.int .i64))) (hS : ∀ g, (Value.slice pA o.path.length pc).ownBlock = some g → ¬ S g) (hto : o.to = []) (hpcs : o.pcs = []) (h1 : okStr o.label) (h2 : okStr o.key) (h3 : okStr o.value) (h4 : 0 ≤ o.id ∧ o.id ≤ 18446744073709551615) (h5 : 0 ≤ o.kind ∧ o.kind ≤ 255) :
  Late S (fun W => RdO W o (.agg #[.int .u8 o.kind, .slice pA o.path.length pc, .int .i64 o.at_, .slice none 0 0, .int .u64 o.id, .bool o.leaf, .string o.label, .string o.key, .string o.value, .bool o.gone, .slice none 0 0])) W := by
 intro W2 F
 exact ⟨_, _, _, rfl, RdS.of_owns (owns_fr F hP hS), by rw [hto]; exact RdS.nil_ _ _, by rw [hpcs]; exact ⟨none, 0, rfl, Nat.le_refl _, by simp [maxLen], fun h => absurd h (by simp)⟩, h1, h2, h3, h4, h5⟩
theorem ones11 {c0 c1 c2 c3 c4 c5 c6 c7 c8 c9 c10 : Value} (h : c0.oneCell' = true ∧ c1.oneCell' = true ∧ c2.oneCell' = true ∧ c3.oneCell' = true ∧ c4.oneCell' = true ∧ c5.oneCell' = true ∧ c6.oneCell' = true ∧ c7.oneCell' = true ∧ c8.oneCell' = true ∧ c9.oneCell' = true ∧ c10.oneCell' = true) : ∀ u ∈ [c0, c1, c2, c3, c4, c5, c6, c7, c8, c9, c10], u.oneCell' = true := by simpa using h
theorem rowCells_ones {W : World} : ∀ (l : List OpD) (us : List Value), rowCells RdO 11 W l us → ∀ u ∈ us, u.oneCell' = true
 | [], us, h => by rw [show us = [] from h]; simp
 | x :: l, us, ⟨cs, us', h1, ⟨pv, tv, cv, he, ⟨pA, pc, hp, _⟩, ⟨tA, tc, ht, _⟩, ⟨cA, cc, hc, _⟩, _⟩, h3, h4⟩ => by
  subst hp ht hc
  simp only [Value.agg.injEq] at he
  have he' := congrArg Array.toList he
  dsimp only at he'
  subst he'
  rw [h3]
  intro u hu
  rcases List.mem_append.1 hu with h | h
  ·revert u
   exact fun u _ hu => ones11 ⟨rfl, rfl, rfl, rfl, rfl, rfl, rfl, rfl, rfl, rfl, rfl⟩ u hu
  ·exact rowCells_ones l us' h4 u h
theorem NBox.row {W : World} {g : Nat} {c0 c1 c2 c3 c4 c5 c6 c7 c8 c9 c10 : Value} (hG : NBox W g 38 #[c0, c1, c2, c3, c4, c5, c6, c7, c8, c9, c10]) : RdS W 11 1 [c0, c1, c2, c3, c4, c5, c6, c7, c8, c9, c10] (.slice (some ⟨g, 0, none⟩) 1 1) :=
 RdS.of_owns (base := 0) (e := 38) ⟨rfl, .inr ⟨g, 1, _, rfl, Nat.zero_le _, hG, Nat.le_refl _, by simp [maxLen], rfl, rfl⟩⟩
/-- What is edited. -/
def editO (p : List Int) (x : Pc) : OpD := ⟨6, p, 0, [], 0, false, ⟨#[]⟩, ⟨#[]⟩, ⟨#[]⟩, false, [x]⟩
theorem editO_late {lo g q : Nat} {W : World} {p : List Int} {x : Pc} {nA : Option Addr} {nc : Nat} (hO : W.ownsRow lo 3 1 (.slice nA p.length nc) p.length (p.map (Value.int .i64))) (hq : NBox W q 49 #[.int .i64 x.keep, .int .i64 x.drop, .string x.put]) (hl : lo ≤ q) (hgO : (Value.slice nA p.length nc).ownBlock ≠ some g) (hqg : q ≠ g) (hx : okStr x.put) :
  Late (fun k => k < lo ∨ k = g) (fun W => (editO p x).rd W (.agg #[.int .u8 6, .slice nA p.length nc, .int .i64 0, .slice none 0 0, .int .u64 0, .bool false, .string ⟨#[]⟩, .string ⟨#[]⟩, .string ⟨#[]⟩, .bool false, .slice (some ⟨q, 0, none⟩) 1 1])) W := by
 intro W2 F
 have hO2 := owns_fr F hO (fun b hb hk => hk.elim (fun h => by have := owns_base hO b hb; omega) (fun h => hgO (by rw [hb, h])))
 have hq2 := hq.fr F (fun hk => hk.elim (fun h => by omega) hqg)
 refine ⟨_, _, _, rfl, RdS.of_owns hO2, RdS.nil_ _ _, ⟨_, 1, rfl, Nat.le_refl _, by simp [maxLen], fun _ => ⟨q, 0, rfl, hq2.cell 0, hq2.cell 1, hq2.cell 2, hx, trivial⟩⟩, ?_, ?_, ?_, ⟨?_, ?_⟩, ?_, ?_⟩
 all_goals first | exact Nat.zero_le _ | (dsimp only [editO]; omega)
end Go.Proofs.Ytofcbclokkjfjaa.Sy
namespace Go.Proofs.Ytofcbclokkjfjaa.Sy
open Go.RowKit Go.Proofs.Ytofcbclokkjfjaa.Bw Go.Proofs.Ytofcbclokkjfjaa.Bs
/-- Of how many bytes an edit tells. -/
def extL : List Pc → Int
 | [] => 0
 | p :: r => p.keep + p.drop + extL r
theorem extL_nn : ∀ {l : List Pc}, Nn l → 0 ≤ extL l ∧ extL l ≤ wt l
 | [], _ => ⟨Int.le_refl _, Int.le_refl _⟩
 | p :: r, h => by
  have h1 := extL_nn h.tail
  have h2 := h p List.mem_cons_self
  show 0 ≤ p.keep + p.drop + extL r ∧ p.keep + p.drop + extL r ≤ p.keep + p.drop + p.put.size + wt r
  omega
theorem Nn.at {l : List Pc} (h : Nn l) {i : Nat} {p : Pc} (hp : l[i]? = some p) : 0 ≤ p.keep ∧ 0 ≤ p.drop := h p (List.mem_of_getElem? hp)
theorem Nn.drop {l : List Pc} (h : Nn l) (i : Nat) : Nn (l.drop i) := fun p hp => h p (List.mem_of_mem_drop hp)
theorem extL_at {l : List Pc} {i : Nat} {p : Pc} (hp : l[i]? = some p) : extL (l.drop i) = p.keep + p.drop + extL (l.drop (i + 1)) := by rw [drop_at hp]; rfl
/-- A text, edited. -/
def applyB (t : ByteArray) : List Pc → ByteArray
 | [] => t
 | p :: r => t.extract 0 p.keep.toNat ++ p.put ++ applyB (t.extract (p.keep + p.drop).toNat t.size) r
def apE (t : ByteArray) (l : List Pc) : Int := if pcsRight l then (if extL l ≤ t.size then 0 else 50) else 2
def apS (t : ByteArray) (l : List Pc) : ByteArray := if apE t l = 0 then applyB t l else ⟨#[]⟩
theorem applyB_at (t : ByteArray) {l : List Pc} {i : Nat} {p : Pc} (hp : l[i]? = some p) : applyB t (l.drop i) = t.extract 0 p.keep.toNat ++ p.put ++ applyB (t.extract (p.keep + p.drop).toNat t.size) (l.drop (i + 1)) := by rw [drop_at hp]; rfl
theorem wt_at {l : List Pc} {i : Nat} {p : Pc} (hp : l[i]? = some p) : wt (l.drop i) = p.keep + p.drop + p.put.size + wt (l.drop (i + 1)) := by rw [drop_at hp]; rfl
end Go.Proofs.Ytofcbclokkjfjaa.Sy
namespace Go.Proofs.Ytofcbclokkjfjaa.Sy
open Go.RowKit Go.Proofs.Ytofcbclokkjfjaa.Bw Go.Proofs.Ytofcbclokkjfjaa.Bs
end Go.Proofs.Ytofcbclokkjfjaa.Sy
namespace Go.Proofs.Ytofcbclokkjfjaa.Sy
open Go.RowKit Go.Proofs.Ytofcbclokkjfjaa.Bw Go.Proofs.Ytofcbclokkjfjaa.Bs
theorem rdPcs_ok {w : World} {b : Nat} : ∀ {l : List Pc} {off : Nat}, rdPcs w b off l → ∀ p ∈ l, okStr p.put
 | [], _, _ => fun _ hp => absurd hp List.not_mem_nil
 | _ :: _, _, ⟨_, _, _, h4, h5⟩ => fun p hp => (List.mem_cons.1 hp).elim (fun e => e ▸ h4) (rdPcs_ok h5 p)
theorem RdP.okp {w : World} {l : List Pc} {v : Value} (h : RdP w l v) : ∀ p ∈ l, okStr p.put := by
 obtain ⟨A, c, rfl, a1, a2, a3⟩ := h
 intro p hp
 obtain ⟨b, off, _, hr⟩ := a3 (List.length_pos_of_mem hp)
 exact rdPcs_ok hr p hp
theorem RdP.rds {w : World} {l : List Pc} {v : Value} (h : RdP w l v) : RdS w 3 l.length (pcVals l) v := by
 obtain ⟨A, c, rfl, a1, a2, a3⟩ := h
 refine ⟨A, c, rfl, pcVals_len l, a1, a2, fun h0 => ?_⟩
 obtain ⟨b, off, rfl, hr⟩ := a3 h0
 exact ⟨b, off, rfl, fun j u hu => rdPcs_cell hr hu⟩
theorem vals_one (l : List Pc) : ∀ u ∈ pcVals l, u.oneCell' = true := by
 intro u hu
 obtain ⟨p, _, hp⟩ := List.mem_flatMap.1 hu
 simp only [Pc.vals, List.mem_cons, List.not_mem_nil, or_false] at hp
 rcases hp with rfl | rfl | rfl <;> rfl
end Go.Proofs.Ytofcbclokkjfjaa.Sy
namespace Go.Proofs.Ytofcbclokkjfjaa.Sy
open Go.RowKit Go.Proofs.Ytofcbclokkjfjaa.Bw Go.Proofs.Ytofcbclokkjfjaa.Bs
theorem rdPcs_of {w : World} {b : Nat} : ∀ {l : List Pc} {off : Nat}, (∀ p ∈ l, okStr p.put) → (∀ j u, (pcVals l)[j]? = some u → w.cell? ⟨b, off + j, none⟩ = some u) → rdPcs w b off l
 | [], _, _, _ => trivial
 | p :: r, off, hs, hc => by
  have he : pcVals (p :: r) = [.int .i64 p.keep, .int .i64 p.drop, .string p.put] ++ pcVals r := rfl
  rw [he] at hc
  refine ⟨hc 0 _ rfl, hc 1 _ rfl, hc 2 _ rfl, hs p (List.mem_cons_self ..), rdPcs_of (fun q hq => hs q (List.mem_cons_of_mem _ hq)) (fun j u hu => ?_)⟩
  have := hc (3 + j) u (by simpa [Nat.add_comm] using hu)
  rw [show off + 3 + j = off + (3 + j) by omega]
  exact this
theorem RdP.of_owned {W : World} {base e : Nat} {l : List Pc} {v : Value} (h : W.ownsRow base e 3 v l.length (pcVals l)) (hs : ∀ p ∈ l, okStr p.put) : RdP W l v := by
 obtain ⟨A, c, rfl, a0, a1, a2, a3⟩ := RdS.of_owns h
 refine ⟨A, c, rfl, a1, a2, fun h0 => ?_⟩
 obtain ⟨b, off, rfl, hr⟩ := a3 h0
 exact ⟨b, off, rfl, rdPcs_of hs hr⟩
/-- An operation whose parts memory can hold. -/
structure OkO (o : OpD) : Prop where
 label : okStr o.label
 key : okStr o.key
 value : okStr o.value
 pcs : ∀ p ∈ o.pcs, okStr p.put
 id : 0 ≤ o.id ∧ o.id ≤ 18446744073709551615
 kind : 0 ≤ o.kind ∧ o.kind ≤ 255
theorem OpD.rd_ok {w : World} {o : OpD} {v : Value} (h : o.rd w v) : OkO o := by
 obtain ⟨pv, tv, cv, rfl, h1, h2, h3, h4, h5, h6, h7, h8⟩ := h
 exact ⟨h4, h5, h6, h3.okp, h7, h8⟩
/-- What Bare makes of an operation. -/
def bareD (o : OpD) : OpD :=
 if o.kind = 1 then ⟨1, o.path, o.at_, [], o.id, o.leaf, o.label, ⟨#[]⟩, ⟨#[]⟩, false, []⟩
 else if o.kind = 2 then ⟨2, o.path, 0, [], 0, false, ⟨#[]⟩, ⟨#[]⟩, ⟨#[]⟩, false, []⟩
 else if o.kind = 3 then ⟨3, o.path, o.at_, o.to, 0, false, ⟨#[]⟩, ⟨#[]⟩, ⟨#[]⟩, false, []⟩
 else if o.kind = 4 then ⟨4, o.path, 0, [], 0, false, ⟨#[]⟩, o.key, if o.gone then ⟨#[]⟩ else o.value, o.gone, []⟩
 else if o.kind = 5 then ⟨5, o.path, 0, [], 0, false, o.label, ⟨#[]⟩, ⟨#[]⟩, false, []⟩
 else if o.kind = 6 then ⟨6, o.path, 0, [], 0, false, ⟨#[]⟩, ⟨#[]⟩, ⟨#[]⟩, false, o.pcs⟩
 else ⟨o.kind, [], 0, [], 0, false, ⟨#[]⟩, ⟨#[]⟩, ⟨#[]⟩, false, []⟩
theorem okStr_nil : okStr ⟨#[]⟩ := Nat.zero_le _
theorem bareD_ok {o : OpD} (h : OkO o) : OkO (bareD o) := by
 have e := okStr_nil
 have hk := h.kind
 unfold bareD
 repeat' split
 all_goals refine ⟨?_, ?_, ?_, ?_, ?_, ?_⟩
 all_goals first | exact e | exact h.label | exact h.key | exact h.value | exact h.pcs | exact h.id | exact h.kind | (intro p hp; exact absurd hp List.not_mem_nil) | (dsimp only; omega) | (dsimp only; split <;> first | exact e | exact h.value)
/-- A value that is an operation whose rows lie in new memory (of the piece's type tp). -/
def OpO (tp lo : Nat) (W : World) (o : OpD) (v : Value) : Prop := ∃ pA pc tA tc cA cc, v = .agg #[.int .u8 o.kind, .slice pA o.path.length pc, .int .i64 o.at_, .slice tA o.to.length tc, .int .u64 o.id, .bool o.leaf, .string o.label, .string o.key, .string o.value, .bool o.gone, .slice cA o.pcs.length cc] ∧
 W.ownsRow lo 3 1 (.slice pA o.path.length pc) o.path.length (o.path.map (Value.int .i64)) ∧ W.ownsRow lo 3 1 (.slice tA o.to.length tc) o.to.length (o.to.map (Value.int .i64)) ∧ W.ownsRow lo tp 3 (.slice cA o.pcs.length cc) o.pcs.length (pcVals o.pcs)
theorem OpO.rd {tp lo : Nat} {W : World} {o : OpD} {v : Value} (h : OpO tp lo W o v) (k : OkO o) : o.rd W v := by
 obtain ⟨pA, pc, tA, tc, cA, cc, rfl, h1, h2, h3⟩ := h
 exact ⟨_, _, _, rfl, RdS.of_owns h1, RdS.of_owns h2, RdP.of_owned h3 k.pcs, k.label, k.key, k.value, k.id, k.kind⟩
theorem OpO.ext {tp lo : Nat} {W W' : World} {o : OpD} {v : Value} (h : OpO tp lo W o v) (X : Ext W W') : OpO tp lo W' o v := by
 obtain ⟨pA, pc, tA, tc, cA, cc, rfl, h1, h2, h3⟩ := h
 exact ⟨_, _, _, _, _, _, rfl, owns_ext X h1, owns_ext X h2, owns_ext X h3⟩
theorem owns_low {W : World} {a b e sz n : Nat} {v : Value} {xs : List Value} (h : W.ownsRow a e sz v n xs) (hab : b ≤ a) : W.ownsRow b e sz v n xs := by
 refine ⟨h.1, h.2.imp id ?_⟩
 rintro ⟨g, cap, cur, h1, h2, h3⟩
 exact ⟨g, cap, cur, h1, Nat.le_trans hab h2, h3⟩
theorem OpO.low {tp lo lo' : Nat} {W : World} {o : OpD} {v : Value} (h : OpO tp lo W o v) (hl : lo' ≤ lo) : OpO tp lo' W o v := by
 obtain ⟨pA, pc, tA, tc, cA, cc, rfl, h1, h2, h3⟩ := h
 exact ⟨_, _, _, _, _, _, rfl, owns_low h1 hl, owns_low h2 hl, owns_low h3 hl⟩
/-- A change at blocks that hold neither numbers nor pieces. -/
theorem OpO.fr {tp lo t : Nat} {W W' : World} {o : OpD} {v : Value} {B : Nat} {cs : Array Value} (h : OpO tp lo W o v) (F : Fr W W' (fun k => k = B)) (hB : NBox W B t cs) (h3 : t ≠ 3) (ht : t ≠ tp) : OpO tp lo W' o v := by
 obtain ⟨pA, pc, tA, tc, cA, cc, rfl, k1, k2, k3⟩ := h
 exact ⟨_, _, _, _, _, _, rfl, owns_fr F k1 (fun g hg hk => hB.not_own k1 h3 (by rw [hg, show g = B from hk])), owns_fr F k2 (fun g hg hk => hB.not_own k2 h3 (by rw [hg, show g = B from hk])), owns_fr F k3 (fun g hg hk => hB.not_own k3 ht (by rw [hg, show g = B from hk]))⟩
/-- What one has in the middle of Bare: the operation's box, the answer's, the one that grows, the rows. -/
structure BSt (t tp : Nat) (w W : World) (X Y Z : Nat) (ov cs : Array Value) (p tq : List Int) (ps : List Pc) (pv tv cv : Value) : Prop where
 ext : Ext w W
 bx : NBox W X t ov
 byy : NBox W Y t #[.int .u8 0, .slice none 0 0, .int .i64 0, .slice none 0 0, .int .u64 0, .bool false, .string ⟨#[]⟩, .string ⟨#[]⟩, .string ⟨#[]⟩, .bool false, .slice none 0 0]
 bz : NBox W Z t cs
 lo : w.heap.size ≤ X ∧ w.heap.size ≤ Y ∧ w.heap.size ≤ Z ∧ X ≠ Z ∧ Y ≠ Z
 op : W.ownsRow w.heap.size 3 1 pv p.length (p.map (Value.int .i64))
 ot : W.ownsRow w.heap.size 3 1 tv tq.length (tq.map (Value.int .i64))
 oc : W.ownsRow w.heap.size tp 3 cv ps.length (pcVals ps)
theorem BSt.st {t tp : Nat} {w W : World} {X Y Z : Nat} {ov cs : Array Value} {p tq : List Int} {ps : List Pc} {pv tv cv : Value} (h : BSt t tp w W X Y Z ov cs p tq ps pv tv cv) (h3 : t ≠ 3) (ht : t ≠ tp) (i : Nat) (u : Value) : BSt t tp w (W.setCell ⟨Z, i, none⟩ u) X Y Z ov (cs.setIfInBounds i u) p tq ps pv tv cv := by
 obtain ⟨l1, l2, l3, l4, l5⟩ := h.lo
 have F := Fr.setCell W Z i u
 exact ⟨Fr.ext h.ext F (fun q hq => by rw [show q = Z from hq]; exact l3), h.bx.fr F l4, h.byy.fr F l5, h.bz.set i u, h.lo,
  owns_fr F h.op (fun g hg hk => h.bz.not_own h.op h3 (by rw [hg, show g = Z from hk])), owns_fr F h.ot (fun g hg hk => h.bz.not_own h.ot h3 (by rw [hg, show g = Z from hk])), owns_fr F h.oc (fun g hg hk => h.bz.not_own h.oc ht (by rw [hg, show g = Z from hk]))⟩
theorem BSt.to {t tp : Nat} {w W : World} {X Y Z : Nat} {ov cs cs' : Array Value} {p tq : List Int} {ps : List Pc} {pv tv cv : Value} (h : BSt t tp w W X Y Z ov cs p tq ps pv tv cv) (e : cs = cs') : BSt t tp w W X Y Z ov cs' p tq ps pv tv cv := e ▸ h
end Go.Proofs.Ytofcbclokkjfjaa.Sy
