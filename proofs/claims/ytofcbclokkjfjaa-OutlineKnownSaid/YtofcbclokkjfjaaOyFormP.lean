/- SyNdIds2 turned to this seat. (Printed by gport.py.) -/
import Derived.Test.YtofcbclokkjfjaaOyNdAt
import Derived.Test.YtofcbclokkjfjaaProg
import Derived.BigQuiet
import Derived.Deep.QuietTactic
import Derived.Test.YtofcbclokkjfjaaOuRight
import Derived.WalkLawsBesides
import Derived.Test.YtofcbclokkjfjaaOuRightIn
import Derived.Test.YtofcbclokkjfjaaOyBsInts
import Derived.Test.YtofcbclokkjfjaaOyWiLate
import Derived.Test.YtofcbclokkjfjaaOyLxFrame
import Derived.Test.YtofcbclokkjfjaaOyNdRPut
namespace Go.Proofs.Ytofcbclokkjfjaa.Bw
open Go.RowKit Go.Shelf
attribute [local go_sem] Oper.semAt_some
theorem owns_type {W : World} {base e size n : Nat} {v : Value} {xs : List Value} (h : W.ownsRow base e size v n xs) {T k : Nat} {c : Array Value} {fz : Nat × Nat} (hT : e ≠ T) (hk : v.ownBlock = some k) : W.heap[k]? ≠ some (.cells c T fz) := by
  rcases h.2 with ⟨rfl, _⟩ | ⟨g, cap, cur, rfl, _, hg, _⟩
  · simp [Value.ownBlock] at hk
  · obtain rfl : g = k := by simpa [Value.ownBlock] using hk
    rw [hg]; intro he; cases he; exact hT rfl
/-- A round that appends onto a row of the call's own. -/
theorem Keep2.grown {n₀ T : Nat} {A W W' : World} (h : Keep2 n₀ T A W) {base e size n : Nat} {v : Value} {xs : List Value} (hown : W.ownsRow base e size v n xs) (hT : e ≠ T) (hg : W.grownBy W' v.ownBlock) (hn : n₀ ≤ base) (hW : n₀ ≤ W.heap.size) : Keep2 n₀ T A W' := by
  refine h.trans ⟨KeepT.grown ((Below.refl n₀ W).grown hg hW (fun k e => Nat.le_trans hn (owns_base hown k e))) hg (fun k c fz e => owns_type hown hT e), KeepsOthers.of_grownBy hg fun j o ej hj => ?_⟩
  rcases hown.2 with ⟨rfl, _⟩ | ⟨g, cap, cur, rfl, _, hgb, _⟩
  · simp [Value.ownBlock] at ej
  · obtain rfl : g = j := by simpa [Value.ownBlock] using ej
    rw [hgb] at hj; cases hj; rfl
end Go.Proofs.Ytofcbclokkjfjaa.Bw
namespace Go.Proofs.Ytofcbclokkjfjaa.Bw
open Go.RowKit
end Go.Proofs.Ytofcbclokkjfjaa.Bw
namespace Go.Proofs.Ytofcbclokkjfjaa.Bw
open Go.RowKit Go.Shelf
end Go.Proofs.Ytofcbclokkjfjaa.Bw
namespace Go.Proofs.Ytofcbclokkjfjaa.Bw
open Go.RowKit Go.Shelf
end Go.Proofs.Ytofcbclokkjfjaa.Bw
namespace Go.Proofs.Ytofcbclokkjfjaa.Bw
open Go.RowKit Go.Shelf
attribute [local go_sem] Oper.semAt_some
end Go.Proofs.Ytofcbclokkjfjaa.Bw
namespace Go.Proofs.Ytofcbclokkjfjaa.Sy
open Go.RowKit Go.Proofs.Ytofcbclokkjfjaa.Bw Go.Proofs.Ytofcbclokkjfjaa.Bs
theorem rd_open6 {W : World} {t : Nd} {v : Value} (h : t.rd W v) : ∃ tA tc tK td, v = .agg #[.int .u64 t.id, .bool t.leaf, .string t.label, .slice tA t.attrs.length tc, .string t.text, .slice tK t.kids.length td] := by
 obtain ⟨av, kv, rfl, -, -, -, -, ⟨aA, ac, rfl, -⟩, ⟨kA, kc, rfl, -⟩⟩ := Nd.rd_open h
 exact ⟨aA, ac, kA, kc, rfl⟩
theorem NBox.six {W : World} {B : Nat} {t : TypeId} {x0 x1 x2 x3 x4 x5 : Value} (h : NBox W B t #[x0, x1, x2, x3, x4, x5]) (a0 a1 a2 a3 a4 a5 : Value) : NBox (World.setCell (World.setCell (World.setCell (World.setCell (World.setCell (World.setCell W ⟨B, 0, none⟩ a0) ⟨B, 1, none⟩ a1) ⟨B, 2, none⟩ a2) ⟨B, 3, none⟩ a3) ⟨B, 4, none⟩ a4) ⟨B, 5, none⟩ a5) B t #[a0, a1, a2, a3, a4, a5] := by
 have := (NBox.set (NBox.set (NBox.set (NBox.set (NBox.set (NBox.set h 0 a0) 1 a1) 2 a2) 3 a3) 4 a4) 5 a5)
 simpa using this
theorem Fr.six (W : World) (B : Nat) (a0 a1 a2 a3 a4 a5 : Value) : Fr W (World.setCell (World.setCell (World.setCell (World.setCell (World.setCell (World.setCell W ⟨B, 0, none⟩ a0) ⟨B, 1, none⟩ a1) ⟨B, 2, none⟩ a2) ⟨B, 3, none⟩ a3) ⟨B, 4, none⟩ a4) ⟨B, 5, none⟩ a5) (fun k => k = B) :=
 (Fr.trans (Fr.trans (Fr.trans (Fr.trans (Fr.trans (Fr.setCell _ _ _ _) (Fr.setCell _ _ _ _)) (Fr.setCell _ _ _ _)) (Fr.setCell _ _ _ _)) (Fr.setCell _ _ _ _)) (Fr.setCell _ _ _ _))
theorem results_nd {P : Program} {fn : Func} {p u : Tmp} {ty : TypeId} (h : fn.results = #[.cell p ty, .tmp u]) {tmps : Array Value} {w : World} {g : Nat} {cs : Array Value} {d : TypeDesc} {b : Value}
  (hp : tmps.getD p undef = .pointer (some ⟨g, 0, none⟩)) (hu' : tmps.getD u undef = b) (hg : NBox w g ty cs)
  (hu : P.underlying ty = some d) (hd : (match d with | .struct _ | .array _ _ => true | _ => false) = true) (hi : (P.info? ty).map (·.size) = some cs.size) :
  (results fn tmps).run P w = .ok (.tuple #[.agg cs, b]) w := by
 rw [results_cell_tmp h, hp, hu']
 simp [asAddr, run_loadVar_row w g ty ty cs (0, 0) d hg hu hd hi, Result.andThen]
/-- w has the cells of wo, which is not newer. -/
structure Wo (wo w : World) : Prop where
 sub : Sub wo w
 size : wo.heap.size ≤ w.heap.size
theorem Wo.refl (w : World) : Wo w w := ⟨Sub.refl w, Nat.le_refl _⟩
theorem Wo.ext {wo w w' : World} (h : Wo wo w) (k : Ext w w') : Wo wo w' := ⟨h.sub.trans k, Nat.le_trans h.size k.size⟩
theorem Wo.fr {wo w w' : World} {S : Nat → Prop} (h : Wo wo w) (k : Fr w w' S) (hS : ∀ i, S i → wo.heap.size ≤ i) : Wo wo w' :=
 ⟨⟨fun {p v} hp => by
  have hb := cell_block hp
  rw [cell_same (k.block p.block (Nat.lt_of_lt_of_le hb h.size) (fun hs => Nat.lt_irrefl _ (Nat.lt_of_lt_of_le hb (hS _ hs))))]
  exact h.sub.cell hp⟩, Nat.le_trans h.size k.size⟩
theorem news_sub {w w' w2 w3 W : World} (h : News w w' W) (k : News w2 w3 w') (h2 : w.heap.size ≤ w2.heap.size) (h3 : w3.heap.size ≤ w'.heap.size) : News w2 w3 W :=
 fun i a b => (h i (Nat.le_trans h2 a) (Nat.lt_of_lt_of_le b h3)).trans (k i a b)
theorem news_fr {w2 w3 A B : World} {S : Nat → Prop} (h : News w2 w3 A) (k : Fr A B S) (hs : w3.heap.size ≤ A.heap.size) (hS : ∀ i, S i → i < w2.heap.size ∨ w3.heap.size ≤ i) : News w2 w3 B :=
 fun i a b => (k.block i (Nat.lt_of_lt_of_le b hs) (fun hh => (hS i hh).elim (fun q => Nat.lt_irrefl _ (Nat.lt_of_lt_of_le q a)) (fun q => Nat.lt_irrefl _ (Nat.lt_of_lt_of_le b q)))).trans (h i a b)
theorem news_ext {w2 w3 A B : World} (h : News w2 w3 A) (k : Ext A B) (hs : w3.heap.size ≤ A.heap.size) : News w2 w3 B :=
 fun i a b => (k.block i (Nat.lt_of_lt_of_le b hs)).trans (h i a b)
theorem glue_mine {wo w2 w3 : World} (h : wo.heap.size ≤ w2.heap.size) (k : w2.heap.size ≤ w3.heap.size) : Sub wo (glue wo w2 w3) :=
 ⟨fun {p v} hp => by
  have hb := cell_block hp
  rw [cell_same (glue_old (Nat.lt_of_lt_of_le hb h) (Nat.lt_of_lt_of_le hb (Nat.le_trans h k)) hb)]
  exact hp⟩
theorem glue_news (wo w2 w3 : World) : News w2 w3 (glue wo w2 w3) := fun _ a b => glue_new a b
theorem glue_none {wo w2 w3 : World} {k : Nat} (hk : k < w2.heap.size) (h3 : k < w3.heap.size) (ho : wo.heap.size ≤ k) : (glue wo w2 w3).heap[k]? = some nothing := by
 simp [glue, hk, h3, ho]
theorem glue_to {wo w2 w3 W : World} (hS : Sub wo W) (hN : News w2 w3 W) : Sub (glue wo w2 w3) W :=
 ⟨fun {p v} hp => by
  have hb := cell_block hp
  rw [glue_size] at hb
  rcases Nat.lt_or_ge p.block w2.heap.size with h2 | h2
  ·rcases Nat.lt_or_ge p.block wo.heap.size with ho | ho
   ·rw [cell_same (glue_old h2 hb ho)] at hp
    exact hS.cell hp
   ·obtain ⟨k, i, e⟩ := p
    exact absurd hp (nothing_cell i e _ k (glue_none h2 hb ho) v)
  ·rw [cell_same ((glue_new h2 hb).trans (hN p.block h2 hb).symm)] at hp
   exact hp⟩
theorem glue_wo {wo w2 w3 : World} (h : Wo wo w2) (k : Ext w2 w3) : Wo (glue wo w2 w3) w3 := ⟨glue_to (h.sub.trans k) (News.now _ _), by rw [glue_size]; exact Nat.le_refl _⟩
/-- A node that reads late. -/
def LateN (wo w w' : World) (t : Nd) (r : Value) : Prop := ∀ W, Sub wo W → News w w' W → t.rd W r
theorem LateN.now {wo w w' : World} {t : Nd} {r : Value} (h : LateN wo w w' t r) (hW : Sub wo w') : t.rd w' r := h w' hW (News.now _ _)
theorem LateN.glue {wo w w' : World} {t : Nd} {r : Value} (h : LateN wo w w' t r) (h0 : wo.heap.size ≤ w.heap.size) (hE : w.heap.size ≤ w'.heap.size) : t.rd (glue wo w w') r := h _ (glue_mine h0 hE) (glue_news _ _ _)
theorem LateN.old {wo w w' : World} {t : Nd} {r : Value} (h : t.rd wo r) : LateN wo w w' t r := fun _ hS _ => Nd.rd_sub hS h
theorem LateN.wide {wo w w' w2 w3 : World} {t : Nd} {r : Value} (h : LateN wo w2 w3 t r) (k : News w2 w3 w') (h2 : w.heap.size ≤ w2.heap.size) (h3 : w3.heap.size ≤ w'.heap.size) : LateN wo w w' t r :=
 fun W hS hN => h W hS (news_sub hN k h2 h3)
/-- What reads late behind a glued world reads late behind its ground. -/
theorem LateN.deep {wo w w' w2 w3 w4 w5 : World} {t : Nd} {r : Value} (h : LateN (Bw.glue wo w2 w3) w4 w5 t r) (k : News w2 w3 w') (k' : News w4 w5 w') (h2 : w.heap.size ≤ w2.heap.size) (h3 : w3.heap.size ≤ w'.heap.size) (h4 : w.heap.size ≤ w4.heap.size) (h5 : w5.heap.size ≤ w'.heap.size) : LateN wo w w' t r :=
 fun W hS hN => h W (glue_to hS (news_sub hN k h2 h3)) (news_sub hN k' h4 h5)
theorem RdLate.split {wo w w' : World} {o : Option Nd} {r : Value} (h : RdLate wo w w' o r) (hW : Sub wo w') : ∃ v, r = .tuple #[v, .bool o.isSome] ∧ LateN wo w w' (o.getD Nd.zero) v := by
 obtain ⟨v, rfl, -⟩ := h w' hW (fun _ _ _ => rfl)
 refine ⟨v, rfl, fun W hS hN => ?_⟩
 obtain ⟨v', e, h'⟩ := h W hS hN
 simp only [Value.tuple.injEq, Array.mk.injEq, List.cons.injEq, and_true] at e
 rw [e]; exact h'
theorem info42 : (Try.prog.info? 26).map (·.size) = some 6 := by kernel_rfl
end Go.Proofs.Ytofcbclokkjfjaa.Sy
namespace Go.Proofs.Ytofcbclokkjfjaa.Sy
open Go.RowKit Go.Proofs.Ytofcbclokkjfjaa.Bw Go.Proofs.Ytofcbclokkjfjaa.Bs
/-- wg's cells stand in each world that has those of wo, and what was made since w as it is in cur, but for S. -/
structure GW (wo w wg cur : World) (S : Nat → Prop) : Prop where
  grd : ∀ W, Sub wo W → (∀ k, w.heap.size ≤ k → k < cur.heap.size → ¬ S k → W.heap[k]? = cur.heap[k]?) → Sub wg W
  base : Wo wo cur
  size : wg.heap.size ≤ cur.heap.size
  low : w.heap.size ≤ cur.heap.size
  fresh : ∀ i, cur.heap.size ≤ i → S i
theorem GW.refl {wo w : World} (h : Wo wo w) : GW wo w wo w (fun _ => True) := ⟨fun _ h _ => h, h, h.size, Nat.le_refl _, fun _ _ => trivial⟩
theorem GW.ext {wo w wg a b : World} {S : Nat → Prop} (h : GW wo w wg a S) (k : Ext a b) : GW wo w wg b S :=
  ⟨fun W hW hN => h.grd W hW (fun i p q r => (hN i p (Nat.lt_of_lt_of_le q k.size) r).trans (k.block i q)), h.base.ext k, Nat.le_trans h.size k.size, Nat.le_trans h.low k.size, fun i hi => h.fresh i (Nat.le_trans k.size hi)⟩
theorem GW.fr {wo w wg a b : World} {S S' : Nat → Prop} (h : GW wo w wg a S) (k : Fr a b S') (hs : ∀ i, S' i → S i ∧ wo.heap.size ≤ i) : GW wo w wg b S :=
  ⟨fun W hW hN => h.grd W hW (fun i p q r => (hN i p (Nat.lt_of_lt_of_le q k.size) r).trans (k.block i q (fun hh => r (hs i hh).1))), h.base.fr k (fun i hi => (hs i hi).2), Nat.le_trans h.size k.size, Nat.le_trans h.low k.size, fun i hi => h.fresh i (Nat.le_trans k.size hi)⟩
theorem GW.now {wo w wg a : World} {S : Nat → Prop} (h : GW wo w wg a S) : Wo wg a := ⟨h.grd a h.base.sub (fun _ _ _ _ => rfl), h.size⟩
theorem GW.glue {wo w wg a b : World} {S : Nat → Prop} (h : GW wo w wg a S) (k : Ext a b) : GW wo w (Bw.glue wg a b) b (fun i => S i ∧ (i < a.heap.size ∨ b.heap.size ≤ i)) :=
  ⟨fun W hW hN => by
    have h2 := (h.ext k).grd
    refine glue_to (h.grd W hW (fun i p q r => ?_)) (fun i p q => hN i (Nat.le_trans h.low p) q (fun c => c.2.elim (fun x => absurd x (Nat.not_lt.2 p)) (fun x => absurd q (Nat.not_lt.2 x))))
    exact (hN i p (Nat.lt_of_lt_of_le q k.size) (fun c => r c.1)).trans (k.block i q),
   h.base.ext k, by rw [glue_size]; exact Nat.le_refl _, Nat.le_trans h.low k.size, fun i hi => ⟨h.fresh i (Nat.le_trans k.size hi), .inr hi⟩⟩
theorem GW.rd_glue {wo w wg a b : World} {S : Nat → Prop} (h : GW wo w wg a S) (k : Ext a b) {t : Nd} {r : Value} (hr : t.rd wg r) : t.rd (Bw.glue wg a b) r := Nd.rd_sub (glue_mine h.size k.size) hr
theorem GW.got {wo w wg a b : World} {S : Nat → Prop} (h : GW wo w wg a S) (k : Ext a b) {t : Nd} {r : Value} (hl : LateN wg a b t r) : t.rd (Bw.glue wg a b) r := hl.glue h.size k.size
theorem GW.late {wo w wg a : World} {S : Nat → Prop} (h : GW wo w wg a S) {t : Nd} {r : Value} (hr : t.rd wg r) : LateN wo w a t r := fun W hW hN => Nd.rd_sub (h.grd W hW (fun i p q _ => hN i p q)) hr
theorem GW.rd {wo w wg a : World} {S : Nat → Prop} (h : GW wo w wg a S) {t : Nd} {r : Value} (hr : t.rd wg r) : t.rd a r := Nd.rd_sub h.now.sub hr
/-- What was written since stays writable. -/
theorem GW.keep {wo w wg a b : World} {S : Nat → Prop} (_h : GW wo w wg a S) (_k : Ext a b) {i : Nat} (hi : S i) (hl : i < a.heap.size) : (fun i => S i ∧ (i < a.heap.size ∨ b.heap.size ≤ i)) i := ⟨hi, .inl hl⟩
end Go.Proofs.Ytofcbclokkjfjaa.Sy
namespace Go.Proofs.Ytofcbclokkjfjaa.Sy
open Go.RowKit Go.Proofs.Ytofcbclokkjfjaa.Bw Go.Proofs.Ytofcbclokkjfjaa.Bs
theorem rowK_take {w : World} : ∀ (n : Nat) {ks : List Nd} {xs : List Value}, rowK w ks xs → rowK w (ks.take n) (xs.take (n * 6))
 | 0, ks, xs, _ => by simp [rowK]
 | n + 1, [], xs, h => by rw [show xs = [] from h]; simp [rowK]
 | n + 1, k :: r, xs, ⟨c0, c1, c2, c3, c4, c5, rest, hx, hk, hr⟩ => by
  subst hx
  rw [show (n + 1) * 6 = n * 6 + 6 by omega]
  exact ⟨c0, c1, c2, c3, c4, c5, rest.take (n * 6), rfl, hk, rowK_take n hr⟩
theorem rowK_drop {w : World} : ∀ (n : Nat) {ks : List Nd} {xs : List Value}, rowK w ks xs → rowK w (ks.drop n) (xs.drop (n * 6))
 | 0, ks, xs, h => by simpa using h
 | n + 1, [], xs, h => by rw [show xs = [] from h]; simp [rowK]
 | n + 1, k :: r, xs, ⟨c0, c1, c2, c3, c4, c5, rest, hx, hk, hr⟩ => by
  subst hx
  rw [show (n + 1) * 6 = n * 6 + 6 by omega]
  exact rowK_drop n hr
theorem rowK_app {w : World} : ∀ {ks ls : List Nd} {xs ys : List Value}, rowK w ks xs → rowK w ls ys → rowK w (ks ++ ls) (xs ++ ys)
 | [], ls, xs, ys, h, k => by rw [show xs = [] from h]; exact k
 | _ :: _, ls, xs, ys, ⟨c0, c1, c2, c3, c4, c5, rest, hx, hk, hr⟩, k => ⟨c0, c1, c2, c3, c4, c5, rest ++ ys, by rw [hx]; rfl, hk, rowK_app hr k⟩
theorem rowK_single {w : World} {x : Nd} {c0 c1 c2 c3 c4 c5 : Value} (h : x.rd w (.agg #[c0, c1, c2, c3, c4, c5])) : rowK w [x] [c0, c1, c2, c3, c4, c5] := ⟨c0, c1, c2, c3, c4, c5, [], rfl, h, rfl⟩
theorem RdS.front {w : World} {s n k c : Nat} {xs : List Value} {A : Option Addr} (h : RdS w s n xs (.slice A n c)) (hk : k ≤ n) : RdS w s k (xs.take (k * s)) (.slice A k c) := by
 obtain ⟨A', c', he, h1, h2, h3, h4⟩ := h
 simp only [Value.slice.injEq, true_and] at he
 obtain ⟨rfl, rfl⟩ := he
 refine ⟨A, c, rfl, ?_, by omega, h3, fun h0 => ?_⟩
 ·rw [List.length_take, h1]; exact Nat.min_eq_left (Nat.mul_le_mul_right s hk)
 ·obtain ⟨b, o, hA, hc⟩ := h4 (by omega)
  refine ⟨b, o, hA, fun j u hu => hc j u ?_⟩
  rw [List.getElem?_take] at hu
  split at hu
  ·exact hu
  ·cases hu
theorem RdS.back {w : World} {s n k c b o : Nat} {xs : List Value} (h : RdS w s n xs (.slice (some ⟨b, o, none⟩) n c)) (hk : k ≤ n) {A : Option Addr} (hA : k < n → A = some ⟨b, o + k * s, none⟩) : RdS w s (n - k) (xs.drop (k * s)) (.slice A (n - k) (c - k)) := by
 obtain ⟨A', c', he, h1, h2, h3, h4⟩ := h
 simp only [Value.slice.injEq, true_and] at he
 obtain ⟨rfl, rfl⟩ := he
 refine ⟨A, c - k, rfl, ?_, by omega, by omega, fun h0 => ?_⟩
 ·rw [List.length_drop, h1, Nat.sub_mul]
 ·obtain ⟨b', o', he, hc⟩ := h4 (by omega)
  simp only [Option.some.injEq, Addr.mk.injEq, and_true] at he
  obtain ⟨rfl, rfl⟩ := he
  refine ⟨b, o + k * s, hA (by omega), fun j u hu => ?_⟩
  rw [List.getElem?_drop] at hu
  rw [show o + k * s + j = o + (k * s + j) by omega]
  exact hc _ u hu
theorem RdS.addr {w : World} {s n c : Nat} {xs : List Value} {a : Addr} (h : RdS w s n xs (.slice (some a) n c)) (hn : 0 < n) : ∃ b o, a = ⟨b, o, none⟩ := by
 obtain ⟨A', c', he, -, -, -, h4⟩ := h
 simp only [Value.slice.injEq, true_and] at he
 obtain ⟨rfl, rfl⟩ := he
 obtain ⟨b, o, hA, -⟩ := h4 hn
 exact ⟨b, o, Option.some.inj hA⟩
theorem RdS.none_ {w : World} {s c : Nat} {A : Option Addr} (hc : c ≤ maxLen) : RdS w s 0 [] (.slice A 0 c) := ⟨A, c, rfl, by simp, Nat.zero_le _, hc, fun h => absurd h (Nat.lt_irrefl _)⟩
/-- Kids behind a gap. -/
def insD (t : Nd) (i : Nat) (x : Nd) : Nd := t.withKids (t.kids.take i ++ [x] ++ t.kids.drop i)
def delD (t : Nd) (i : Nat) : Nd := t.withKids (t.kids.take i ++ t.kids.drop (i + 1))
/-- An owned row stands in each world that has its block. -/
theorem owns_news {w3 W : World} {base e size n lo : Nat} {v : Value} {xs : List Value} (h : w3.ownsRow base e size v n xs) (hN : ∀ k, lo ≤ k → k < w3.heap.size → W.heap[k]? = w3.heap[k]?) (hb : lo ≤ base) : W.ownsRow base e size v n xs := by
 rcases h.2 with ⟨h1, h2⟩ | ⟨g, cap, cur, rfl, h1, h2⟩
 ·exact ⟨h.1, .inl ⟨h1, h2⟩⟩
 ·exact owns_same h (hN g (Nat.le_trans hb h1) (by have := h.lt g rfl; exact this.2))
theorem own_as {W : World} {b e s n m : Nat} {v : Value} {xs ys : List Value} (h : W.ownsRow b e s v n xs) (hn : n = m) (hx : xs = ys) : W.ownsRow b e s v m ys := by rw [← hn, ← hx]; exact h
theorem row_late {w w1 w6 w7 w9 wo : World} {B : Nat} (hB : w.heap.size = B) (hZ : w1.heap.size = B + 1 + 1 + 1) (F7 : Fr w6 w7 (fun k => k = B)) (F9 : Fr w7 w9 (fun k => k = B + 1 + 1)) {t : Nd} {tv kv : Value} {ks : List Nd} {us : List Value}
  (hO : w6.ownsRow w1.heap.size 26 6 kv ks.length us) (hU : rowK wo ks us) (hT : 0 ≤ t.id ∧ t.id ≤ 18446744073709551615 ∧ t.label.size ≤ maxLen ∧ t.text.size ≤ maxLen ∧ RdA wo t.attrs tv) :
  LateN wo w w9 (t.withKids ks) (.agg #[.int .u64 t.id, .bool t.leaf, .string t.label, tv, .string t.text, kv]) := by
 intro W hS hN
 have h7 : News w1 w6 w7 := news_fr (News.now _ _) F7 (Nat.le_refl _) (fun i hi => .inl (by rw [show i = B from hi]; omega))
 have h9 : News w1 w6 w9 := news_fr h7 F9 F7.size (fun i hi => .inl (by rw [show i = B + 1 + 1 from hi]; omega))
 have h10 := news_sub hN h9 (by omega) (Nat.le_trans F7.size F9.size)
 have hW := owns_news hO h10 (Nat.le_refl _)
 exact Nd.rd_shut (t := t.withKids ks) hT.1 hT.2.1 hT.2.2.1 hT.2.2.2.1 (RdA.sub hS hT.2.2.2.2) (Bw.RdK.of_row (rowK_sub hS hU) (RdS.of_owns hW))
theorem ins_late {w w1 w6 w7 w9 wo : World} {B i c6 tc : Nat} {A6 tA : Option Addr} (hB : w.heap.size = B) (hZ : w1.heap.size = B + 1 + 1 + 1) (F7 : Fr w6 w7 (fun k => k = B)) (F9 : Fr w7 w9 (fun k => k = B + 1 + 1)) {t x : Nd} {us : List Value} {c0 c1 c2 c3 c4 c5 : Value}
  (hO : w6.ownsRow w1.heap.size 26 6 (.slice A6 (t.kids.length + 1) c6) (t.kids.length + 1) (us.take (i * 6) ++ [c0, c1, c2, c3, c4, c5] ++ us.drop (i * 6))) (hU : rowK wo t.kids us) (hx : x.rd wo (.agg #[c0, c1, c2, c3, c4, c5]))
  (hT : 0 ≤ t.id ∧ t.id ≤ 18446744073709551615 ∧ t.label.size ≤ maxLen ∧ t.text.size ≤ maxLen ∧ RdA wo t.attrs (.slice tA t.attrs.length tc)) (hi : i ≤ t.kids.length) :
  LateN wo w w9 (insD t i x) (.agg #[.int .u64 t.id, .bool t.leaf, .string t.label, .slice tA t.attrs.length tc, .string t.text, .slice A6 (t.kids.length + 1) c6]) := by
 have hl : (t.kids.take i ++ [x] ++ t.kids.drop i).length = t.kids.length + 1 := by simp; omega
 exact row_late hB hZ F7 F9 (by rw [hl]; exact hO) (rowK_app (rowK_app (rowK_take i hU) (rowK_single hx)) (rowK_drop i hU)) hT
theorem ins_ext {w w1 w6 w7 w9 : World} {B : Nat} (hB : w.heap.size = B) (E : Ext w w1) (X6 : Ext w1 w6) (F7 : Fr w6 w7 (fun k => k = B)) (F9 : Fr w7 w9 (fun k => k = B + 1 + 1)) : Ext w w9 :=
 Fr.ext (Fr.ext (E.trans X6) F7 (fun q hq => by rw [show q = B from hq, hB]; exact Nat.le_refl _)) F9 (fun q hq => by rw [show q = B + 1 + 1 from hq, hB]; omega)
theorem row_late1 {w w1 w6 w7 w9 wo : World} {B : Nat} (hB : w.heap.size = B) (hZ : w1.heap.size = B + 1 + 1) (F7 : Fr w6 w7 (fun k => k = B)) (F9 : Fr w7 w9 (fun k => k = B + 1)) {t : Nd} {tv kv : Value} {ks : List Nd} {us : List Value}
  (hO : w6.ownsRow w1.heap.size 26 6 kv ks.length us) (hU : rowK wo ks us) (hT : 0 ≤ t.id ∧ t.id ≤ 18446744073709551615 ∧ t.label.size ≤ maxLen ∧ t.text.size ≤ maxLen ∧ RdA wo t.attrs tv) :
  LateN wo w w9 (t.withKids ks) (.agg #[.int .u64 t.id, .bool t.leaf, .string t.label, tv, .string t.text, kv]) := by
 intro W hS hN
 have h7 : News w1 w6 w7 := news_fr (News.now _ _) F7 (Nat.le_refl _) (fun i hi => .inl (by rw [show i = B from hi]; omega))
 have h9 : News w1 w6 w9 := news_fr h7 F9 F7.size (fun i hi => .inl (by rw [show i = B + 1 from hi]; omega))
 have h10 := news_sub hN h9 (by omega) (Nat.le_trans F7.size F9.size)
 have hW := owns_news hO h10 (Nat.le_refl _)
 exact Nd.rd_shut (t := t.withKids ks) hT.1 hT.2.1 hT.2.2.1 hT.2.2.2.1 (RdA.sub hS hT.2.2.2.2) (Bw.RdK.of_row (rowK_sub hS hU) (RdS.of_owns hW))
theorem del_late {w w1 w6 w7 w9 wo : World} {B i c6 tc : Nat} {A6 tA : Option Addr} (hB : w.heap.size = B) (hZ : w1.heap.size = B + 1 + 1) (F7 : Fr w6 w7 (fun k => k = B)) (F9 : Fr w7 w9 (fun k => k = B + 1)) {t : Nd} {us : List Value}
  (hO : w6.ownsRow w1.heap.size 26 6 (.slice A6 (t.kids.length - 1) c6) (t.kids.length - 1) (us.take (i * 6) ++ us.drop ((i + 1) * 6))) (hU : rowK wo t.kids us)
  (hT : 0 ≤ t.id ∧ t.id ≤ 18446744073709551615 ∧ t.label.size ≤ maxLen ∧ t.text.size ≤ maxLen ∧ RdA wo t.attrs (.slice tA t.attrs.length tc)) (hi : i < t.kids.length) :
  LateN wo w w9 (delD t i) (.agg #[.int .u64 t.id, .bool t.leaf, .string t.label, .slice tA t.attrs.length tc, .string t.text, .slice A6 (t.kids.length - 1) c6]) := by
 have hl : (t.kids.take i ++ t.kids.drop (i + 1)).length = t.kids.length - 1 := by simp; omega
 exact row_late1 hB hZ F7 F9 (by rw [hl]; exact hO) (rowK_app (rowK_take i hU) (rowK_drop (i + 1) hU)) hT
theorem del_ext {w w1 w6 w7 w9 : World} {B : Nat} (hB : w.heap.size = B) (E : Ext w w1) (X6 : Ext w1 w6) (F7 : Fr w6 w7 (fun k => k = B)) (F9 : Fr w7 w9 (fun k => k = B + 1)) : Ext w w9 :=
 Fr.ext (Fr.ext (E.trans X6) F7 (fun q hq => by rw [show q = B from hq, hB]; exact Nat.le_refl _)) F9 (fun q hq => by rw [show q = B + 1 from hq, hB]; omega)
end Go.Proofs.Ytofcbclokkjfjaa.Sy
namespace Go.Proofs.Ytofcbclokkjfjaa.Sy
open Go.RowKit Go.Proofs.Ytofcbclokkjfjaa.Bw Go.Proofs.Ytofcbclokkjfjaa.Bs
theorem formed_may {o : OpD} (h : o.formed = true) : may o.path = true := by
 unfold OpD.formed at h
 rw [Bool.and_eq_true] at h
 exact h.1
theorem rdO_cells {W : World} {o : OpD} {v : Value} (h : o.rd W v) : ∃ pA pc tA tc cA cc, v = .agg #[.int .u8 o.kind, .slice pA o.path.length pc, .int .i64 o.at_, .slice tA o.to.length tc, .int .u64 o.id, .bool o.leaf, .string o.label, .string o.key, .string o.value, .bool o.gone, .slice cA o.pcs.length cc] ∧ RdI W o.path (.slice pA o.path.length pc) ∧ RdI W o.to (.slice tA o.to.length tc) ∧ RdP W o.pcs (.slice cA o.pcs.length cc) := by
 obtain ⟨pv, tv, cv, rfl, h1, h2, h3, -⟩ := h
 obtain ⟨pA, pc, rfl, -⟩ := id h1
 obtain ⟨tA, tc, rfl, -⟩ := id h2
 obtain ⟨cA, cc, rfl, -⟩ := id h3
 exact ⟨_, _, _, _, _, _, rfl, h1, h2, h3⟩
theorem formed_kind {o : OpD} (h : o.formed = true) : o.kind = 1 ∨ o.kind = 2 ∨ o.kind = 3 ∨ o.kind = 4 ∨ o.kind = 5 ∨ o.kind = 6 := by
 unfold OpD.formed at h
 rw [Bool.and_eq_true] at h
 obtain ⟨-, h⟩ := h
 by_cases h1 : o.kind = 1
 ·exact .inl h1
 by_cases h2 : o.kind = 2
 ·exact .inr (.inl h2)
 by_cases h3 : o.kind = 3
 ·exact .inr (.inr (.inl h3))
 by_cases h4 : o.kind = 4
 ·exact .inr (.inr (.inr (.inl h4)))
 by_cases h5 : o.kind = 5
 ·exact .inr (.inr (.inr (.inr (.inl h5))))
 by_cases h6 : o.kind = 6
 ·exact .inr (.inr (.inr (.inr (.inr h6))))
 simp [h1, h2, h3, h4, h5, h6] at h
end Go.Proofs.Ytofcbclokkjfjaa.Sy
