/- Lemmas and walks for the claims of chapter 06: Put. No conditions beside those that stand in each lemma. -/
import Derived.Test.YtamkgdkoddoehaaBwClone
import Derived.Test.YtamkgdkoddoehaaBwWorks
import Derived.Deep.AppendLies
import Derived.Deep.RegionHeld3
import Derived.Deep.DrawnRows
namespace Go.Proofs.Ytamkgdkoddoehaa.Bw
open Go.RowKit

theorem put_nil {t x : Nd} : t.put [] x = some x := by rw [Nd.put]
theorem put_some {t k x k' : Nd} {i : Nat} {p : List Int} (h : t.kids[i]? = some k) (h2 : k.put p x = some k') : t.put ((i : Int) :: p) x = some (t.withKids (t.kids.set i k')) := by
  have := (List.getElem?_eq_some_iff.1 h).1
  rw [Nd.put, if_neg (by omega), Int.toNat_natCast, h]
  dsimp only
  rw [h2]
theorem put_none {t k x : Nd} {i : Nat} {p : List Int} (h : t.kids[i]? = some k) (h2 : k.put p x = none) : t.put ((i : Int) :: p) x = none := by
  have := (List.getElem?_eq_some_iff.1 h).1
  rw [Nd.put, if_neg (by omega), Int.toNat_natCast, h]
  dsimp only
  rw [h2]
theorem put_out {t x : Nd} {i : Int} {p : List Int} (h : i < 0 ∨ (t.kids.length : Int) ≤ i) : t.put (i :: p) x = none := by rw [Nd.put, if_pos h]
theorem at_put : ∀ (p : List Int) (t x : Nd), (t.at? p).isSome = (t.put p x).isSome
  | [], t, x => by rw [at_nil, put_nil]; rfl
  | i :: p, t, x => by
    by_cases h : i < 0 ∨ (t.kids.length : Int) ≤ i
    · rw [at_none h, put_out h]
    · obtain ⟨m, rfl⟩ := Int.eq_ofNat_of_zero_le (show 0 ≤ i by omega)
      obtain ⟨k, hk⟩ : ∃ k, t.kids[m]? = some k := ⟨_, List.getElem?_eq_getElem (by omega)⟩
      rw [at_some (by omega) (by rw [Int.toNat_natCast]; exact hk), at_put p k x]
      cases hp : k.put p x with
      | none => rw [put_none hk hp]
      | some k' => rw [put_some hk hp]; rfl
theorem at_split {t : Nd} {i : Int} {p : List Int} {k : Nd} (h : t.at? (i :: p) = some k) : ∃ (m : Nat) (c : Nd), i = m ∧ t.kids[m]? = some c ∧ c.at? p = some k := by
  by_cases hc : i < 0 ∨ (t.kids.length : Int) ≤ i
  · rw [at_none hc] at h; cases h
  · obtain ⟨m, rfl⟩ := Int.eq_ofNat_of_zero_le (show 0 ≤ i by omega)
    obtain ⟨c, hk⟩ : ∃ c, t.kids[m]? = some c := ⟨_, List.getElem?_eq_getElem (by omega)⟩
    rw [at_some (by omega) (by rw [Int.toNat_natCast]; exact hk)] at h
    exact ⟨m, c, rfl, hk, h⟩

/-- 'p[1:]'. -/
theorem RdI_tail {w : World} {i : Int} {p : List Int} {b off c : Nat} (h : RdS w 1 (p.length + 1) ((i :: p).map (Value.int .i64)) (.slice (some ⟨b, off, none⟩) (p.length + 1) c)) :
    RdS w 1 p.length (p.map (Value.int .i64)) (.slice (if c = 1 then some ⟨b, off, none⟩ else some ⟨b, off + 1, none⟩) p.length (c - 1)) := by
  obtain ⟨A, c', he, _, h1, h2, h3⟩ := h
  simp only [Value.slice.injEq, true_and] at he
  obtain ⟨rfl, rfl⟩ := he
  refine ⟨_, _, rfl, by simp, by omega, by omega, fun hn => ?_⟩
  obtain ⟨b', off', hh, hc⟩ := h3 (by omega)
  simp only [Option.some.injEq, Addr.mk.injEq, and_true] at hh
  obtain ⟨rfl, rfl⟩ := hh
  rw [if_neg (by omega)]
  refine ⟨b, off + 1, rfl, fun j u hu => ?_⟩
  rw [show off + 1 + j = off + (j + 1) by omega]
  exact hc (j + 1) u (by simpa using hu)

theorem own_set6 {W : World} {base : Nat} {e : TypeId} {size g n cap : Nat} {xs : List Value} (h : W.ownsRow base e size (.slice (some ⟨g, 0, none⟩) n cap) n xs) (o : Nat) (a b c d x f : Value) :
    ((((((W.setCell ⟨g, o, none⟩ a).setCell ⟨g, o + 1, none⟩ b).setCell ⟨g, o + 2, none⟩ c).setCell ⟨g, o + 3, none⟩ d).setCell ⟨g, o + 4, none⟩ x).setCell ⟨g, o + 5, none⟩ f).ownsRow base e size (.slice (some ⟨g, 0, none⟩) n cap) n
      ((((((xs.set o a).set (o + 1) b).set (o + 2) c).set (o + 3) d).set (o + 4) x).set (o + 5) f) :=
  (((((((h.stored o a).1.stored (o + 1) b).1.stored (o + 2) c).1.stored (o + 3) d).1.stored (o + 4) x).1.stored (o + 5) f).1)
theorem NBox.farAt {W : World} {B B' : Nat} {t : TypeId} {cs : Array Value} (h : NBox W B t cs) (hne : B ≠ B') (o : Nat) (a b c d e f : Value) :
    NBox ((((((W.setCell ⟨B', o, none⟩ a).setCell ⟨B', o + 1, none⟩ b).setCell ⟨B', o + 2, none⟩ c).setCell ⟨B', o + 3, none⟩ d).setCell ⟨B', o + 4, none⟩ e).setCell ⟨B', o + 5, none⟩ f) B t cs :=
  (((((h.other (p := ⟨B', o, none⟩) hne a).other (p := ⟨B', o + 1, none⟩) hne b).other (p := ⟨B', o + 2, none⟩) hne c).other (p := ⟨B', o + 3, none⟩) hne d).other (p := ⟨B', o + 4, none⟩) hne e).other (p := ⟨B', o + 5, none⟩) hne f
theorem Ext.setAt {w W : World} (h : Ext w W) {B : Nat} (hB : w.heap.size ≤ B) (o : Nat) (a b c d e f : Value) :
    Ext w ((((((W.setCell ⟨B, o, none⟩ a).setCell ⟨B, o + 1, none⟩ b).setCell ⟨B, o + 2, none⟩ c).setCell ⟨B, o + 3, none⟩ d).setCell ⟨B, o + 4, none⟩ e).setCell ⟨B, o + 5, none⟩ f) :=
  Below.setCell (Below.setCell (Below.setCell (Below.setCell (Below.setCell (Below.setCell h (p := ⟨B, o, none⟩) hB _) (p := ⟨B, o + 1, none⟩) hB _) (p := ⟨B, o + 2, none⟩) hB _) (p := ⟨B, o + 3, none⟩) hB _) (p := ⟨B, o + 4, none⟩) hB _) (p := ⟨B, o + 5, none⟩) hB _

/-- The row of a slice of one's own, where its block is the same. -/
theorem owns_same {w w' : World} {base : Nat} {e : TypeId} {size g n cap : Nat} {xs : List Value} (h : w.ownsRow base e size (.slice (some ⟨g, 0, none⟩) n cap) n xs) (hb : w'.heap[g]? = w.heap[g]?) : w'.ownsRow base e size (.slice (some ⟨g, 0, none⟩) n cap) n xs := by
  refine ⟨h.1, ?_⟩
  rcases h.2 with h2 | ⟨g', cap', cur, hv, h1, h2, r⟩
  · exact .inl h2
  · have : g' = g := by simp only [Value.slice.injEq, Option.some.injEq, Addr.mk.injEq, and_true] at hv; exact hv.1.symm
    subst this
    exact .inr ⟨g', cap', cur, hv, h1, hb.trans h2, r⟩
theorem rowK_get {w : World} : ∀ {ks : List Nd} {xs : List Value} {i : Nat} {k : Nd}, rowK w ks xs → ks[i]? = some k → ∃ aA ac kA kc, xs[i * 6]? = some (.int .u64 k.id) ∧ xs[i * 6 + 1]? = some (.bool k.leaf) ∧ xs[i * 6 + 2]? = some (.string k.label) ∧
    xs[i * 6 + 3]? = some (.slice aA k.attrs.length ac) ∧ xs[i * 6 + 4]? = some (.string k.text) ∧ xs[i * 6 + 5]? = some (.slice kA k.kids.length kc) ∧
    k.rd w (.agg #[.int .u64 k.id, .bool k.leaf, .string k.label, .slice aA k.attrs.length ac, .string k.text, .slice kA k.kids.length kc])
  | k0 :: r, xs, 0, k, ⟨c0, c1, c2, c3, c4, c5, rest, hx, hk, _⟩, he => by
    simp only [List.getElem?_cons_zero, Option.some.injEq] at he
    subst he hx
    have hk0 := hk
    obtain ⟨av, kv, he, _, _, _, _, ⟨aA, ac, rfl, _⟩, ⟨kA, kc, rfl, _⟩⟩ := Nd.rd_open hk
    simp only [Value.agg.injEq, Array.mk.injEq, List.cons.injEq, and_true] at he
    obtain ⟨rfl, rfl, rfl, rfl, rfl, rfl⟩ := he
    exact ⟨aA, ac, kA, kc, rfl, rfl, rfl, rfl, rfl, rfl, hk0⟩
  | k0 :: r, xs, i + 1, k, ⟨c0, c1, c2, c3, c4, c5, rest, hx, _, hr⟩, he => by
    simp only [List.getElem?_cons_succ] at he
    obtain ⟨aA, ac, kA, kc, h0, h1, h2, h3, h4, h5, h6⟩ := rowK_get hr he
    subst hx
    refine ⟨aA, ac, kA, kc, ?_, ?_, ?_, ?_, ?_, ?_, h6⟩
    · rw [show (i + 1) * 6 = i * 6 + 6 by omega]; exact h0
    · rw [show (i + 1) * 6 + 1 = i * 6 + 1 + 6 by omega]; exact h1
    · rw [show (i + 1) * 6 + 2 = i * 6 + 2 + 6 by omega]; exact h2
    · rw [show (i + 1) * 6 + 3 = i * 6 + 3 + 6 by omega]; exact h3
    · rw [show (i + 1) * 6 + 4 = i * 6 + 4 + 6 by omega]; exact h4
    · rw [show (i + 1) * 6 + 5 = i * 6 + 5 + 6 by omega]; exact h5

/-- The result reads in every world that goes on from wo, where the blocks that were made in the call (from w to w') are the same. -/
def RdLate (wo w w' : World) (o : Option Nd) (r : Value) : Prop := ∀ W, Ext wo W → (∀ k, w.heap.size ≤ k → k < w'.heap.size → W.heap[k]? = w'.heap[k]?) → RdO W o r

theorem heap_at6 (W : World) (B o : Nat) (a b c d e f : Value) (k : Nat) (hk : k ≠ B) :
    ((((((W.setCell ⟨B, o, none⟩ a).setCell ⟨B, o + 1, none⟩ b).setCell ⟨B, o + 2, none⟩ c).setCell ⟨B, o + 3, none⟩ d).setCell ⟨B, o + 4, none⟩ e).setCell ⟨B, o + 5, none⟩ f).heap[k]? = W.heap[k]? := by
  iterate 6 rw [Below.heap_setCell _ _ _ _ hk]

set_option maxRecDepth 100000 in
set_option maxHeartbeats 4000000 in
theorem put_none_any (t x : Nd) (v xv : Value) (p : List Int) (q : Value) (wo w : World) (hWo : Ext wo w) (ht : t.rd wo v) (hx : x.rd wo xv) (hq : RdS w 1 p.length (p.map (Value.int .i64)) q) (hf : t.at? p = none) :
    Calls Try.prog 29 #[v, q, xv] w (Ret w fun r w' => RdLate wo w w' (t.put p x) r) := by
  have hq0 := hq
  obtain ⟨A, qc, rfl, _, q2, q3, q4⟩ := hq0
  obtain ⟨av, kv, rfl, i0, i1, hl, htx, hA, hK⟩ := Nd.rd_open ht
  obtain ⟨xav, xkv, rfl, x0, x1, xl, xt, hXA, hXK⟩ := Nd.rd_open hx
  unfold maxLen at q3
  obtain ⟨w0, hw0⟩ : ∃ w0, ((w.alloc (.cells #[.int .u64 t.id, .bool t.leaf, .string t.label, av, .string t.text, kv] 26)).alloc (.cells #[.int .u64 x.id, .bool x.leaf, .string x.label, xav, .string x.text, xkv] 26)).alloc (.cells #[.int .u64 0, .bool false, .string ⟨#[]⟩, .slice none 0 0, .string ⟨#[]⟩, .slice none 0 0] 26) = w0 := ⟨_, rfl⟩
  have hE0 : Ext w w0 := by rw [← hw0]; exact (((Ext.refl w).alloc _).alloc _).alloc _
  have hb1 : NBox w0 w.heap.size 26 #[.int .u64 t.id, .bool t.leaf, .string t.label, av, .string t.text, kv] := by rw [← hw0]; exact (NBox.new w _ _).ext (((Ext.refl _).alloc _).alloc _)
  have hb2 : NBox w0 (w.heap.size + 1) 26 #[.int .u64 x.id, .bool x.leaf, .string x.label, xav, .string x.text, xkv] := by rw [← hw0]; have := (NBox.new (w.alloc (.cells #[.int .u64 t.id, .bool t.leaf, .string t.label, av, .string t.text, kv] 26)) 26 #[.int .u64 x.id, .bool x.leaf, .string x.label, xav, .string x.text, xkv]).ext ((Ext.refl _).alloc (.cells #[.int .u64 0, .bool false, .string ⟨#[]⟩, .slice none 0 0, .string ⟨#[]⟩, .slice none 0 0] 26)); rwa [World.size_alloc] at this
  have hb3 : NBox w0 (w.heap.size + 1 + 1) 26 #[.int .u64 0, .bool false, .string ⟨#[]⟩, .slice none 0 0, .string ⟨#[]⟩, .slice none 0 0] := by rw [← hw0]; have := NBox.new ((w.alloc (.cells #[.int .u64 t.id, .bool t.leaf, .string t.label, av, .string t.text, kv] 26)).alloc (.cells #[.int .u64 x.id, .bool x.leaf, .string x.label, xav, .string x.text, xkv] 26)) 26 #[.int .u64 0, .bool false, .string ⟨#[]⟩, .slice none 0 0, .string ⟨#[]⟩, .slice none 0 0]; rwa [World.size_alloc, World.size_alloc] at this
  have H0 := Lib.hid hw0
  have hat := at_any t _ p _ w0 (Nd.rd_ext (hWo.trans hE0) ht) (hq.ext hE0)
  clear hw0
  have hA0 := hA
  obtain ⟨aA, ac, rfl, _⟩ := hA
  have hK0 := hK
  obtain ⟨kA, kc, rfl, k1, k2, k3⟩ := hK0
  obtain ⟨xA, xac, rfl, _⟩ := hXA
  obtain ⟨xK, xkc, rfl, _⟩ := hXK
  have HG : Hid (t.put p x = none) := by have := at_put p t x; rw [hf] at this; exact Option.isNone_iff_eq_none.1 (by cases h : t.put p x <;> simp_all)
  rw [hf] at hat
  clear hf k3 q4 hK hA0
  go_enter Try.func29, Try.ntmps29
  go_wp2_with (first
    | (rw [H0.out]; clear H0; go_at_call 27; refine hat.mono ?_; rintro e w1 ⟨r, rfl, ⟨ov, rfl, hov⟩, hE1⟩; obtain ⟨oav, okv, rfl, _, _, _, _, ⟨oA, oac, rfl, _⟩, ⟨oK, okc, rfl, _⟩⟩ := Nd.rd_open hov
       simp only [Option.getD_none] at *
       obtain ⟨w2, hw2⟩ : ∃ w2, w1.alloc (.cells #[.int .u64 Nd.zero.id, .bool Nd.zero.leaf, .string Nd.zero.label, .slice oA Nd.zero.attrs.length oac, .string Nd.zero.text, .slice oK Nd.zero.kids.length okc] 26) = w2 := ⟨_, rfl⟩
       have hE2 : Ext w0 w2 := by rw [← hw2]; exact hE1.alloc _
       have H2 := Lib.hid hw2
       clear hw2
       have R2 := hb3.ext hE2
       obtain ⟨r0, r1, r2, r3, r4, r5⟩ := NBox.six R2
       have rf0 := R2.frozen 0; have rf1 := R2.frozen 1; have rf2 := R2.frozen 2; have rf3 := R2.frozen 3; have rf4 := R2.frozen 4; have rf5 := R2.frozen 5)
    | (rw [H2.out]; clear H2))
  exact bodyPost_ret (results_node rfl rfl rfl (NBox.set6 R2 _ _ _ _ _ _) Try.underlying26 rfl info26) rfl ⟨_, rfl, (fun W _ _ => ⟨zeroV, by rw [HG.out]; rfl, by rw [HG.out]; exact zero_rd _⟩), (hE0.trans hE2).set6 (by omega) _ _ _ _ _ _⟩

set_option maxRecDepth 100000 in
set_option maxHeartbeats 4000000 in
theorem put_nil_any (t x : Nd) (v xv : Value) (q : Value) (wo w : World) (hWo : Ext wo w) (ht : t.rd wo v) (hx : x.rd wo xv) (hq : RdS w 1 ([] : List Int).length (([] : List Int).map (Value.int .i64)) q) :
    Calls Try.prog 29 #[v, q, xv] w (Ret w fun r w' => RdLate wo w w' (t.put [] x) r) := by
  have hq0 := hq
  obtain ⟨A, qc, rfl, _, q2, q3, q4⟩ := hq0
  obtain ⟨av, kv, rfl, i0, i1, hl, htx, hA, hK⟩ := Nd.rd_open ht
  obtain ⟨xav, xkv, rfl, x0, x1, xl, xt, hXA, hXK⟩ := Nd.rd_open hx
  unfold maxLen at q3
  obtain ⟨w0, hw0⟩ : ∃ w0, ((w.alloc (.cells #[.int .u64 t.id, .bool t.leaf, .string t.label, av, .string t.text, kv] 26)).alloc (.cells #[.int .u64 x.id, .bool x.leaf, .string x.label, xav, .string x.text, xkv] 26)).alloc (.cells #[.int .u64 0, .bool false, .string ⟨#[]⟩, .slice none 0 0, .string ⟨#[]⟩, .slice none 0 0] 26) = w0 := ⟨_, rfl⟩
  have hE0 : Ext w w0 := by rw [← hw0]; exact (((Ext.refl w).alloc _).alloc _).alloc _
  have hb1 : NBox w0 w.heap.size 26 #[.int .u64 t.id, .bool t.leaf, .string t.label, av, .string t.text, kv] := by rw [← hw0]; exact (NBox.new w _ _).ext (((Ext.refl _).alloc _).alloc _)
  have hb2 : NBox w0 (w.heap.size + 1) 26 #[.int .u64 x.id, .bool x.leaf, .string x.label, xav, .string x.text, xkv] := by rw [← hw0]; have := (NBox.new (w.alloc (.cells #[.int .u64 t.id, .bool t.leaf, .string t.label, av, .string t.text, kv] 26)) 26 #[.int .u64 x.id, .bool x.leaf, .string x.label, xav, .string x.text, xkv]).ext ((Ext.refl _).alloc (.cells #[.int .u64 0, .bool false, .string ⟨#[]⟩, .slice none 0 0, .string ⟨#[]⟩, .slice none 0 0] 26)); rwa [World.size_alloc] at this
  have hb3 : NBox w0 (w.heap.size + 1 + 1) 26 #[.int .u64 0, .bool false, .string ⟨#[]⟩, .slice none 0 0, .string ⟨#[]⟩, .slice none 0 0] := by rw [← hw0]; have := NBox.new ((w.alloc (.cells #[.int .u64 t.id, .bool t.leaf, .string t.label, av, .string t.text, kv] 26)).alloc (.cells #[.int .u64 x.id, .bool x.leaf, .string x.label, xav, .string x.text, xkv] 26)) 26 #[.int .u64 0, .bool false, .string ⟨#[]⟩, .slice none 0 0, .string ⟨#[]⟩, .slice none 0 0]; rwa [World.size_alloc, World.size_alloc] at this
  have H0 := Lib.hid hw0
  have hat := at_any t _ [] _ w0 (Nd.rd_ext (hWo.trans hE0) ht) (hq.ext hE0)
  clear hw0
  have hA0 := hA
  obtain ⟨aA, ac, rfl, _⟩ := hA
  have hK0 := hK
  obtain ⟨kA, kc, rfl, k1, k2, k3⟩ := hK0
  obtain ⟨xA, xac, rfl, _⟩ := hXA
  obtain ⟨xK, xkc, rfl, _⟩ := hXK
  have HG : Hid (t.put [] x = some x) := put_nil
  rw [at_nil] at hat
  clear k3 q4 hK hA0
  simp only [List.length_nil] at *
  go_enter Try.func29, Try.ntmps29
  go_wp2_with (first
    | (rw [H0.out]; clear H0; go_at_call 27; refine hat.mono ?_; rintro e w1 ⟨r, rfl, ⟨ov, rfl, hov⟩, hE1⟩; obtain ⟨oav, okv, rfl, _, _, _, _, ⟨oA, oac, rfl, _⟩, ⟨oK, okc, rfl, _⟩⟩ := Nd.rd_open hov
       simp only [Option.getD_some] at *
       obtain ⟨w2, hw2⟩ : ∃ w2, w1.alloc (.cells #[.int .u64 t.id, .bool t.leaf, .string t.label, .slice oA t.attrs.length oac, .string t.text, .slice oK t.kids.length okc] 26) = w2 := ⟨_, rfl⟩
       have hE2 : Ext w0 w2 := by rw [← hw2]; exact hE1.alloc _
       have H2 := Lib.hid hw2
       clear hw2
       have R2 := hb3.ext hE2
       obtain ⟨b0, b1, b2, b3, b4, b5⟩ := NBox.six (hb2.ext hE2)
       obtain ⟨r0, r1, r2, r3, r4, r5⟩ := NBox.six R2
       have rf0 := R2.frozen 0; have rf1 := R2.frozen 1; have rf2 := R2.frozen 2; have rf3 := R2.frozen 3; have rf4 := R2.frozen 4; have rf5 := R2.frozen 5)
    | (rw [H2.out]; clear H2))
  exact bodyPost_ret (results_node rfl rfl rfl (NBox.set6 R2 _ _ _ _ _ _) Try.underlying26 rfl info26) rfl ⟨_, rfl, (fun W hW _ => ⟨_, by rw [HG.out]; rfl, by rw [HG.out]; exact Nd.rd_ext hW hx⟩), (hE0.trans hE2).set6 (by omega) _ _ _ _ _ _⟩

set_option maxRecDepth 100000 in
set_option maxHeartbeats 4000000 in
theorem put_late (M : Nat) : ∀ (t x : Nd) (v xv : Value) (p : List Int) (q : Value) (wo w : World), Ext wo w → p.length ≤ M → t.rd wo v → x.rd wo xv → RdS w 1 p.length (p.map (Value.int .i64)) q → t.wt ≤ 1000000 →
    Calls Try.prog 29 #[v, q, xv] w (Ret w fun r w' => RdLate wo w w' (t.put p x) r) := by
  induction M with
  | zero =>
    intro t x v xv p q wo w hWo hM ht hx hq hwt
    obtain rfl : p = [] := List.eq_nil_of_length_eq_zero (by omega)
    exact put_nil_any t x v xv q wo w hWo ht hx hq
  | succ M ih =>
    intro t x v xv p q wo w hWo hM ht hx hq hwt
    rcases hf : t.at? p with _ | k0
    · exact put_none_any t x v xv p q wo w hWo ht hx hq hf
    · cases p with
      | nil => exact put_nil_any t x v xv q wo w hWo ht hx hq
      | cons p0 p =>
        have hq0 := hq
        obtain ⟨A, qc, rfl, _, q2, q3, q4⟩ := hq0
        obtain ⟨av, kv, rfl, i0, i1, hl, htx, hA, hK⟩ := Nd.rd_open ht
        obtain ⟨xav, xkv, rfl, x0, x1, xl, xt, hXA, hXK⟩ := Nd.rd_open hx
        unfold maxLen at q3
        obtain ⟨w0, hw0⟩ : ∃ w0, ((w.alloc (.cells #[.int .u64 t.id, .bool t.leaf, .string t.label, av, .string t.text, kv] 26)).alloc (.cells #[.int .u64 x.id, .bool x.leaf, .string x.label, xav, .string x.text, xkv] 26)).alloc (.cells #[.int .u64 0, .bool false, .string ⟨#[]⟩, .slice none 0 0, .string ⟨#[]⟩, .slice none 0 0] 26) = w0 := ⟨_, rfl⟩
        have hE0 : Ext w w0 := by rw [← hw0]; exact (((Ext.refl w).alloc _).alloc _).alloc _
        have hb1 : NBox w0 w.heap.size 26 #[.int .u64 t.id, .bool t.leaf, .string t.label, av, .string t.text, kv] := by rw [← hw0]; exact (NBox.new w _ _).ext (((Ext.refl _).alloc _).alloc _)
        have hb2 : NBox w0 (w.heap.size + 1) 26 #[.int .u64 x.id, .bool x.leaf, .string x.label, xav, .string x.text, xkv] := by rw [← hw0]; have := (NBox.new (w.alloc (.cells #[.int .u64 t.id, .bool t.leaf, .string t.label, av, .string t.text, kv] 26)) 26 #[.int .u64 x.id, .bool x.leaf, .string x.label, xav, .string x.text, xkv]).ext ((Ext.refl _).alloc (.cells #[.int .u64 0, .bool false, .string ⟨#[]⟩, .slice none 0 0, .string ⟨#[]⟩, .slice none 0 0] 26)); rwa [World.size_alloc] at this
        have hb3 : NBox w0 (w.heap.size + 1 + 1) 26 #[.int .u64 0, .bool false, .string ⟨#[]⟩, .slice none 0 0, .string ⟨#[]⟩, .slice none 0 0] := by rw [← hw0]; have := NBox.new ((w.alloc (.cells #[.int .u64 t.id, .bool t.leaf, .string t.label, av, .string t.text, kv] 26)).alloc (.cells #[.int .u64 x.id, .bool x.leaf, .string x.label, xav, .string x.text, xkv] 26)) 26 #[.int .u64 0, .bool false, .string ⟨#[]⟩, .slice none 0 0, .string ⟨#[]⟩, .slice none 0 0]; rwa [World.size_alloc, World.size_alloc] at this
        have H0 := Lib.hid hw0
        have hat := at_any t _ (p0 :: p) _ w0 (Nd.rd_ext (hWo.trans hE0) ht) (hq.ext hE0)
        clear hw0
        have hA0 := hA
        obtain ⟨aA, ac, rfl, _⟩ := hA
        have hK0 := hK
        obtain ⟨kA, kc, rfl, k1, k2, k3⟩ := hK0
        obtain ⟨xA, xac, rfl, _⟩ := hXA
        obtain ⟨xK, xkc, rfl, _⟩ := hXK
        rw [hf] at hat
        have hf' := Lib.hid hf
        clear hf
        obtain ⟨m, kid, rfl, hkid, hat2⟩ := at_split hf'.out
        have hm := (List.getElem?_eq_some_iff.1 hkid).1
        obtain ⟨k', hput⟩ : ∃ k', kid.put p x = some k' := Option.isSome_iff_exists.1 (by rw [← at_put, hat2]; rfl)
        have HP := Lib.hid (put_some hkid hput)
        obtain ⟨pb, po, pc, he, hpc⟩ := RdI_get (i := 0) hq rfl
        simp only [Value.slice.injEq, true_and] at he
        obtain ⟨rfl, rfl⟩ := he
        rw [Nat.add_zero] at hpc
        have hpl : ((p.length : Int) + 1 == 0) = false := by rw [beq_eq_false_iff_ne]; omega
        have hkl : t.kids.length ≤ 1000000 := by have := wtK_len t.kids; rw [Nd.wt_eq] at hwt; omega
        have hne : t.kids ≠ [] := by intro h; rw [h] at hm; simp at hm
        obtain ⟨xs, hxs, hRS⟩ := hK.row
        have HK := Lib.hid (fun W (hE : Ext w W) => clone_row t.kids xs _ W (rowK_ext (hWo.trans hE) hxs) (hRS.ext (hWo.trans hE)) hne hkl)
        clear hne k3 hK
        go_enter Try.func29, Try.ntmps29
        go_wp2_with (first
          | (rw [H0.out]; clear H0; go_at_call 27; refine hat.mono ?_; rintro e w1 ⟨r, rfl, ⟨ov, rfl, hov⟩, hE1⟩; obtain ⟨oav, okv, rfl, _, _, _, _, ⟨oA, oac, rfl, _⟩, ⟨oK, okc, rfl, _⟩⟩ := Nd.rd_open hov
             obtain ⟨w2, hw2⟩ : ∃ w2, w1.alloc (.cells #[.int .u64 k0.id, .bool k0.leaf, .string k0.label, .slice oA k0.attrs.length oac, .string k0.text, .slice oK k0.kids.length okc] 26) = w2 := ⟨_, rfl⟩
             have hE2 : Ext w0 w2 := by rw [← hw2]; exact hE1.alloc _
             have H2 := Lib.hid hw2
             clear hw2
             have n1 := hb1.ext hE2
             have d5 : w2.cell? ⟨w.heap.size, 5, none⟩ = some (.slice kA t.kids.length kc) := n1.cell 5)
          | (rw [H2.out]; clear H2))
        refine (HK.out w2 (hE0.trans hE2)).mono ?_
        rintro e w3 ⟨sl, rfl, hown, hE3⟩
        obtain ⟨g, cap, rfl, hg1, hg2⟩ := World.ownsRow.form hown (by omega)
        have m1 := n1.ext hE3
        have f5 : w3.cell? ⟨w.heap.size, 5, none⟩ = some (.slice kA t.kids.length kc) := m1.cell 5
        have ff5 := m1.frozen 5
        go_wp2_with fail
        obtain ⟨w4, hw4⟩ : ∃ w4, w3.setCell ⟨w.heap.size, 5, none⟩ (.slice (some ⟨g, 0, none⟩) t.kids.length cap) = w4 := ⟨_, rfl⟩
        have hn2 : w.heap.size < w2.heap.size := n1.lt
        have hE4 : Ext w w4 := by rw [← hw4]; exact Below.setCell ((hE0.trans hE2).trans hE3) (p := ⟨w.heap.size, 5, none⟩) (Nat.le_refl _) _
        have N4 : NBox w4 w.heap.size 26 #[.int .u64 t.id, .bool t.leaf, .string t.label, .slice aA t.attrs.length ac, .string t.text, .slice (some ⟨g, 0, none⟩) t.kids.length cap] := by rw [← hw4]; simpa using m1.set 5 (.slice (some ⟨g, 0, none⟩) t.kids.length cap)
        have X4 : NBox w4 (w.heap.size + 1) 26 #[.int .u64 x.id, .bool x.leaf, .string x.label, .slice xA x.attrs.length xac, .string x.text, .slice xK x.kids.length xkc] := by rw [← hw4]; exact ((hb2.ext hE2).ext hE3).other (p := ⟨w.heap.size, 5, none⟩) (by simp) _
        have R4 : NBox w4 (w.heap.size + 1 + 1) 26 #[.int .u64 0, .bool false, .string ⟨#[]⟩, .slice none 0 0, .string ⟨#[]⟩, .slice none 0 0] := by rw [← hw4]; exact ((hb3.ext hE2).ext hE3).other (p := ⟨w.heap.size, 5, none⟩) (by simp; omega) _
        have own4 : w4.ownsRow w2.heap.size 26 6 (.slice (some ⟨g, 0, none⟩) t.kids.length cap) t.kids.length xs := by rw [← hw4]; exact ownsRow_setCell_below hown hn2 _
        have hR2 : w.heap.size + 1 + 1 < w2.heap.size := (hb3.ext hE2).lt
        obtain ⟨yA, ya, yK, yk, f0, f1, f2, f3, f4, f5', hY⟩ := rowK_get hxs hkid
        rw [← own4.cellAt (m * 6) (by omega)] at f0
        rw [← own4.cellAt (m * 6 + 1) (by omega)] at f1
        rw [← own4.cellAt (m * 6 + 2) (by omega)] at f2
        rw [← own4.cellAt (m * 6 + 3) (by omega)] at f3
        rw [← own4.cellAt (m * 6 + 4) (by omega)] at f4
        rw [← own4.cellAt (m * 6 + 5) (by omega)] at f5'
        have HW4 := Lib.hid hw4
        rw [hw4]
        obtain ⟨a0, a1, a2, a3, a4, a5⟩ := NBox.six N4
        obtain ⟨b0, b1, b2, b3, b4, b5⟩ := NBox.six X4
        have hpc0 := hpc
        replace hpc := hE4.cell hpc
        clear hw4 f5 ff5 d5
        refine wp_region_held_drew (S := (fun W => Ext w W ∧ NBox W w.heap.size 26 #[.int .u64 t.id, .bool t.leaf, .string t.label, .slice aA t.attrs.length ac, .string t.text, .slice (some ⟨g, 0, none⟩) t.kids.length cap] ∧ NBox W (w.heap.size + 1) 26 #[.int .u64 x.id, .bool x.leaf, .string x.label, .slice xA x.attrs.length xac, .string x.text, .slice xK x.kids.length xkc] ∧ W.cell? ⟨w.heap.size, 5, none⟩ = some (.slice (some ⟨g, 0, none⟩) t.kids.length cap) ∧ W.cell? ⟨pb, po, none⟩ = some (.int .i64 m) ∧ W.cell? ⟨w.heap.size + 1, 0, none⟩ = some (.int .u64 x.id) ∧ W.cell? ⟨w.heap.size + 1, 1, none⟩ = some (.bool x.leaf) ∧ W.cell? ⟨w.heap.size + 1, 2, none⟩ = some (.string x.label) ∧ W.cell? ⟨w.heap.size + 1, 3, none⟩ = some (.slice xA x.attrs.length xac) ∧ W.cell? ⟨w.heap.size + 1, 4, none⟩ = some (.string x.text) ∧ W.cell? ⟨w.heap.size + 1, 5, none⟩ = some (.slice xK x.kids.length xkc))) (by kernel_rfl) ⟨hE4.drew, N4, X4, a5, hpc, b0, b1, b2, b3, b4, b5⟩ (fun hHeld => ?_)
        refine wpAnyH_take (i := 0) (oi := ⟨_, _, _, _, _, _⟩) (v := ?_) rfl (by kernel_rfl) (by kernel_rfl) (by kernel_rfl) (fun _ _ _ h => h) (Or.inl ⟨by rfl, ?_⟩) hHeld ?_
        rotate_left
        · intro w hSw
          try dsimp only at hSw
          go_simp
          all_goals (first | with_reducible rfl | rw [if_pos (by omega)])
        try simp only [Act.put, List.setIfInBounds_toArray, List.set_cons_zero, List.set_cons_succ]
        refine wpAnyH_take (i := 1) (oi := ⟨_, _, _, _, _, _⟩) (v := ?_) rfl (by kernel_rfl) (by kernel_rfl) (by kernel_rfl) (fun _ _ _ h => h) (Or.inl ⟨by rfl, ?_⟩) hHeld ?_
        rotate_left
        · intro w hSw
          try dsimp only at hSw
          go_simp
          all_goals (first | with_reducible rfl | rw [if_pos (by omega)])
        try simp only [Act.put, List.setIfInBounds_toArray, List.set_cons_zero, List.set_cons_succ]
        refine wpAnyH_take (i := 2) (oi := ⟨_, _, _, _, _, _⟩) (v := ?_) rfl (by kernel_rfl) (by kernel_rfl) (by kernel_rfl) (fun _ _ _ h => h) (Or.inl ⟨by rfl, ?_⟩) hHeld ?_
        rotate_left
        · intro w hSw
          try dsimp only at hSw
          go_simp
          all_goals (first | with_reducible rfl | rw [if_pos (by omega)])
        try simp only [Act.put, List.setIfInBounds_toArray, List.set_cons_zero, List.set_cons_succ]
        refine wpAnyH_take (i := 3) (oi := ⟨_, _, _, _, _, _⟩) (v := ?_) rfl (by kernel_rfl) (by kernel_rfl) (by kernel_rfl) (fun _ _ _ h => h) (Or.inl ⟨by rfl, ?_⟩) hHeld ?_
        rotate_left
        · intro w hSw
          try dsimp only at hSw
          go_simp
          all_goals (first | with_reducible rfl | rw [if_pos (by omega)])
        try simp only [Act.put, List.setIfInBounds_toArray, List.set_cons_zero, List.set_cons_succ]
        refine wpAnyH_take (i := 4) (oi := ⟨_, _, _, _, _, _⟩) (v := ?_) rfl (by kernel_rfl) (by kernel_rfl) (by kernel_rfl) (fun _ _ _ h => h) (Or.inl ⟨by rfl, ?_⟩) hHeld ?_
        rotate_left
        · intro w hSw
          try dsimp only at hSw
          go_simp
          all_goals (first | with_reducible rfl | rw [if_pos (by omega)])
        try simp only [Act.put, List.setIfInBounds_toArray, List.set_cons_zero, List.set_cons_succ]
        refine wpAnyH_take (i := 5) (oi := ⟨_, _, _, _, _, _⟩) (v := ?_) rfl (by kernel_rfl) (by kernel_rfl) (by kernel_rfl) (fun _ _ _ h => h) (Or.inl ⟨by rfl, ?_⟩) hHeld ?_
        rotate_left
        · intro w hSw
          try dsimp only at hSw
          go_simp
          all_goals (first | with_reducible rfl | rw [if_pos (by omega)])
        try simp only [Act.put, List.setIfInBounds_toArray, List.set_cons_zero, List.set_cons_succ]
        refine wpAnyH_take (i := 6) (oi := ⟨_, _, _, _, _, _⟩) (v := ?_) rfl (by kernel_rfl) (by kernel_rfl) (by kernel_rfl) (fun _ _ _ h => h) (Or.inl ⟨by rfl, ?_⟩) hHeld ?_
        rotate_left
        · intro w hSw
          try dsimp only at hSw
          go_simp
          all_goals (first | with_reducible rfl | rw [if_pos (by omega)])
        try simp only [Act.put, List.setIfInBounds_toArray, List.set_cons_zero, List.set_cons_succ]
        refine wpAnyH_take (i := 7) (oi := ⟨_, _, _, _, _, _⟩) (v := ?_) rfl (by kernel_rfl) (by kernel_rfl) (by kernel_rfl) (fun _ _ _ h => h) (Or.inl ⟨by rfl, ?_⟩) hHeld ?_
        rotate_left
        · intro w hSw
          try dsimp only at hSw
          go_simp
          all_goals (first | with_reducible rfl | rw [if_pos (by omega)])
        try simp only [Act.put, List.setIfInBounds_toArray, List.set_cons_zero, List.set_cons_succ]
        refine wpAnyH_take (i := 8) (oi := ⟨_, _, _, _, _, _⟩) (v := ?_) rfl (by kernel_rfl) (by kernel_rfl) (by kernel_rfl) (fun _ _ _ h => h) (Or.inl ⟨by rfl, ?_⟩) hHeld ?_
        rotate_left
        · intro w hSw
          try dsimp only at hSw
          go_simp
          all_goals (first | with_reducible rfl | rw [if_pos (by omega)])
        try simp only [Act.put, List.setIfInBounds_toArray, List.set_cons_zero, List.set_cons_succ]
        refine wpAnyH_take (i := 9) (oi := ⟨_, _, _, _, _, _⟩) (v := ?_) rfl (by kernel_rfl) (by kernel_rfl) (by kernel_rfl) (fun _ _ _ h => h) (Or.inl ⟨by rfl, ?_⟩) hHeld ?_
        rotate_left
        · intro w hSw
          try dsimp only at hSw
          go_simp
          all_goals (first | with_reducible rfl | rw [if_pos (by omega)])
        try simp only [Act.put, List.setIfInBounds_toArray, List.set_cons_zero, List.set_cons_succ]
        refine wpAnyH_take (i := 10) (oi := ⟨_, _, _, _, _, _⟩) (v := ?_) rfl (by kernel_rfl) (by kernel_rfl) (by kernel_rfl) (fun _ _ _ h => h) (Or.inl ⟨by rfl, ?_⟩) hHeld ?_
        rotate_left
        · intro w hSw
          try dsimp only at hSw
          go_simp
          all_goals (first | with_reducible rfl | rw [if_pos (by omega)])
        try simp only [Act.put, List.setIfInBounds_toArray, List.set_cons_zero, List.set_cons_succ]
        refine wpAnyH_take (i := 12) (oi := ⟨_, _, _, _, _, _⟩) (v := ?_) rfl (by kernel_rfl) (by kernel_rfl) (by kernel_rfl) (fun _ _ _ h => h) (Or.inl ⟨by rfl, ?_⟩) hHeld ?_
        rotate_left
        · intro w hSw
          try dsimp only at hSw
          go_simp
          all_goals (first | with_reducible rfl | rw [if_pos (by omega)])
        try simp only [Act.put, List.setIfInBounds_toArray, List.set_cons_zero, List.set_cons_succ]
        refine wpAnyH_take (i := 13) (oi := ⟨_, _, _, _, _, _⟩) (v := ?_) rfl (by kernel_rfl) (by kernel_rfl) (by kernel_rfl) (fun _ _ _ h => h) (Or.inl ⟨by rfl, ?_⟩) hHeld ?_
        rotate_left
        · intro w hSw
          try dsimp only at hSw
          go_simp
          all_goals (first | with_reducible rfl | rw [if_pos (by omega)])
        try simp only [Act.put, List.setIfInBounds_toArray, List.set_cons_zero, List.set_cons_succ]
        refine wpAnyH_take (i := 14) (oi := ⟨_, _, _, _, _, _⟩) (v := ?_) rfl (by kernel_rfl) (by kernel_rfl) (by kernel_rfl) (fun _ _ _ h => h) (Or.inl ⟨by rfl, ?_⟩) hHeld ?_
        rotate_left
        · intro w hSw
          try dsimp only at hSw
          go_simp
          all_goals (first | with_reducible rfl | rw [if_pos (by omega)])
        try simp only [Act.put, List.setIfInBounds_toArray, List.set_cons_zero, List.set_cons_succ]
        refine wpAnyH_ready (rs := [11]) (by kernel_rfl) (by simp) ?_
        refine AllReadyH.cons (o := ⟨_, _, _, _, _, _⟩) rfl (fun K' hK => ?_) AllReadyH.nil
        go_simp
        refine hK.out _ _ hHeld (fun hHeld => ?_)
        clear hK K'
        try simp only [Act.put, List.setIfInBounds_toArray, List.set_cons_zero, List.set_cons_succ]
        refine wpAnyH_ready (rs := [15]) (by kernel_rfl) (by simp) ?_
        refine AllReadyH.cons (o := ⟨_, _, _, _, _, _⟩) rfl (fun K' hK => ?_) AllReadyH.nil
        go_simp
        go_at_call 29
        refine (ih kid x _ _ p _ wo _ (hWo.trans hHeld.1) (by simp only [List.length_cons] at hM; omega) hY hx ((RdI_tail hq).ext hHeld.1) (Nat.le_trans (Nat.le_of_lt (Nd.wt_kid hkid)) hwt)).mono ?_
        rintro e w5 ⟨r, rfl, hr5, hE5⟩
        rw [hput] at hr5
        have hr5' := hr5 w5 ((hWo.trans hHeld.1).trans hE5) (fun _ _ _ => rfl)
        obtain ⟨ov, rfl, hov⟩ := hr5'
        obtain ⟨oav, okv, rfl, _, _, _, _, ⟨zA, zac, rfl, _⟩, ⟨zK, zkc, rfl, _⟩⟩ := Nd.rd_open hov
        clear hov
        simp only [Option.getD_some] at hr5
        have HR5 := Lib.hid hr5
        clear hr5
        have own5 := owns_ext hE5 own4
        replace f0 := hE5.cell f0; replace f1 := hE5.cell f1; replace f2 := hE5.cell f2; replace f3 := hE5.cell f3; replace f4 := hE5.cell f4; replace f5' := hE5.cell f5'
        have ff0 := own5.frozenAt (m * 6); have ff1 := own5.frozenAt (m * 6 + 1); have ff2 := own5.frozenAt (m * 6 + 2); have ff3 := own5.frozenAt (m * 6 + 3); have ff4 := own5.frozenAt (m * 6 + 4); have ff5 := own5.frozenAt (m * 6 + 5)
        have R5 := R4.ext hE5
        have H5 := Lib.hid hE5
        refine hK.out _ _ ?_ (fun hHeld => ?_)
        · obtain ⟨h1, h2, h3, h4, h5, h6, h7, h8, h9, h10, h11⟩ := hHeld
          exact ⟨h1.trans hE5, h2.ext hE5, h3.ext hE5, hE5.cell h4, hE5.cell h5, hE5.cell h6, hE5.cell h7, hE5.cell h8, hE5.cell h9, hE5.cell h10, hE5.cell h11⟩
        clear hK K' hE5
        try simp only [Act.put, List.setIfInBounds_toArray, List.set_cons_zero, List.set_cons_succ]
        refine wpAnyH_take (i := 16) (oi := ⟨_, _, _, _, _, _⟩) (v := ?_) rfl (by kernel_rfl) (by kernel_rfl) (by kernel_rfl) (fun _ _ _ h => h) (Or.inl ⟨by rfl, ?_⟩) hHeld ?_
        rotate_left
        · intro w hSw
          try dsimp only at hSw
          go_simp
          all_goals (first | with_reducible rfl | rw [if_pos (by omega)])
        try simp only [Act.put, List.setIfInBounds_toArray, List.set_cons_zero, List.set_cons_succ]
        refine wpAnyH_take (i := 17) (oi := ⟨_, _, _, _, _, _⟩) (v := ?_) rfl (by kernel_rfl) (by kernel_rfl) (by kernel_rfl) (fun _ _ _ h => h) (Or.inl ⟨by rfl, ?_⟩) hHeld ?_
        rotate_left
        · intro w hSw
          try dsimp only at hSw
          go_simp
          all_goals (first | with_reducible rfl | rw [if_pos (by omega)])
        try simp only [Act.put, List.setIfInBounds_toArray, List.set_cons_zero, List.set_cons_succ]
        refine wpAnyH_take (i := 18) (oi := ⟨_, _, _, _, _, _⟩) (v := ?_) rfl (by kernel_rfl) (by kernel_rfl) (by kernel_rfl) (fun _ _ _ h => h) (Or.inl ⟨by rfl, ?_⟩) hHeld ?_
        rotate_left
        · intro w hSw
          try dsimp only at hSw
          go_simp
          all_goals (first | with_reducible rfl | rw [if_pos (by omega)])
        try simp only [Act.put, List.setIfInBounds_toArray, List.set_cons_zero, List.set_cons_succ]
        refine wpAnyH_take (i := 19) (oi := ⟨_, _, _, _, _, _⟩) (v := ?_) rfl (by kernel_rfl) (by kernel_rfl) (by kernel_rfl) (fun _ _ _ h => h) (Or.inl ⟨by rfl, ?_⟩) hHeld ?_
        rotate_left
        · intro w hSw
          try dsimp only at hSw
          go_simp
          all_goals (first | with_reducible rfl | rw [if_pos (by omega)])
        try simp only [Act.put, List.setIfInBounds_toArray, List.set_cons_zero, List.set_cons_succ]
        refine wpAnyH_ready (rs := [20]) (by kernel_rfl) (by simp) ?_
        refine AllReadyH.cons (o := ⟨_, _, _, _, _, _⟩) rfl (fun K' hK => ?_) AllReadyH.nil
        go_simp
        have hng : w.heap.size ≠ g := by omega
        have hxg : w.heap.size + 1 ≠ g := by omega
        refine hK.out _ _ ?_ (fun hHeld => ?_)
        · obtain ⟨h1, h2, h3, _⟩ := hHeld
          have E6 := h1.setAt (B := g) (by omega) (m * 6) (.int .u64 k'.id) (.bool k'.leaf) (.string k'.label) (.slice zA k'.attrs.length zac) (.string k'.text) (.slice zK k'.kids.length zkc)
          have N6 := h2.farAt hng (m * 6) (.int .u64 k'.id) (.bool k'.leaf) (.string k'.label) (.slice zA k'.attrs.length zac) (.string k'.text) (.slice zK k'.kids.length zkc)
          have X6 := h3.farAt hxg (m * 6) (.int .u64 k'.id) (.bool k'.leaf) (.string k'.label) (.slice zA k'.attrs.length zac) (.string k'.text) (.slice zK k'.kids.length zkc)
          exact ⟨E6, N6, X6, N6.cell 5, E6.cell hpc0, X6.cell 0, X6.cell 1, X6.cell 2, X6.cell 3, X6.cell 4, X6.cell 5⟩
        clear hK K'
        try simp only [Act.put, List.setIfInBounds_toArray, List.set_cons_zero, List.set_cons_succ]
        refine wpAnyH_done (by kernel_rfl) ?_ _
        obtain ⟨h1, h2, h3, _⟩ := hHeld
        have own6 := own_set6 own5 (m * 6) (.int .u64 k'.id) (.bool k'.leaf) (.string k'.label) (.slice zA k'.attrs.length zac) (.string k'.text) (.slice zK k'.kids.length zkc)
        have R6 := R5.farAt (show w.heap.size + 1 + 1 ≠ g by omega) (m * 6) (.int .u64 k'.id) (.bool k'.leaf) (.string k'.label) (.slice zA k'.attrs.length zac) (.string k'.text) (.slice zK k'.kids.length zkc)
        have hS5 : w5.heap.size = ((((((w5.setCell ⟨g, m * 6, none⟩ (.int .u64 k'.id)).setCell ⟨g, m * 6 + 1, none⟩ (.bool k'.leaf)).setCell ⟨g, m * 6 + 2, none⟩ (.string k'.label)).setCell ⟨g, m * 6 + 3, none⟩ (.slice zA k'.attrs.length zac)).setCell ⟨g, m * 6 + 4, none⟩ (.string k'.text)).setCell ⟨g, m * 6 + 5, none⟩ (.slice zK k'.kids.length zkc)).heap.size := by simp
        have hB5 : ∀ k, k ≠ g → ((((((w5.setCell ⟨g, m * 6, none⟩ (.int .u64 k'.id)).setCell ⟨g, m * 6 + 1, none⟩ (.bool k'.leaf)).setCell ⟨g, m * 6 + 2, none⟩ (.string k'.label)).setCell ⟨g, m * 6 + 3, none⟩ (.slice zA k'.attrs.length zac)).setCell ⟨g, m * 6 + 4, none⟩ (.string k'.text)).setCell ⟨g, m * 6 + 5, none⟩ (.slice zK k'.kids.length zkc)).heap[k]? = w5.heap[k]? := fun k hk => heap_at6 w5 g (m * 6) _ _ _ _ _ _ k hk
        obtain ⟨w6, hw6⟩ : ∃ w6, ((((((w5.setCell ⟨g, m * 6, none⟩ (.int .u64 k'.id)).setCell ⟨g, m * 6 + 1, none⟩ (.bool k'.leaf)).setCell ⟨g, m * 6 + 2, none⟩ (.string k'.label)).setCell ⟨g, m * 6 + 3, none⟩ (.slice zA k'.attrs.length zac)).setCell ⟨g, m * 6 + 4, none⟩ (.string k'.text)).setCell ⟨g, m * 6 + 5, none⟩ (.slice zK k'.kids.length zkc)) = w6 := ⟨_, rfl⟩
        rw [hw6] at h1 h2 h3 own6 R6 hS5
        simp only [hw6] at hB5
        have HS5 := Lib.hid hS5
        have HB5 := Lib.hid hB5
        clear hS5 hB5
        rw [hw6]
        clear hw6 f0 f1 f2 f3 f4 f5' ff0 ff1 ff2 ff3 ff4 ff5 a0 a1 a2 a3 a4 a5 b0 b1 b2 b3 b4 b5
        obtain ⟨n0, n1', n2, n3, n4, n5⟩ := NBox.six h2
        obtain ⟨r0, r1, r2, r3, r4, r5⟩ := NBox.six R6
        have rf0 := R6.frozen 0; have rf1 := R6.frozen 1; have rf2 := R6.frozen 2; have rf3 := R6.frozen 3; have rf4 := R6.frozen 4; have rf5 := R6.frozen 5
        clear HW4
        generalize (if qc = 1 then (some ⟨pb, po, none⟩ : Option Addr) else some ⟨pb, po + 1, none⟩) = ta
        go_wp2_with fail
        exact bodyPost_ret (results_node rfl rfl rfl (NBox.set6 R6 _ _ _ _ _ _) Try.underlying26 rfl info26) rfl ⟨_, rfl, (fun W hW hB => by
          have hsz : w5.heap.size = w6.heap.size := HS5.out
          have hg5 : g < w5.heap.size := own5.lt g rfl |>.2
          have hB' : ∀ k, w.heap.size ≤ k → k < w6.heap.size → k ≠ w.heap.size + 1 + 1 → W.heap[k]? = w6.heap[k]? := fun k h1 h2 h3 => by
            rw [hB k h1 (by simpa using h2)]
            exact heap_at6 w6 (w.heap.size + 1 + 1) 0 _ _ _ _ _ _ k h3
          have hk' : k'.rd W (.agg #[.int .u64 k'.id, .bool k'.leaf, .string k'.label, .slice zA k'.attrs.length zac, .string k'.text, .slice zK k'.kids.length zkc]) := by
            obtain ⟨ov, h1, h2⟩ := HR5.out W hW (fun k h1 h2 => by
              have h4 : w4.heap.size ≤ k := h1
              have h5 : g < w4.heap.size := own4.lt g rfl |>.2
              rw [hB' k (by have := hE4.size; omega) (by omega) (by omega)]
              exact HB5.out k (by omega))
            simp only [Option.isSome_some, Value.tuple.injEq, Array.mk.injEq, List.cons.injEq, and_true] at h1
            rw [h1]
            exact h2
          have hset := rowK_set (rowK_ext hW hxs) hm hk'
          have ownW := owns_same own6 (hB' g (by omega) (by omega) (by omega))
          have hRK : RdK W (t.kids.set m k') (.slice (some ⟨g, 0, none⟩) t.kids.length cap) := by
            have hro := RdS.of_owns ownW
            rw [show t.kids.length = (t.kids.set m k').length by simp] at hro
            have := RdK.of_row hset hro
            simpa using this
          rw [HP.out]
          exact ⟨_, rfl, Nd.rd_shut (t := t.withKids (t.kids.set m k')) i0 i1 hl htx (hA0.ext hW) hRK⟩), h1.set6 (by omega) _ _ _ _ _ _⟩

theorem put_any (t x : Nd) (v xv : Value) (p : List Int) (q : Value) (w : World) (ht : t.rd w v) (hx : x.rd w xv) (hq : RdS w 1 p.length (p.map (Value.int .i64)) q) (hwt : t.wt ≤ 1000000) :
    Calls Try.prog 29 #[v, q, xv] w (Ret w fun r w' => RdO w' (t.put p x) r) := by
  refine (put_late p.length t x v xv p q w w (Ext.refl w) (Nat.le_refl _) ht hx hq hwt).mono ?_
  rintro e w' ⟨r, rfl, h, hE⟩
  exact ⟨r, rfl, h w' hE (fun _ _ _ => rfl), hE⟩
end Go.Proofs.Ytamkgdkoddoehaa.Bw
