/- SyRows turned to this seat. (Printed by gport.py.) -/
import Derived.Test.YtdnjkffmgmbfmaaHyIdsW
import Derived.Test.YtdnjkffmgmbfmaaHyBsMay2
import Derived.Test.YtdnjkffmgmbfmaaHyWiLate
import Derived.Test.YtdnjkffmgmbfmaaBwWeighPlain
import Derived.Test.YtdnjkffmgmbfmaaHyLxFrame
import Derived.Deep.QuietTactic
import Derived.Test.YtdnjkffmgmbfmaaHyLxNorm
namespace Go.Proofs.Ytdnjkffmgmbfmaa.Sy
open Go.RowKit Go.Proofs.Ytdnjkffmgmbfmaa.Bw Go.Proofs.Ytdnjkffmgmbfmaa.Bs
theorem rowK_take {w : World} : ∀ (n : Nat) {ks : List Nd} {xs : List Value}, rowK w ks xs → rowK w (ks.take n) (xs.take (n * 6))
 | 0, ks, xs, _ => by simp [rowK]
 | n + 1, [], xs, h => by rw [show xs = [] from h]; simp [rowK]
 | n + 1, k :: r, xs, ⟨c0, c1, c2, c3, c4, c5, rest, hx, hk, hr⟩ => by
  subst hx
  rw [show (n + 1) * 6 = n * 6 + 6 by omega]
  exact ⟨c0, c1, c2, c3, c4, c5, rest.take (n * 6), rfl, hk, rowK_take n hr⟩
theorem rowK_drop {w : World} : ∀ (n : Nat) {ks : List Nd} {xs : List Value}, rowK w ks xs → rowK w (ks.drop n) (xs.drop (n * 6))
 | 0, ks, xs, h => by simpa using h
 | n + 1, [], xs, h => by rw [show xs = [] from h]; simp [rowK]
 | n + 1, k :: r, xs, ⟨c0, c1, c2, c3, c4, c5, rest, hx, hk, hr⟩ => by
  subst hx
  rw [show (n + 1) * 6 = n * 6 + 6 by omega]
  exact rowK_drop n hr
theorem rowK_app {w : World} : ∀ {ks ls : List Nd} {xs ys : List Value}, rowK w ks xs → rowK w ls ys → rowK w (ks ++ ls) (xs ++ ys)
 | [], ls, xs, ys, h, k => by rw [show xs = [] from h]; exact k
 | _ :: _, ls, xs, ys, ⟨c0, c1, c2, c3, c4, c5, rest, hx, hk, hr⟩, k => ⟨c0, c1, c2, c3, c4, c5, rest ++ ys, by rw [hx]; rfl, hk, rowK_app hr k⟩
theorem rowK_single {w : World} {x : Nd} {c0 c1 c2 c3 c4 c5 : Value} (h : x.rd w (.agg #[c0, c1, c2, c3, c4, c5])) : rowK w [x] [c0, c1, c2, c3, c4, c5] := ⟨c0, c1, c2, c3, c4, c5, [], rfl, h, rfl⟩
theorem RdS.front {w : World} {s n k c : Nat} {xs : List Value} {A : Option Addr} (h : RdS w s n xs (.slice A n c)) (hk : k ≤ n) : RdS w s k (xs.take (k * s)) (.slice A k c) := by
 obtain ⟨A', c', he, h1, h2, h3, h4⟩ := h
 simp only [Value.slice.injEq, true_and] at he
 obtain ⟨rfl, rfl⟩ := he
 refine ⟨A, c, rfl, ?_, by omega, h3, fun h0 => ?_⟩
 ·rw [List.length_take, h1]; exact Nat.min_eq_left (Nat.mul_le_mul_right s hk)
 ·obtain ⟨b, o, hA, hc⟩ := h4 (by omega)
  refine ⟨b, o, hA, fun j u hu => hc j u ?_⟩
  rw [List.getElem?_take] at hu
  split at hu
  ·exact hu
  ·cases hu
theorem RdS.back {w : World} {s n k c b o : Nat} {xs : List Value} (h : RdS w s n xs (.slice (some ⟨b, o, none⟩) n c)) (hk : k ≤ n) {A : Option Addr} (hA : k < n → A = some ⟨b, o + k * s, none⟩) : RdS w s (n - k) (xs.drop (k * s)) (.slice A (n - k) (c - k)) := by
 obtain ⟨A', c', he, h1, h2, h3, h4⟩ := h
 simp only [Value.slice.injEq, true_and] at he
 obtain ⟨rfl, rfl⟩ := he
 refine ⟨A, c - k, rfl, ?_, by omega, by omega, fun h0 => ?_⟩
 ·rw [List.length_drop, h1, Nat.sub_mul]
 ·obtain ⟨b', o', he, hc⟩ := h4 (by omega)
  simp only [Option.some.injEq, Addr.mk.injEq, and_true] at he
  obtain ⟨rfl, rfl⟩ := he
  refine ⟨b, o + k * s, hA (by omega), fun j u hu => ?_⟩
  rw [List.getElem?_drop] at hu
  rw [show o + k * s + j = o + (k * s + j) by omega]
  exact hc _ u hu
theorem RdS.addr {w : World} {s n c : Nat} {xs : List Value} {a : Addr} (h : RdS w s n xs (.slice (some a) n c)) (hn : 0 < n) : ∃ b o, a = ⟨b, o, none⟩ := by
 obtain ⟨A', c', he, -, -, -, h4⟩ := h
 simp only [Value.slice.injEq, true_and] at he
 obtain ⟨rfl, rfl⟩ := he
 obtain ⟨b, o, hA, -⟩ := h4 hn
 exact ⟨b, o, Option.some.inj hA⟩
theorem RdS.none_ {w : World} {s c : Nat} {A : Option Addr} (hc : c ≤ maxLen) : RdS w s 0 [] (.slice A 0 c) := ⟨A, c, rfl, by simp, Nat.zero_le _, hc, fun h => absurd h (Nat.lt_irrefl _)⟩
/-- Kids behind a gap. -/
def insD (t : Nd) (i : Nat) (x : Nd) : Nd := t.withKids (t.kids.take i ++ [x] ++ t.kids.drop i)
def delD (t : Nd) (i : Nat) : Nd := t.withKids (t.kids.take i ++ t.kids.drop (i + 1))
/-- An owned row stands in each world that has its block. -/
theorem owns_news {w3 W : World} {base e size n lo : Nat} {v : Value} {xs : List Value} (h : w3.ownsRow base e size v n xs) (hN : ∀ k, lo ≤ k → k < w3.heap.size → W.heap[k]? = w3.heap[k]?) (hb : lo ≤ base) : W.ownsRow base e size v n xs := by
 rcases h.2 with ⟨h1, h2⟩ | ⟨g, cap, cur, rfl, h1, h2⟩
 ·exact ⟨h.1, .inl ⟨h1, h2⟩⟩
 ·exact owns_same h (hN g (Nat.le_trans hb h1) (by have := h.lt g rfl; exact this.2))
theorem own_as {W : World} {b e s n m : Nat} {v : Value} {xs ys : List Value} (h : W.ownsRow b e s v n xs) (hn : n = m) (hx : xs = ys) : W.ownsRow b e s v m ys := by rw [← hn, ← hx]; exact h
theorem row_late {w w1 w6 w7 w9 wo : World} {B : Nat} (hB : w.heap.size = B) (hZ : w1.heap.size = B + 1 + 1 + 1) (F7 : Fr w6 w7 (fun k => k = B)) (F9 : Fr w7 w9 (fun k => k = B + 1 + 1)) {t : Nd} {tv kv : Value} {ks : List Nd} {us : List Value}
  (hO : w6.ownsRow w1.heap.size 42 6 kv ks.length us) (hU : rowK wo ks us) (hT : 0 ≤ t.id ∧ t.id ≤ 18446744073709551615 ∧ t.label.size ≤ maxLen ∧ t.text.size ≤ maxLen ∧ RdA wo t.attrs tv) :
  LateN wo w w9 (t.withKids ks) (.agg #[.int .u64 t.id, .bool t.leaf, .string t.label, tv, .string t.text, kv]) := by
 intro W hS hN
 have h7 : News w1 w6 w7 := news_fr (News.now _ _) F7 (Nat.le_refl _) (fun i hi => .inl (by rw [show i = B from hi]; omega))
 have h9 : News w1 w6 w9 := news_fr h7 F9 F7.size (fun i hi => .inl (by rw [show i = B + 1 + 1 from hi]; omega))
 have h10 := news_sub hN h9 (by omega) (Nat.le_trans F7.size F9.size)
 have hW := owns_news hO h10 (Nat.le_refl _)
 exact Nd.rd_shut (t := t.withKids ks) hT.1 hT.2.1 hT.2.2.1 hT.2.2.2.1 (RdA.sub hS hT.2.2.2.2) (Bw.RdK.of_row (rowK_sub hS hU) (RdS.of_owns hW))
theorem ins_late {w w1 w6 w7 w9 wo : World} {B i c6 tc : Nat} {A6 tA : Option Addr} (hB : w.heap.size = B) (hZ : w1.heap.size = B + 1 + 1 + 1) (F7 : Fr w6 w7 (fun k => k = B)) (F9 : Fr w7 w9 (fun k => k = B + 1 + 1)) {t x : Nd} {us : List Value} {c0 c1 c2 c3 c4 c5 : Value}
  (hO : w6.ownsRow w1.heap.size 42 6 (.slice A6 (t.kids.length + 1) c6) (t.kids.length + 1) (us.take (i * 6) ++ [c0, c1, c2, c3, c4, c5] ++ us.drop (i * 6))) (hU : rowK wo t.kids us) (hx : x.rd wo (.agg #[c0, c1, c2, c3, c4, c5]))
  (hT : 0 ≤ t.id ∧ t.id ≤ 18446744073709551615 ∧ t.label.size ≤ maxLen ∧ t.text.size ≤ maxLen ∧ RdA wo t.attrs (.slice tA t.attrs.length tc)) (hi : i ≤ t.kids.length) :
  LateN wo w w9 (insD t i x) (.agg #[.int .u64 t.id, .bool t.leaf, .string t.label, .slice tA t.attrs.length tc, .string t.text, .slice A6 (t.kids.length + 1) c6]) := by
 have hl : (t.kids.take i ++ [x] ++ t.kids.drop i).length = t.kids.length + 1 := by simp; omega
 exact row_late hB hZ F7 F9 (by rw [hl]; exact hO) (rowK_app (rowK_app (rowK_take i hU) (rowK_single hx)) (rowK_drop i hU)) hT
theorem ins_ext {w w1 w6 w7 w9 : World} {B : Nat} (hB : w.heap.size = B) (E : Ext w w1) (X6 : Ext w1 w6) (F7 : Fr w6 w7 (fun k => k = B)) (F9 : Fr w7 w9 (fun k => k = B + 1 + 1)) : Ext w w9 :=
 Fr.ext (Fr.ext (E.trans X6) F7 (fun q hq => by rw [show q = B from hq, hB]; exact Nat.le_refl _)) F9 (fun q hq => by rw [show q = B + 1 + 1 from hq, hB]; omega)
theorem row_late1 {w w1 w6 w7 w9 wo : World} {B : Nat} (hB : w.heap.size = B) (hZ : w1.heap.size = B + 1 + 1) (F7 : Fr w6 w7 (fun k => k = B)) (F9 : Fr w7 w9 (fun k => k = B + 1)) {t : Nd} {tv kv : Value} {ks : List Nd} {us : List Value}
  (hO : w6.ownsRow w1.heap.size 42 6 kv ks.length us) (hU : rowK wo ks us) (hT : 0 ≤ t.id ∧ t.id ≤ 18446744073709551615 ∧ t.label.size ≤ maxLen ∧ t.text.size ≤ maxLen ∧ RdA wo t.attrs tv) :
  LateN wo w w9 (t.withKids ks) (.agg #[.int .u64 t.id, .bool t.leaf, .string t.label, tv, .string t.text, kv]) := by
 intro W hS hN
 have h7 : News w1 w6 w7 := news_fr (News.now _ _) F7 (Nat.le_refl _) (fun i hi => .inl (by rw [show i = B from hi]; omega))
 have h9 : News w1 w6 w9 := news_fr h7 F9 F7.size (fun i hi => .inl (by rw [show i = B + 1 from hi]; omega))
 have h10 := news_sub hN h9 (by omega) (Nat.le_trans F7.size F9.size)
 have hW := owns_news hO h10 (Nat.le_refl _)
 exact Nd.rd_shut (t := t.withKids ks) hT.1 hT.2.1 hT.2.2.1 hT.2.2.2.1 (RdA.sub hS hT.2.2.2.2) (Bw.RdK.of_row (rowK_sub hS hU) (RdS.of_owns hW))
theorem del_late {w w1 w6 w7 w9 wo : World} {B i c6 tc : Nat} {A6 tA : Option Addr} (hB : w.heap.size = B) (hZ : w1.heap.size = B + 1 + 1) (F7 : Fr w6 w7 (fun k => k = B)) (F9 : Fr w7 w9 (fun k => k = B + 1)) {t : Nd} {us : List Value}
  (hO : w6.ownsRow w1.heap.size 42 6 (.slice A6 (t.kids.length - 1) c6) (t.kids.length - 1) (us.take (i * 6) ++ us.drop ((i + 1) * 6))) (hU : rowK wo t.kids us)
  (hT : 0 ≤ t.id ∧ t.id ≤ 18446744073709551615 ∧ t.label.size ≤ maxLen ∧ t.text.size ≤ maxLen ∧ RdA wo t.attrs (.slice tA t.attrs.length tc)) (hi : i < t.kids.length) :
  LateN wo w w9 (delD t i) (.agg #[.int .u64 t.id, .bool t.leaf, .string t.label, .slice tA t.attrs.length tc, .string t.text, .slice A6 (t.kids.length - 1) c6]) := by
 have hl : (t.kids.take i ++ t.kids.drop (i + 1)).length = t.kids.length - 1 := by simp; omega
 exact row_late1 hB hZ F7 F9 (by rw [hl]; exact hO) (rowK_app (rowK_take i hU) (rowK_drop (i + 1) hU)) hT
theorem del_ext {w w1 w6 w7 w9 : World} {B : Nat} (hB : w.heap.size = B) (E : Ext w w1) (X6 : Ext w1 w6) (F7 : Fr w6 w7 (fun k => k = B)) (F9 : Fr w7 w9 (fun k => k = B + 1)) : Ext w w9 :=
 Fr.ext (Fr.ext (E.trans X6) F7 (fun q hq => by rw [show q = B from hq, hB]; exact Nat.le_refl _)) F9 (fun q hq => by rw [show q = B + 1 from hq, hB]; omega)
end Go.Proofs.Ytdnjkffmgmbfmaa.Sy
namespace Go.Proofs.Ytdnjkffmgmbfmaa.Sy
open Go.RowKit Go.Proofs.Ytdnjkffmgmbfmaa.Bw Go.Proofs.Ytdnjkffmgmbfmaa.Bs
theorem formed_may {o : OpD} (h : o.formed = true) : may o.path = true := by
 unfold OpD.formed at h
 rw [Bool.and_eq_true] at h
 exact h.1
theorem rdO_cells {W : World} {o : OpD} {v : Value} (h : o.rd W v) : ∃ pA pc tA tc cA cc, v = .agg #[.int .u8 o.kind, .slice pA o.path.length pc, .int .i64 o.at_, .slice tA o.to.length tc, .int .u64 o.id, .bool o.leaf, .string o.label, .string o.key, .string o.value, .bool o.gone, .slice cA o.pcs.length cc] ∧ RdI W o.path (.slice pA o.path.length pc) ∧ RdI W o.to (.slice tA o.to.length tc) ∧ RdP W o.pcs (.slice cA o.pcs.length cc) := by
 obtain ⟨pv, tv, cv, rfl, h1, h2, h3, -⟩ := h
 obtain ⟨pA, pc, rfl, -⟩ := id h1
 obtain ⟨tA, tc, rfl, -⟩ := id h2
 obtain ⟨cA, cc, rfl, -⟩ := id h3
 exact ⟨_, _, _, _, _, _, rfl, h1, h2, h3⟩
theorem formed_kind {o : OpD} (h : o.formed = true) : o.kind = 1 ∨ o.kind = 2 ∨ o.kind = 3 ∨ o.kind = 4 ∨ o.kind = 5 ∨ o.kind = 6 := by
 unfold OpD.formed at h
 rw [Bool.and_eq_true] at h
 obtain ⟨-, h⟩ := h
 by_cases h1 : o.kind = 1
 ·exact .inl h1
 by_cases h2 : o.kind = 2
 ·exact .inr (.inl h2)
 by_cases h3 : o.kind = 3
 ·exact .inr (.inr (.inl h3))
 by_cases h4 : o.kind = 4
 ·exact .inr (.inr (.inr (.inl h4)))
 by_cases h5 : o.kind = 5
 ·exact .inr (.inr (.inr (.inr (.inl h5))))
 by_cases h6 : o.kind = 6
 ·exact .inr (.inr (.inr (.inr (.inr h6))))
 simp [h1, h2, h3, h4, h5, h6] at h
end Go.Proofs.Ytdnjkffmgmbfmaa.Sy
namespace Go.Proofs.Ytdnjkffmgmbfmaa.Sy
open Go.RowKit Go.Proofs.Ytdnjkffmgmbfmaa.Bw Go.Proofs.Ytdnjkffmgmbfmaa.Bs
/-- Of how many bytes an edit tells. -/
def extL : List Pc → Int
 | [] => 0
 | p :: r => p.keep + p.drop + extL r
theorem extL_nn : ∀ {l : List Pc}, Nn l → 0 ≤ extL l ∧ extL l ≤ wt l
 | [], _ => ⟨Int.le_refl _, Int.le_refl _⟩
 | p :: r, h => by
  have h1 := extL_nn h.tail
  have h2 := h p List.mem_cons_self
  show 0 ≤ p.keep + p.drop + extL r ∧ p.keep + p.drop + extL r ≤ p.keep + p.drop + p.put.size + wt r
  omega
theorem Nn.at {l : List Pc} (h : Nn l) {i : Nat} {p : Pc} (hp : l[i]? = some p) : 0 ≤ p.keep ∧ 0 ≤ p.drop := h p (List.mem_of_getElem? hp)
theorem Nn.drop {l : List Pc} (h : Nn l) (i : Nat) : Nn (l.drop i) := fun p hp => h p (List.mem_of_mem_drop hp)
theorem extL_at {l : List Pc} {i : Nat} {p : Pc} (hp : l[i]? = some p) : extL (l.drop i) = p.keep + p.drop + extL (l.drop (i + 1)) := by rw [drop_at hp]; rfl
/-- A text, edited. -/
def applyB (t : ByteArray) : List Pc → ByteArray
 | [] => t
 | p :: r => t.extract 0 p.keep.toNat ++ p.put ++ applyB (t.extract (p.keep + p.drop).toNat t.size) r
def apE (t : ByteArray) (l : List Pc) : Int := if pcsRight l then (if extL l ≤ t.size then 0 else 50) else 2
def apS (t : ByteArray) (l : List Pc) : ByteArray := if apE t l = 0 then applyB t l else ⟨#[]⟩
theorem applyB_at (t : ByteArray) {l : List Pc} {i : Nat} {p : Pc} (hp : l[i]? = some p) : applyB t (l.drop i) = t.extract 0 p.keep.toNat ++ p.put ++ applyB (t.extract (p.keep + p.drop).toNat t.size) (l.drop (i + 1)) := by rw [drop_at hp]; rfl
theorem wt_at {l : List Pc} {i : Nat} {p : Pc} (hp : l[i]? = some p) : wt (l.drop i) = p.keep + p.drop + p.put.size + wt (l.drop (i + 1)) := by rw [drop_at hp]; rfl
end Go.Proofs.Ytdnjkffmgmbfmaa.Sy
namespace Go.Proofs.Ytdnjkffmgmbfmaa.Sy
open Go.RowKit Go.Proofs.Ytdnjkffmgmbfmaa.Bw Go.Proofs.Ytdnjkffmgmbfmaa.Bs
end Go.Proofs.Ytdnjkffmgmbfmaa.Sy
namespace Go.Proofs.Ytdnjkffmgmbfmaa.Sy
open Go.RowKit Go.Proofs.Ytdnjkffmgmbfmaa.Bw Go.Proofs.Ytdnjkffmgmbfmaa.Bs
theorem rdPcs_ok {w : World} {b : Nat} : ∀ {l : List Pc} {off : Nat}, rdPcs w b off l → ∀ p ∈ l, okStr p.put
 | [], _, _ => fun _ hp => absurd hp List.not_mem_nil
 | _ :: _, _, ⟨_, _, _, h4, h5⟩ => fun p hp => (List.mem_cons.1 hp).elim (fun e => e ▸ h4) (rdPcs_ok h5 p)
theorem RdP.okp {w : World} {l : List Pc} {v : Value} (h : RdP w l v) : ∀ p ∈ l, okStr p.put := by
 obtain ⟨A, c, rfl, a1, a2, a3⟩ := h
 intro p hp
 obtain ⟨b, off, _, hr⟩ := a3 (List.length_pos_of_mem hp)
 exact rdPcs_ok hr p hp
end Go.Proofs.Ytdnjkffmgmbfmaa.Sy
namespace Go.Proofs.Ytdnjkffmgmbfmaa.Sy
open Go.RowKit Go.Proofs.Ytdnjkffmgmbfmaa.Bw Go.Proofs.Ytdnjkffmgmbfmaa.Bs
theorem rdPcs_of {w : World} {b : Nat} : ∀ {l : List Pc} {off : Nat}, (∀ p ∈ l, okStr p.put) → (∀ j u, (pcVals l)[j]? = some u → w.cell? ⟨b, off + j, none⟩ = some u) → rdPcs w b off l
 | [], _, _, _ => trivial
 | p :: r, off, hs, hc => by
  have he : pcVals (p :: r) = [.int .i64 p.keep, .int .i64 p.drop, .string p.put] ++ pcVals r := rfl
  rw [he] at hc
  refine ⟨hc 0 _ rfl, hc 1 _ rfl, hc 2 _ rfl, hs p (List.mem_cons_self ..), rdPcs_of (fun q hq => hs q (List.mem_cons_of_mem _ hq)) (fun j u hu => ?_)⟩
  have := hc (3 + j) u (by simpa [Nat.add_comm] using hu)
  rw [show off + 3 + j = off + (3 + j) by omega]
  exact this
theorem RdP.of_owned {W : World} {base e : Nat} {l : List Pc} {v : Value} (h : W.ownsRow base e 3 v l.length (pcVals l)) (hs : ∀ p ∈ l, okStr p.put) : RdP W l v := by
 obtain ⟨A, c, rfl, a0, a1, a2, a3⟩ := RdS.of_owns h
 refine ⟨A, c, rfl, a1, a2, fun h0 => ?_⟩
 obtain ⟨b, off, rfl, hr⟩ := a3 h0
 exact ⟨b, off, rfl, rdPcs_of hs hr⟩
/-- An operation whose parts memory can hold. -/
structure OkO (o : OpD) : Prop where
 label : okStr o.label
 key : okStr o.key
 value : okStr o.value
 pcs : ∀ p ∈ o.pcs, okStr p.put
 id : 0 ≤ o.id ∧ o.id ≤ 18446744073709551615
 kind : 0 ≤ o.kind ∧ o.kind ≤ 255
theorem OpD.rd_ok {w : World} {o : OpD} {v : Value} (h : o.rd w v) : OkO o := by
 obtain ⟨pv, tv, cv, rfl, h1, h2, h3, h4, h5, h6, h7, h8⟩ := h
 exact ⟨h4, h5, h6, h3.okp, h7, h8⟩
/-- A value that is an operation whose rows lie in new memory (of the piece's type tp). -/
def OpO (tp lo : Nat) (W : World) (o : OpD) (v : Value) : Prop := ∃ pA pc tA tc cA cc, v = .agg #[.int .u8 o.kind, .slice pA o.path.length pc, .int .i64 o.at_, .slice tA o.to.length tc, .int .u64 o.id, .bool o.leaf, .string o.label, .string o.key, .string o.value, .bool o.gone, .slice cA o.pcs.length cc] ∧
 W.ownsRow lo 3 1 (.slice pA o.path.length pc) o.path.length (o.path.map (Value.int .i64)) ∧ W.ownsRow lo 3 1 (.slice tA o.to.length tc) o.to.length (o.to.map (Value.int .i64)) ∧ W.ownsRow lo tp 3 (.slice cA o.pcs.length cc) o.pcs.length (pcVals o.pcs)
theorem OpO.rd {tp lo : Nat} {W : World} {o : OpD} {v : Value} (h : OpO tp lo W o v) (k : OkO o) : o.rd W v := by
 obtain ⟨pA, pc, tA, tc, cA, cc, rfl, h1, h2, h3⟩ := h
 exact ⟨_, _, _, rfl, RdS.of_owns h1, RdS.of_owns h2, RdP.of_owned h3 k.pcs, k.label, k.key, k.value, k.id, k.kind⟩
theorem OpO.ext {tp lo : Nat} {W W' : World} {o : OpD} {v : Value} (h : OpO tp lo W o v) (X : Ext W W') : OpO tp lo W' o v := by
 obtain ⟨pA, pc, tA, tc, cA, cc, rfl, h1, h2, h3⟩ := h
 exact ⟨_, _, _, _, _, _, rfl, owns_ext X h1, owns_ext X h2, owns_ext X h3⟩
theorem owns_low {W : World} {a b e sz n : Nat} {v : Value} {xs : List Value} (h : W.ownsRow a e sz v n xs) (hab : b ≤ a) : W.ownsRow b e sz v n xs := by
 refine ⟨h.1, h.2.imp id ?_⟩
 rintro ⟨g, cap, cur, h1, h2, h3⟩
 exact ⟨g, cap, cur, h1, Nat.le_trans hab h2, h3⟩
theorem OpO.low {tp lo lo' : Nat} {W : World} {o : OpD} {v : Value} (h : OpO tp lo W o v) (hl : lo' ≤ lo) : OpO tp lo' W o v := by
 obtain ⟨pA, pc, tA, tc, cA, cc, rfl, h1, h2, h3⟩ := h
 exact ⟨_, _, _, _, _, _, rfl, owns_low h1 hl, owns_low h2 hl, owns_low h3 hl⟩
/-- A change at blocks that hold neither numbers nor pieces. -/
theorem OpO.fr {tp lo t : Nat} {W W' : World} {o : OpD} {v : Value} {B : Nat} {cs : Array Value} (h : OpO tp lo W o v) (F : Fr W W' (fun k => k = B)) (hB : NBox W B t cs) (h3 : t ≠ 3) (ht : t ≠ tp) : OpO tp lo W' o v := by
 obtain ⟨pA, pc, tA, tc, cA, cc, rfl, k1, k2, k3⟩ := h
 exact ⟨_, _, _, _, _, _, rfl, owns_fr F k1 (fun g hg hk => hB.not_own k1 h3 (by rw [hg, show g = B from hk])), owns_fr F k2 (fun g hg hk => hB.not_own k2 h3 (by rw [hg, show g = B from hk])), owns_fr F k3 (fun g hg hk => hB.not_own k3 ht (by rw [hg, show g = B from hk]))⟩
/-- What one has in the middle of Bare: the operation's box, the answer's, the one that grows, the rows. -/
structure BSt (t tp : Nat) (w W : World) (X Y Z : Nat) (ov cs : Array Value) (p tq : List Int) (ps : List Pc) (pv tv cv : Value) : Prop where
 ext : Ext w W
 bx : NBox W X t ov
 byy : NBox W Y t #[.int .u8 0, .slice none 0 0, .int .i64 0, .slice none 0 0, .int .u64 0, .bool false, .string ⟨#[]⟩, .string ⟨#[]⟩, .string ⟨#[]⟩, .bool false, .slice none 0 0]
 bz : NBox W Z t cs
 lo : w.heap.size ≤ X ∧ w.heap.size ≤ Y ∧ w.heap.size ≤ Z ∧ X ≠ Z ∧ Y ≠ Z
 op : W.ownsRow w.heap.size 3 1 pv p.length (p.map (Value.int .i64))
 ot : W.ownsRow w.heap.size 3 1 tv tq.length (tq.map (Value.int .i64))
 oc : W.ownsRow w.heap.size tp 3 cv ps.length (pcVals ps)
theorem BSt.to {t tp : Nat} {w W : World} {X Y Z : Nat} {ov cs cs' : Array Value} {p tq : List Int} {ps : List Pc} {pv tv cv : Value} (h : BSt t tp w W X Y Z ov cs p tq ps pv tv cv) (e : cs = cs') : BSt t tp w W X Y Z ov cs' p tq ps pv tv cv := e ▸ h
end Go.Proofs.Ytdnjkffmgmbfmaa.Sy
