/- Chapter 17: a tree's bytes; nothing that is put begins another one. -/
import Derived.Test.YtofcbclokkjfjaaWiUd
import Derived.Test.YtofcbclokkjfjaaBwWeighPlain
namespace Go.Proofs.Ytofcbclokkjfjaa.Wi
open Go.RowKit Go.Proofs.Ytofcbclokkjfjaa.Bw

def attrE (a : ByteArray × ByteArray) : Option (List UInt8) := seqE [textE a.1 64, textE a.2 256]
/-- Are the keys rising? -/
def keysUp : List (ByteArray × ByteArray) → Bool
  | [] => true
  | [_] => true
  | a :: b :: r => Op.bytesLess a.1.toList b.1.toList && keysUp (b :: r)
mutual
def nodeE (deep : Nat) : Nd → Option (List UInt8)
  | .mk id leaf lb ats tx ks =>
    if deep ≤ 64 ∧ (leaf = true → ks.length = 0) ∧ (leaf = false → tx.size = 0) ∧ keysUp ats = true then
      seqE [some (num id.toNat), some (flagE leaf), textE lb 64, rowE ats 2048 attrE, if leaf then textE tx 2048 else if ks.length ≤ 512 then (kidsE (deep + 1) ks).map (num ks.length ++ ·) else none]
    else none
def kidsE (deep : Nat) : List Nd → Option (List UInt8)
  | [] => some []
  | k :: r => seqE [nodeE deep k, kidsE deep r]
end
mutual
/-- No identity is less than nothing. -/
def idsOk : Nd → Prop
  | .mk id _ _ _ _ ks => 0 ≤ id ∧ kidsOk ks
def kidsOk : List Nd → Prop
  | [] => True
  | k :: r => idsOk k ∧ kidsOk r
end
mutual
theorem Nd.rd_ids {w : World} : ∀ {t : Nd} {v : Value}, t.rd w v → idsOk t
  | .mk _ _ _ _ _ ks, _, hr => by
    unfold Nd.rd at hr
    obtain ⟨av, A, c, rfl, h1, h2, h3, h4, h5, h6, h7⟩ := hr
    unfold idsOk
    refine ⟨h1.1, ?_⟩
    cases ks with
    | nil => unfold kidsOk; trivial
    | cons k r =>
      obtain ⟨b, off, rfl, h8⟩ := h7 (by simp)
      exact rdKids_ids h8
theorem rdKids_ids {w : World} {b : Nat} : ∀ {off : Nat} {l : List Nd}, rdKids w b off l → kidsOk l
  | _, [], _ => by unfold kidsOk; trivial
  | _, k :: r, hr => by
    unfold rdKids at hr
    unfold kidsOk
    obtain ⟨⟨c0, c1, c2, c3, c4, c5, h0, h1, h2, h3, h4, h5, h6⟩, h7⟩ := hr
    exact ⟨Nd.rd_ids h6, rdKids_ids h7⟩
end
theorem attr_ud : UD attrE := by
  intro x y l m r s hx hy h
  obtain ⟨a1, a2, e1, e2, rfl⟩ := seqE_two hx
  obtain ⟨b1, b2, g1, g2, rfl⟩ := seqE_two hy
  simp only [List.append_assoc] at h
  replace h := text_ud 64 _ _ _ _ _ _ e1 g1 h
  obtain ⟨h1, h⟩ := h
  replace h := text_ud 256 _ _ _ _ _ _ e2 g2 h
  obtain ⟨h2, h⟩ := h
  exact ⟨Prod.ext h1 h2, h⟩
mutual
theorem node_ud : ∀ (x y : Nd) (d e : Nat) (l m r s : List UInt8), idsOk x → idsOk y → nodeE d x = some l → nodeE e y = some m → l ++ r = m ++ s → x = y ∧ r = s
  | .mk i1 f1 lb1 at1 tx1 ks1, .mk i2 f2 lb2 at2 tx2 ks2, d, e, l, m, r, s, ox, oy, hx, hy, h => by
    unfold nodeE at hx hy
    unfold idsOk at ox oy
    split at hx
    next cx =>
      split at hy
      next cy =>
        obtain ⟨a1, a2, p1, p2, rfl⟩ := seqE_cons_some hx
        obtain ⟨a3, a4, p3, p4, rfl⟩ := seqE_cons_some p2
        obtain ⟨a5, a6, p5, p6, rfl⟩ := seqE_cons_some p4
        obtain ⟨a7, a8, p7, p8, rfl⟩ := seqE_two p6
        obtain ⟨b1, b2, q1, q2, rfl⟩ := seqE_cons_some hy
        obtain ⟨b3, b4, q3, q4, rfl⟩ := seqE_cons_some q2
        obtain ⟨b5, b6, q5, q6, rfl⟩ := seqE_cons_some q4
        obtain ⟨b7, b8, q7, q8, rfl⟩ := seqE_two q6
        cases p1; cases p3; cases q1; cases q3
        simp only [List.append_assoc] at h
        replace h := num_ud' h
        obtain ⟨h1, h⟩ := h
        obtain rfl := id_inj ox.1 oy.1 h1
        replace h := flag_ud h
        obtain ⟨rfl, h⟩ := h
        replace h := text_ud 64 _ _ _ _ _ _ p5 q5 h
        obtain ⟨rfl, h⟩ := h
        replace h := row_ud attr_ud 2048 _ _ _ _ _ _ p7 q7 h
        obtain ⟨rfl, h⟩ := h
        cases f1 with
        | true =>
          replace h := text_ud 2048 _ _ _ _ _ _ p8 q8 h
          obtain ⟨rfl, h⟩ := h
          obtain rfl := List.length_eq_zero_iff.1 (cx.2.1 rfl)
          obtain rfl := List.length_eq_zero_iff.1 (cy.2.1 rfl)
          exact ⟨rfl, h⟩
        | false =>
          obtain rfl := size_zero (cx.2.2.1 rfl)
          obtain rfl := size_zero (cy.2.2.1 rfl)
          simp only [Bool.false_eq_true, if_false] at p8 q8
          split at p8
          next =>
            split at q8
            next =>
              obtain ⟨u1, g1, rfl⟩ := Option.map_eq_some_iff.1 p8
              obtain ⟨u2, g2, rfl⟩ := Option.map_eq_some_iff.1 q8
              simp only [List.append_assoc] at h
              replace h := num_ud' h
              obtain ⟨h1, h⟩ := h
              replace h := kids_ud ks1 ks2 _ _ _ _ _ _ ox.2 oy.2 h1 g1 g2 h
              obtain ⟨rfl, h⟩ := h
              exact ⟨rfl, h⟩
            next => cases q8
          next => cases p8
      next => cases hy
    next => cases hx
theorem kids_ud : ∀ (x y : List Nd) (d e : Nat) (l m r s : List UInt8), kidsOk x → kidsOk y → x.length = y.length → kidsE d x = some l → kidsE e y = some m → l ++ r = m ++ s → x = y ∧ r = s
  | [], [], d, e, l, m, r, s, _, _, _, hx, hy, h => by
    unfold kidsE at hx hy
    cases hx; cases hy
    exact ⟨rfl, h⟩
  | [], _ :: _, _, _, _, _, _, _, _, _, hl, _, _, _ => by simp at hl
  | _ :: _, [], _, _, _, _, _, _, _, _, hl, _, _, _ => by simp at hl
  | x :: xs, y :: ys, d, e, l, m, r, s, ox, oy, hl, hx, hy, h => by
    unfold kidsE at hx hy
    unfold kidsOk at ox oy
    obtain ⟨a1, a2, p1, p2, rfl⟩ := seqE_two hx
    obtain ⟨b1, b2, q1, q2, rfl⟩ := seqE_two hy
    simp only [List.append_assoc] at h
    replace h := node_ud x y d e a1 b1 _ _ ox.1 oy.1 p1 q1 h
    obtain ⟨rfl, h⟩ := h
    replace h := kids_ud xs ys d e a2 b2 r s ox.2 oy.2 (by simpa using hl) p2 q2 h
    obtain ⟨rfl, h⟩ := h
    exact ⟨rfl, h⟩
end
/-- A tree's bytes: none, if it may not be put. -/
def treeE (t : Nd) : Option (List UInt8) := if t.cnt ≤ 512 then nodeE 0 t else none
end Go.Proofs.Ytofcbclokkjfjaa.Wi
