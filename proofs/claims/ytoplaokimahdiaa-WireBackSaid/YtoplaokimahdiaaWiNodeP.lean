/- Chapter 17: rows with an answer of their own at each place: attributes whose keys rise, children of whom there are enough. Nothing of the program is walked here. -/
import Derived.Test.YtoplaokimahdiaaWiBare
import Derived.Test.YtoplaokimahdiaaWiTree
namespace Go.Proofs.Ytoplaokimahdiaa.Wi
open Go.RowKit Go.Proofs.Ytoplaokimahdiaa.Bw Go.Proofs.Ytoplaokimahdiaa.Bs

theorem seqE_none {l : List (Option (List UInt8))} {i : Nat} (h : l[i]? = some none) : seqE l = none := by
  induction l generalizing i with
  | nil => simp at h
  | cons a r ih =>
    cases a with
    | none => rfl
    | some x =>
      cases i with
      | zero => simp at h
      | succ i =>
        rw [seqE_cons, ih (i := i) (by simpa using h)]; rfl
theorem rowL_map {α : Type} (l : List α) (f : α → Option (List UInt8)) (most : Nat) : rowL l.length (l.map f) most = rowE l most f := rfl

/-! ### Attributes -/
def afterK : Option ByteArray → ByteArray → Bool
  | none, _ => true
  | some p, k => Op.bytesLess p.toList k.toList
def attrsL : Option ByteArray → List (ByteArray × ByteArray) → List (Option (List UInt8))
  | _, [] => []
  | p, a :: r => (if afterK p a.1 then attrE a else none) :: attrsL (some a.1) r
def prevK (p : Option ByteArray) (l : List (ByteArray × ByteArray)) : Nat → Option ByteArray
  | 0 => p
  | i + 1 => (l[i]?).map Prod.fst
theorem attrsL_len : ∀ (l : List (ByteArray × ByteArray)) (p : Option ByteArray), (attrsL p l).length = l.length
  | [], _ => rfl
  | a :: r, p => by rw [attrsL, List.length_cons, List.length_cons, attrsL_len r]
theorem attrsL_get : ∀ (l : List (ByteArray × ByteArray)) (p : Option ByteArray) (i : Nat) (x : ByteArray × ByteArray) (r : Option (List UInt8)), l[i]? = some x → (attrsL p l)[i]? = some r → r = if afterK (prevK p l i) x.1 then attrE x else none
  | [], _, _, _, _, h, _ => by simp at h
  | a :: l, p, 0, x, r, h, k => by
    simp at h
    subst h
    simp only [attrsL, List.getElem?_cons_zero, Option.some.injEq] at k
    exact k.symm
  | a :: l, p, i + 1, x, r, h, k => by
    simp only [attrsL, List.getElem?_cons_succ] at k
    have := attrsL_get l (some a.1) i x r (by simpa using h) k
    rw [this]
    cases i with
    | zero => rfl
    | succ i => rfl
def firstOk (p : Option ByteArray) : List (ByteArray × ByteArray) → Bool
  | [] => true
  | a :: _ => afterK p a.1
theorem firstOk_none (l : List (ByteArray × ByteArray)) : firstOk none l = true := by cases l <;> rfl
theorem attrsL_up : ∀ (l : List (ByteArray × ByteArray)) (p : Option ByteArray), seqE (attrsL p l) = if firstOk p l && keysUp l then seqE (l.map attrE) else none
  | [], p => rfl
  | [a], p => by
    by_cases h : afterK p a.1 = true
    · rw [attrsL, if_pos h, firstOk, h]; rfl
    · rw [attrsL, if_neg h, firstOk, Bool.eq_false_iff.2 h]; rfl
  | a :: b :: r, p => by
    have ih := attrsL_up (b :: r) (some a.1)
    rw [attrsL, keysUp, firstOk]
    rw [firstOk, afterK] at ih
    by_cases h : afterK p a.1 = true
    · rw [if_pos h, h, Bool.true_and, List.map_cons]
      cases ha : attrE a with
      | none =>
        show none = if _ then none else none
        split <;> rfl
      | some x =>
        rw [seqE_cons, ih, seqE_cons]
        cases Op.bytesLess a.1.toList b.1.toList && keysUp (b :: r) <;> rfl
    · rw [if_neg h, Bool.eq_false_iff.2 h]; rfl
theorem attrsL_row (l : List (ByteArray × ByteArray)) : rowL l.length (attrsL none l) 2048 = if keysUp l then rowE l 2048 attrE else none := by
  unfold rowL rowE
  by_cases h : l.length ≤ 2048
  · rw [if_pos h, if_pos h, seqE_cons, seqE_cons, attrsL_up, firstOk_none, Bool.true_and]
    cases keysUp l <;> rfl
  · rw [if_neg h, if_neg h]; split <;> rfl

/-! ### Children -/
/-- A tree of at most c nodes. -/
def nodeC (c : Int) (d : Nat) (t : Nd) : Option (List UInt8) := if (t.cnt : Int) ≤ c then nodeE d t else none
def kidsL (d : Nat) : Int → List Nd → List (Option (List UInt8))
  | _, [] => []
  | c, k :: r => nodeC c d k :: kidsL d (c - k.cnt) r
theorem kidsL_len (d : Nat) : ∀ (l : List Nd) (c : Int), (kidsL d c l).length = l.length
  | [], _ => rfl
  | a :: r, p => by rw [kidsL, List.length_cons, List.length_cons, kidsL_len d r]
theorem kidsL_get (d : Nat) : ∀ (l : List Nd) (c : Int) (i : Nat) (x : Nd) (r : Option (List UInt8)), l[i]? = some x → (kidsL d c l)[i]? = some r → r = nodeC (c - cntK (l.take i)) d x
  | [], _, _, _, _, h, _ => by simp at h
  | a :: l, c, 0, x, r, h, k => by
    simp at h
    subst h
    simp only [kidsL, List.getElem?_cons_zero, Option.some.injEq] at k
    rw [← k, List.take_zero, cntK]; simp
  | a :: l, c, i + 1, x, r, h, k => by
    simp only [kidsL, List.getElem?_cons_succ] at k
    have := kidsL_get d l (c - a.cnt) i x r (by simpa using h) k
    rw [this, List.take_succ_cons, cntK]
    congr 1
    omega
theorem cntK_take_succ : ∀ (l : List Nd) (i : Nat) (x : Nd), l[i]? = some x → cntK (l.take (i + 1)) = cntK (l.take i) + x.cnt
  | [], _, _, h => by simp at h
  | a :: l, 0, x, h => by
    simp at h
    subst h
    simp [cntK]
  | a :: l, i + 1, x, h => by
    rw [List.take_succ_cons, List.take_succ_cons, cntK, cntK, cntK_take_succ l i x (by simpa using h)]; omega
theorem kidsL_seq (d : Nat) : ∀ (l : List Nd) (c : Int), 0 ≤ c → seqE (kidsL d c l) = if (cntK l : Int) ≤ c then kidsE d l else none
  | [], c, h => by unfold kidsE; rw [cntK, kidsL, if_pos (by simpa using h)]; rfl
  | k :: r, c, h => by
    unfold kidsE
    rw [kidsL, nodeC, cntK]
    by_cases h1 : (k.cnt : Int) ≤ c
    · rw [if_pos h1]
      have ih := kidsL_seq d r (c - k.cnt) (by omega)
      cases hk : nodeE d k with
      | none => simp [seqE]
      | some b =>
        rw [seqE_cons, ih, seqE_cons]
        by_cases h2 : (cntK r : Int) ≤ c - k.cnt
        · rw [if_pos h2, if_pos (by omega)]
          cases kidsE d r <;> simp [seqE]
        · rw [if_neg h2, if_neg (by omega)]; rfl
    · rw [if_neg h1, if_neg (by omega)]; rfl
theorem kidsL_row (d : Nat) (l : List Nd) (c : Int) (h : 0 ≤ c) : rowL l.length (kidsL d c l) 512 = if (cntK l : Int) ≤ c then (if l.length ≤ 512 then (kidsE d l).map (num l.length ++ ·) else none) else none := by
  unfold rowL
  by_cases h1 : l.length ≤ 512
  · rw [if_pos h1, if_pos h1, seqE_cons, kidsL_seq d l c h]
    split <;> rfl
  · rw [if_neg h1, if_neg h1]; split <;> rfl
/-- What a call at a node puts, part by part. -/
theorem nodeC_eq (c : Int) (d : Nat) (id : Int) (leaf : Bool) (lb : ByteArray) (ats : List (ByteArray × ByteArray)) (tx : ByteArray) (ks : List Nd) (hc : 1 ≤ c) (h1 : d ≤ 64) (h2 : leaf = true → ks.length = 0) (h3 : leaf = false → tx.size = 0) :
    nodeC c d (.mk id leaf lb ats tx ks) = seqE [some (num id.toNat), some (flagE leaf), textE lb 64, rowL ats.length (attrsL none ats) 2048, if leaf then textE tx 2048 else rowL ks.length (kidsL (d + 1) (c - 1) ks) 512] := by
  unfold nodeC nodeE
  rw [attrsL_row, kidsL_row _ _ _ (by omega), Nd.cnt]
  cases hk : keysUp ats with
  | false =>
    rw [if_neg (show ¬ (d ≤ 64 ∧ (leaf = true → ks.length = 0) ∧ (leaf = false → tx.size = 0) ∧ false = true) from fun h => by cases h.2.2.2)]
    rw [seqE_none (i := 3) (by rfl)]
    split <;> rfl
  | true =>
    rw [if_pos (show d ≤ 64 ∧ (leaf = true → ks.length = 0) ∧ (leaf = false → tx.size = 0) ∧ true = true from ⟨h1, h2, h3, rfl⟩)]
    cases leaf with
    | true =>
      have : ks = [] := List.length_eq_zero_iff.1 (h2 rfl)
      subst this
      rw [cntK, if_pos (by omega)]
      rfl
    | false =>
      by_cases h4 : (cntK ks : Int) ≤ c - 1
      · rw [if_pos h4, if_pos (by omega)]; rfl
      · rw [if_neg h4, if_neg (by omega)]
        exact (seqE_none (i := 4) (by rfl)).symm
theorem nodeC_no (c : Int) (d : Nat) (id : Int) (leaf : Bool) (lb : ByteArray) (ats : List (ByteArray × ByteArray)) (tx : ByteArray) (ks : List Nd) (h : ¬ (1 ≤ c ∧ d ≤ 64 ∧ (leaf = true → ks.length = 0) ∧ (leaf = false → tx.size = 0))) :
    nodeC c d (.mk id leaf lb ats tx ks) = none := by
  unfold nodeC nodeE
  rw [Nd.cnt]
  by_cases h1 : ((1 + cntK ks : Nat) : Int) ≤ c
  · rw [if_pos h1, if_neg]
    intro hh
    exact h ⟨by omega, hh.1, hh.2.1, hh.2.2.1⟩
  · rw [if_neg h1]
theorem nodeC_tree (t : Nd) : nodeC 512 0 t = treeE t := by
  unfold nodeC treeE
  by_cases h : t.cnt ≤ 512
  · rw [if_pos h, if_pos (by omega)]
  · rw [if_neg h, if_neg (by omega)]

/-! ### How long -/
theorem attrE_len {a : ByteArray × ByteArray} {b : List UInt8} (h : attrE a = some b) : b.length ≤ 340 := by
  obtain ⟨a1, a2, e1, e2, rfl⟩ := seqE_two h
  have := textE_len (by decide) e1
  have := textE_len (by decide) e2
  rw [List.length_append]
  omega
theorem attrs_len {l : List (ByteArray × ByteArray)} {b : List UInt8} (h : rowE l 2048 attrE = some b) : b.length ≤ 696330 := rowE_len (M := 340) (fun _ _ hb => attrE_len hb) (by decide) h
theorem pcs_len {l : List Pc} {b : List UInt8} (h : rowE l 4096 pieceE = some b) : b.length ≤ 4295090186 := rowE_len (M := 1048606) (fun _ _ hb => pieceE_len hb) (by decide) h
theorem restE_len {o : OpD} {b : List UInt8} (hi : o.id ≤ 18446744073709551615) (h : seqE (restE o) = some b) : b.length ≤ 4295090186 := by
  unfold restE at h
  split at h
  · obtain ⟨a1, a2, p1, p2, rfl⟩ := seqE_cons_some h
    obtain ⟨a3, a4, p3, p4, rfl⟩ := seqE_cons_some p2
    obtain ⟨a5, a6, p5, p6, rfl⟩ := seqE_two p4
    cases p3; cases p5
    have := smallE_len (by decide) p1
    have := textE_len (by decide) p6
    have := num_len (n := o.id.toNat) (by omega)
    have n4 : (flagE o.leaf).length = 1 := rfl
    simp only [List.length_append]
    omega
  split at h
  · obtain ⟨a1, a2, p1, p2, rfl⟩ := seqE_two h
    have := pathE_len p1
    have := smallE_len (by decide) p2
    simp only [List.length_append]
    omega
  split at h
  · obtain ⟨a1, a2, p1, p2, rfl⟩ := seqE_cons_some h
    obtain ⟨a3, a4, p3, p4, rfl⟩ := seqE_cons_some p2
    obtain ⟨a5, a6, p5, p6, rfl⟩ := seqE_two p4
    cases p5
    have := textE_len (by decide) p3
    have := textE_len (by decide) p6
    have n4 : (flagE o.gone).length = 1 := rfl
    have : a1.length = 0 := by
      split at p1
      · cases p1; rfl
      · cases p1
    simp only [List.length_append]
    omega
  split at h
  · obtain ⟨a1, a2, p1, p2, rfl⟩ := seqE_cons_some h
    cases p2
    have := textE_len (by decide) p1
    simp only [List.length_append, List.length_nil]
    omega
  split at h
  · obtain ⟨a1, a2, p1, p2, rfl⟩ := seqE_cons_some h
    cases p2
    have := pcs_len p1
    simp only [List.length_append, List.length_nil]
    omega
  · cases h; simp
theorem opE_len {o : OpD} {b : List UInt8} (hi : o.id ≤ 18446744073709551615) (h : opE o = some b) : b.length ≤ 4295100000 := by
  unfold opE at h
  split at h
  next =>
    obtain ⟨a1, a2, p1, p2, rfl⟩ := seqE_cons_some h
    obtain ⟨a3, a4, p3, p4, rfl⟩ := seqE_cons_some p2
    cases p1
    have := pathE_len p3
    have := restE_len hi p4
    simp only [List.length_append, List.length_cons, List.length_nil]
    omega
  next => cases h
mutual
/-- Identities fit in 64 bits. -/
def idLt : Nd → Prop
  | .mk id _ _ _ _ ks => id ≤ 18446744073709551615 ∧ kidsIdLt ks
def kidsIdLt : List Nd → Prop
  | [] => True
  | k :: r => idLt k ∧ kidsIdLt r
end
mutual
theorem rd_idLt {w : World} : ∀ {t : Nd} {v : Value}, t.rd w v → idLt t
  | .mk _ _ _ _ _ ks, _, hr => by
    unfold Nd.rd at hr
    obtain ⟨av, A, c, rfl, h1, h2, h3, h4, h5, h6, h7⟩ := hr
    unfold idLt
    refine ⟨h1.2, ?_⟩
    cases ks with
    | nil => unfold kidsIdLt; trivial
    | cons k r =>
      obtain ⟨b, off, rfl, h8⟩ := h7 (by simp)
      exact rdKids_idLt h8
theorem rdKids_idLt {w : World} {b : Nat} : ∀ {off : Nat} {l : List Nd}, rdKids w b off l → kidsIdLt l
  | _, [], _ => by unfold kidsIdLt; trivial
  | _, k :: r, hr => by
    unfold rdKids at hr
    unfold kidsIdLt
    obtain ⟨⟨c0, c1, c2, c3, c4, c5, h0, h1, h2, h3, h4, h5, h6⟩, h7⟩ := hr
    exact ⟨rd_idLt h6, rdKids_idLt h7⟩
end
mutual
theorem nodeE_len : ∀ (t : Nd) (d : Nat) (b : List UInt8), idLt t → nodeE d t = some b → b.length ≤ 710000 * t.cnt
  | .mk id leaf lb ats tx ks, d, b, hi, h => by
    unfold nodeE at h
    unfold idLt at hi
    split at h
    next hc =>
      obtain ⟨a1, a2, p1, p2, rfl⟩ := seqE_cons_some h
      obtain ⟨a3, a4, p3, p4, rfl⟩ := seqE_cons_some p2
      obtain ⟨a5, a6, p5, p6, rfl⟩ := seqE_cons_some p4
      obtain ⟨a7, a8, p7, p8, rfl⟩ := seqE_two p6
      cases p1; cases p3
      have n1 := num_len (n := id.toNat) (by have := hi.1; omega)
      have n2 := textE_len (by decide) p5
      have n3 := attrs_len p7
      have n4 : (flagE leaf).length = 1 := rfl
      rw [Nd.cnt]
      simp only [List.length_append]
      cases leaf with
      | true =>
        have := textE_len (by decide) p8
        omega
      | false =>
        simp only [Bool.false_eq_true, if_false] at p8
        split at p8
        next hl =>
          obtain ⟨u, hu, rfl⟩ := Option.map_eq_some_iff.1 p8
          have := kidsE_len ks _ _ hi.2 hu
          have := num_len (n := ks.length) (by omega)
          rw [List.length_append]
          omega
        next => cases p8
    next => cases h
theorem kidsE_len : ∀ (l : List Nd) (d : Nat) (b : List UInt8), kidsIdLt l → kidsE d l = some b → b.length ≤ 710000 * cntK l
  | [], d, b, _, h => by unfold kidsE at h; cases h; simp
  | k :: r, d, b, hi, h => by
    unfold kidsE at h
    unfold kidsIdLt at hi
    obtain ⟨a1, a2, e1, e2, rfl⟩ := seqE_two h
    have := nodeE_len k d a1 hi.1 e1
    have := kidsE_len r d a2 hi.2 e2
    rw [List.length_append, cntK]
    omega
end
end Go.Proofs.Ytoplaokimahdiaa.Wi
