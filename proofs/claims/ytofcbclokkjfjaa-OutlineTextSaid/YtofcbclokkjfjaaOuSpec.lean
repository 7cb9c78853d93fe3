/- Plain functions on trees: what the program's functions on them compute. -/
import Derived.Test.YtofcbclokkjfjaaOuRange
namespace Go.Proofs.Ytofcbclokkjfjaa.Bw
open Go.RowKit

/-! ### Depth -/
mutual
def Nd.dep : Nd → Nat
  | .mk _ _ _ _ _ ks => depK ks
def depK : List Nd → Nat
  | [] => 0
  | k :: r => max (1 + k.dep) (depK r)
end
theorem Nd.dep_eq (t : Nd) : t.dep = depK t.kids := by cases t; rw [Nd.dep]; rfl
def maxD : List (Int × Nd) → Int
  | [] => 0
  | x :: r => max x.1 (maxD r)
theorem maxD_nn : ∀ l, 0 ≤ maxD l
  | [] => by simp [maxD]
  | x :: r => by have := maxD_nn r; simp only [maxD]; omega
theorem maxD_append : ∀ a b, maxD (a ++ b) = max (maxD a) (maxD b)
  | [], b => by have := maxD_nn b; simp only [List.nil_append, maxD]; omega
  | x :: r, b => by simp only [List.cons_append, maxD, maxD_append r b]; omega
mutual
theorem Nd.maxD_pre : ∀ (t : Nd) (d : Int), 0 ≤ d → maxD (t.pre d) = d + t.dep
  | .mk _ _ _ _ _ ks, d, h => by
    rw [Nd.pre, maxD, Nd.dep]
    have := preK_maxD ks (d + 1) (by omega)
    cases ks with
    | nil => rw [preK, depK, maxD]; dsimp only; omega
    | cons k r => have := this.2 (by simp); dsimp only; omega
theorem preK_maxD : ∀ (l : List Nd) (d : Int), 1 ≤ d → (l = [] → maxD (preK l d) = 0) ∧ (l ≠ [] → maxD (preK l d) = d - 1 + depK l)
  | [], d, _ => ⟨fun _ => by rw [preK, maxD], fun h => absurd rfl h⟩
  | k :: r, d, h => by
    refine ⟨(fun h => by cases h), fun _ => ?_⟩
    rw [preK, maxD_append, Nd.maxD_pre k d (by omega), depK]
    have h1 := preK_maxD r d h
    cases r with
    | nil => rw [h1.1 rfl, depK]; omega
    | cons x s => rw [h1.2 (by simp)]; omega
end
theorem maxD_le_mem : ∀ {l : List (Int × Nd)} {x : Int × Nd}, x ∈ l → x.1 ≤ maxD l
  | y :: r, x, h => by
    rw [maxD]
    rcases List.mem_cons.1 h with rfl | h
    · omega
    · have := maxD_le_mem h; omega

/-! ### The most text -/
def lenA : List (ByteArray × ByteArray) → Nat
  | [] => 0
  | (k, v) :: r => k.size + v.size + lenA r
def Nd.own (t : Nd) : Nat := t.text.size + lenA t.attrs
mutual
def Nd.lng : Nd → Nat
  | .mk _ _ _ ats tx ks => max (tx.size + lenA ats) (lngK ks)
def lngK : List Nd → Nat
  | [] => 0
  | k :: r => max k.lng (lngK r)
end
theorem Nd.lng_eq (t : Nd) : t.lng = max t.own (lngK t.kids) := by cases t; rw [Nd.lng]; rfl
def maxL : List (Int × Nd) → Nat
  | [] => 0
  | x :: r => max x.2.own (maxL r)
theorem maxL_append : ∀ a b, maxL (a ++ b) = max (maxL a) (maxL b)
  | [], b => by simp [maxL]
  | x :: r, b => by simp only [List.cons_append, maxL, maxL_append r b]; omega
mutual
theorem Nd.maxL_pre : ∀ (t : Nd) (d : Int), maxL (t.pre d) = t.lng
  | .mk _ _ _ _ _ ks, d => by rw [Nd.pre, maxL, preK_maxL ks (d + 1), Nd.lng]; rfl
theorem preK_maxL : ∀ (l : List Nd) (d : Int), maxL (preK l d) = lngK l
  | [], d => by rw [preK, maxL, lngK]
  | k :: r, d => by rw [preK, maxL_append, Nd.maxL_pre k d, preK_maxL r d, lngK]
end

theorem lenA_wt : ∀ l, lenA l ≤ wtA l
  | [] => Nat.le_refl _
  | (k, v) :: r => by have := lenA_wt r; simp only [lenA, wtA]; omega
theorem Nd.own_wt (t : Nd) : t.own ≤ t.wt := by have := lenA_wt t.attrs; rw [Nd.wt_eq, Nd.own]; omega
mutual
theorem Nd.lng_wt : ∀ t : Nd, t.lng ≤ t.wt
  | .mk _ _ _ ats _ ks => by have := lngK_wt ks; have := lenA_wt ats; rw [Nd.lng, Nd.wt]; omega
theorem lngK_wt : ∀ l : List Nd, lngK l ≤ wtK l
  | [] => by rw [lngK, wtK]; exact Nat.le_refl _
  | k :: r => by have := Nd.lng_wt k; have := lngK_wt r; rw [lngK, wtK]; omega
end
mutual
theorem Nd.dep_cnt : ∀ t : Nd, t.dep < t.cnt
  | .mk _ _ _ _ _ ks => by have := depK_cnt ks; rw [Nd.dep, Nd.cnt]; omega
theorem depK_cnt : ∀ l : List Nd, depK l ≤ cntK l
  | [] => by rw [depK, cntK]; exact Nat.le_refl _
  | k :: r => by have := Nd.dep_cnt k; have := depK_cnt r; rw [depK, cntK]; omega
end

/-! ### Identities -/
mutual
def Nd.ids : Nd → List Int
  | .mk i _ _ _ _ ks => i :: idsK ks
def idsK : List Nd → List Int
  | [] => []
  | k :: r => k.ids ++ idsK r
end
theorem Nd.ids_eq (t : Nd) : t.ids = t.id :: idsK t.kids := by cases t; rw [Nd.ids]; rfl
mutual
theorem Nd.ids_pre : ∀ (t : Nd) (d : Int), (t.pre d).map (fun x => x.2.id) = t.ids
  | .mk _ _ _ _ _ ks, d => by rw [Nd.pre, List.map_cons, preK_ids ks (d + 1), Nd.ids]; rfl
theorem preK_ids : ∀ (l : List Nd) (d : Int), (preK l d).map (fun x => x.2.id) = idsK l
  | [], d => by rw [preK, idsK]; rfl
  | k :: r, d => by rw [preK, List.map_append, Nd.ids_pre k d, preK_ids r d, idsK]
end
theorem Nd.ids_len (t : Nd) : t.ids.length = t.cnt := by rw [← Nd.ids_pre t 0, List.length_map, Nd.pre_len]

/-! ### Right trees -/
def keyOk (s : ByteArray) : Bool := decide (1 ≤ s.size ∧ s.size ≤ 64)
def strLe (a b : ByteArray) : Bool := Op.bytesLess a.toList b.toList || a.toList == b.toList
def attrsOk : Option ByteArray → List (ByteArray × ByteArray) → Bool
  | _, [] => true
  | p, (k, v) :: r => keyOk k && decide (v.size ≤ 256) && (match p with | none => true | some q => !strLe k q) && attrsOk (some k) r
def Nd.shape (t : Nd) : Bool := decide (t.label.size ≤ 64) && !(t.leaf && decide (0 < t.kids.length)) && !(!t.leaf && decide (0 < t.text.size))
def Nd.right1 (t : Nd) : Bool := t.shape && attrsOk none t.attrs
mutual
def Nd.rightAll : Nd → Bool
  | .mk i lf lb ats tx ks => (Nd.mk i lf lb ats tx ks).right1 && rightK ks
def rightK : List Nd → Bool
  | [] => true
  | k :: r => k.rightAll && rightK r
end
theorem Nd.rightAll_eq (t : Nd) : t.rightAll = (t.right1 && rightK t.kids) := by cases t; rw [Nd.rightAll]; rfl
mutual
theorem Nd.right_pre : ∀ (t : Nd) (d : Int), (t.pre d).all (fun x => x.2.right1) = t.rightAll
  | .mk _ _ _ _ _ ks, d => by rw [Nd.pre, List.all_cons, preK_right ks (d + 1), Nd.rightAll]
theorem preK_right : ∀ (l : List Nd) (d : Int), (preK l d).all (fun x => x.2.right1) = rightK l
  | [], d => by rw [preK, rightK]; rfl
  | k :: r, d => by rw [preK, List.all_append, Nd.right_pre k d, preK_right r d, rightK]
end
def Nd.right (t : Nd) : Bool := !t.leaf && t.rightAll

/-! ### Same trees -/
def sameA (a b : List (ByteArray × ByteArray)) : Bool := decide (a = b)
mutual
def Nd.same (i : Bool) : Nd → Nd → Bool
  | .mk id lf lb ats tx ks, b => (!i || decide (id = b.id)) && decide (lf = b.leaf) && decide (lb = b.label) && decide (tx = b.text) && sameA ats b.attrs && sameK i ks b.kids
def sameK (i : Bool) : List Nd → List Nd → Bool
  | [], [] => true
  | x :: r, y :: s => x.same i y && sameK i r s
  | _, _ => false
end
theorem Nd.same_eq (i : Bool) (a b : Nd) : a.same i b = ((!i || decide (a.id = b.id)) && decide (a.leaf = b.leaf) && decide (a.label = b.label) && decide (a.text = b.text) && sameA a.attrs b.attrs && sameK i a.kids b.kids) := by
  cases a; rw [Nd.same]; rfl
mutual
theorem Nd.same_refl (i : Bool) : ∀ a : Nd, a.same i a = true
  | .mk _ _ _ _ _ ks => by rw [Nd.same_eq]; simp [Nd.kids, sameK_refl i ks, sameA]
theorem sameK_refl (i : Bool) : ∀ l : List Nd, sameK i l l = true
  | [] => by rw [sameK]
  | k :: r => by rw [sameK, Nd.same_refl i k, sameK_refl i r]; rfl
end
mutual
theorem Nd.same_true : ∀ (a b : Nd), a.same true b = true → a = b
  | .mk i1 l1 b1 a1 t1 k1, .mk i2 l2 b2 a2 t2 k2, h => by
    rw [Nd.same_eq] at h
    simp [Nd.id, Nd.leaf, Nd.label, Nd.text, Nd.attrs, Nd.kids, sameA] at h
    obtain ⟨⟨⟨⟨⟨h0, h1⟩, h2⟩, h3⟩, h4⟩, hk⟩ := h
    obtain rfl := of_decide_eq_true h0
    obtain rfl := of_decide_eq_true h1
    obtain rfl := of_decide_eq_true h2
    obtain rfl := of_decide_eq_true h3
    obtain rfl := of_decide_eq_true h4
    rw [sameK_true k1 k2 hk]
theorem sameK_true : ∀ (a b : List Nd), sameK true a b = true → a = b
  | [], [], _ => rfl
  | [], _ :: _, h => by simp [sameK] at h
  | _ :: _, [], h => by simp [sameK] at h
  | x :: r, y :: s, h => by
    rw [sameK, Bool.and_eq_true] at h
    rw [Nd.same_true x y h.1, sameK_true r s h.2]
end
theorem Nd.same_iff (a b : Nd) : a.same true b = true ↔ a = b := ⟨Nd.same_true a b, fun h => by rw [h]; exact Nd.same_refl _ _⟩
mutual
theorem Nd.same_weaken : ∀ (a b : Nd), a.same true b = true → a.same false b = true := fun a b h => by rw [Nd.same_true a b h]; exact Nd.same_refl _ _
end
theorem sameK_len (i : Bool) : ∀ (a b : List Nd), a.length ≠ b.length → sameK i a b = false
  | [], [], h => absurd rfl h
  | [], _ :: _, _ => by simp [sameK]
  | _ :: _, [], _ => by simp [sameK]
  | x :: r, y :: s, h => by rw [sameK, sameK_len i r s (by simpa using h), Bool.and_false]

/-! ### Paths -/
def Nd.at? : Nd → List Int → Option Nd
  | t, [] => some t
  | t, i :: p => if i < 0 ∨ (t.kids.length : Int) ≤ i then none else match t.kids[i.toNat]? with | some k => k.at? p | none => none
def Nd.withKids (t : Nd) (ks : List Nd) : Nd := .mk t.id t.leaf t.label t.attrs t.text ks
def Nd.put : Nd → List Int → Nd → Option Nd
  | _, [], x => some x
  | t, i :: p, x => if i < 0 ∨ (t.kids.length : Int) ≤ i then none else match t.kids[i.toNat]? with
    | some k => match k.put p x with
      | some k' => some (t.withKids (t.kids.set i.toNat k'))
      | none => none
    | none => none
def Nd.zero : Nd := .mk 0 false ByteArray.empty [] ByteArray.empty []

/-! ### Attributes -/
def getA (key : ByteArray) : List (ByteArray × ByteArray) → Option ByteArray
  | [] => none
  | (k, v) :: r => if k = key then some v else getA key r
end Go.Proofs.Ytofcbclokkjfjaa.Bw
