/- How much a tree has: the plain function, and its bounds. -/
import Derived.Test.YtkimbpeapolcbaaBwData
namespace Go.Proofs.Ytkimbpeapolcbaa.Bw
open Go.RowKit

mutual
def Nd.cnt : Nd → Nat
  | .mk _ _ _ _ _ ks => 1 + cntK ks
def cntK : List Nd → Nat
  | [] => 0
  | k :: r => k.cnt + cntK r
end
theorem Nd.cnt_eq (t : Nd) : t.cnt = 1 + cntK t.kids := by cases t; rw [Nd.cnt]; rfl
theorem cntK_mem : ∀ {l : List Nd} {k : Nd}, k ∈ l → k.cnt ≤ cntK l
  | x :: r, k, h => by
    rw [cntK]
    rcases List.mem_cons.1 h with rfl | h
    · omega
    · have := cntK_mem h; omega
theorem Nd.cnt_kid {t k : Nd} {i : Nat} (h : t.kids[i]? = some k) : k.cnt < t.cnt := by
  have := cntK_mem (List.mem_of_getElem? h)
  rw [Nd.cnt_eq t]; omega

/-- The attributes' part; none: the bound is answered at once. -/
def weighA (top w : Int) : List (ByteArray × ByteArray) → Option Int
  | [] => some w
  | (k, v) :: r => if w ≤ top then (if top < (k.size : Int) ∨ top < (v.size : Int) then none else weighA top (w + 1 + k.size + v.size) r) else some w

mutual
def Nd.weigh : Nd → Int → Int
  | .mk _ _ lb ats tx ks, top => if top < (lb.size : Int) ∨ top < (tx.size : Int) ∨ top < (ats.length : Int) then top + 1 else
      match weighA top (1 + lb.size + tx.size) ats with
      | none => top + 1
      | some w => weighK top w ks
def weighK : Int → Int → List Nd → Int
  | _, w, [] => w
  | top, w, k :: r => if w ≤ top then weighK top (w + k.weigh (top - w)) r else w
end

theorem weighA_done {top w : Int} {l : List (ByteArray × ByteArray)} (h : l = [] ∨ top < w) : weighA top w l = some w := by
  cases l with
  | nil => rfl
  | cons x r => obtain ⟨k, v⟩ := x; rcases h with h | h; · cases h
                rw [weighA, if_neg (by omega)]
theorem weighA_out {top w : Int} {k v : ByteArray} {r : List (ByteArray × ByteArray)} (h : w ≤ top) (h2 : top < (k.size : Int) ∨ top < (v.size : Int)) : weighA top w ((k, v) :: r) = none := by
  rw [weighA, if_pos h, if_pos h2]
theorem weighA_on {top w : Int} {k v : ByteArray} {r : List (ByteArray × ByteArray)} (h : w ≤ top) (h2 : ¬ top < (k.size : Int)) (h3 : ¬ top < (v.size : Int)) : weighA top w ((k, v) :: r) = weighA top (w + 1 + k.size + v.size) r := by
  rw [weighA, if_pos h, if_neg (by omega)]
theorem weighK_done {top w : Int} {l : List Nd} (h : l = [] ∨ top < w) : weighK top w l = w := by
  cases l with
  | nil => rw [weighK]
  | cons x r => rcases h with h | h; · cases h
                rw [weighK, if_neg (by omega)]
theorem weighK_on {top w : Int} {k : Nd} {r : List Nd} (h : w ≤ top) : weighK top w (k :: r) = weighK top (w + k.weigh (top - w)) r := by
  rw [weighK, if_pos h]

theorem weighA_le {top : Int} (h0 : 0 ≤ top) : ∀ {l : List (ByteArray × ByteArray)} {w x : Int}, 0 ≤ w → w ≤ 3 * top + 1 → weighA top w l = some x → w ≤ x ∧ x ≤ 3 * top + 1
  | [], w, x, h1, h2, h => by rw [weighA] at h; injection h with h; omega
  | (k, v) :: r, w, x, h1, h2, h => by
    rw [weighA] at h
    split at h
    · split at h
      · cases h
      · have := weighA_le h0 (by omega) (by omega) h; omega
    · injection h with h; omega

mutual
theorem Nd.weigh_le : ∀ (t : Nd) (top : Int), 0 ≤ top → 0 ≤ t.weigh top ∧ t.weigh top ≤ 3 * top + 1
  | .mk _ _ lb ats tx ks, top, h0 => by
    rw [Nd.weigh]
    split
    · omega
    · split
      · omega
      · rename_i x hx
        have := weighA_le h0 (by omega) (by omega) hx
        have := weighK_le top x ks h0 (by omega) (by omega)
        omega
theorem weighK_le : ∀ (top w : Int) (l : List Nd), 0 ≤ top → 0 ≤ w → w ≤ 3 * top + 1 → 0 ≤ weighK top w l ∧ weighK top w l ≤ 3 * top + 1
  | top, w, [], _, _, _ => by rw [weighK]; omega
  | top, w, k :: r, h0, h1, h2 => by
    rw [weighK]
    split
    · have := Nd.weigh_le k (top - w) (by omega)
      exact weighK_le top _ r h0 (by omega) (by omega)
    · omega
end

/-! ### The true weight -/
def wtA : List (ByteArray × ByteArray) → Nat
  | [] => 0
  | (k, v) :: r => 1 + k.size + v.size + wtA r
mutual
def Nd.wt : Nd → Nat
  | .mk _ _ lb ats tx ks => 1 + lb.size + tx.size + wtA ats + wtK ks
def wtK : List Nd → Nat
  | [] => 0
  | k :: r => k.wt + wtK r
end
theorem Nd.wt_eq (t : Nd) : t.wt = 1 + t.label.size + t.text.size + wtA t.attrs + wtK t.kids := by cases t; rw [Nd.wt]; rfl
theorem wtK_mem : ∀ {l : List Nd} {k : Nd}, k ∈ l → k.wt ≤ wtK l
  | x :: r, k, h => by
    rw [wtK]
    rcases List.mem_cons.1 h with rfl | h
    · omega
    · have := wtK_mem h; omega
theorem Nd.wt_kid {t k : Nd} {i : Nat} (h : t.kids[i]? = some k) : k.wt < t.wt := by
  have := wtK_mem (List.mem_of_getElem? h)
  rw [Nd.wt_eq t]; omega
theorem wtA_len : ∀ l, l.length ≤ wtA l
  | [] => Nat.le_refl _
  | (k, v) :: r => by have := wtA_len r; simp only [List.length_cons, wtA]; omega
theorem wtA_mem : ∀ {l : List (ByteArray × ByteArray)} {k v : ByteArray}, (k, v) ∈ l → 1 + k.size + v.size ≤ wtA l
  | (a, b) :: r, k, v, h => by
    rw [wtA]
    rcases List.mem_cons.1 h with h | h
    · injection h with h1 h2; subst h1; subst h2; omega
    · have := wtA_mem h; omega
mutual
theorem Nd.cnt_wt : ∀ t : Nd, t.cnt ≤ t.wt
  | .mk _ _ _ _ _ ks => by have := cntK_wt ks; rw [Nd.cnt, Nd.wt]; omega
theorem cntK_wt : ∀ l : List Nd, cntK l ≤ wtK l
  | [] => by rw [cntK, wtK]; exact Nat.le_refl _
  | k :: r => by have := Nd.cnt_wt k; have := cntK_wt r; rw [cntK, wtK]; omega
end
theorem wtK_len : ∀ l : List Nd, l.length ≤ wtK l
  | [] => Nat.le_refl _
  | k :: r => by have := wtK_len r; have := Nd.cnt_wt k; rw [Nd.cnt_eq] at this; simp only [List.length_cons, wtK]; omega

/-- Whether it has at most so much is told rightly; and if so, how much. -/
theorem weighA_spec {top : Int} : ∀ {l : List (ByteArray × ByteArray)} {w : Int}, 0 ≤ w → (w + wtA l ≤ top → weighA top w l = some (w + wtA l)) ∧ (top < w + wtA l → ∀ x, weighA top w l = some x → top < x)
  | [], w, h0 => by rw [weighA, wtA]; refine ⟨fun _ => by simp, fun h x hx => by injection hx with hx; omega⟩
  | (k, v) :: r, w, h0 => by
    rw [weighA, wtA]
    have ih := weighA_spec (top := top) (l := r) (w := w + 1 + k.size + v.size) (by omega)
    refine ⟨fun h => ?_, fun h x hx => ?_⟩
    · rw [if_pos (by omega), if_neg (by omega), ih.1 (by omega)]; congr 1; omega
    · split at hx
      · split at hx
        · cases hx
        · exact ih.2 (by omega) x hx
      · injection hx with hx; omega
mutual
theorem Nd.weigh_spec : ∀ (t : Nd) (top : Int), 0 ≤ top → ((t.wt : Int) ≤ top → t.weigh top = t.wt) ∧ (top < (t.wt : Int) → top < t.weigh top)
  | .mk _ _ lb ats tx ks, top, h0 => by
    rw [Nd.weigh, Nd.wt]
    have hl := wtA_len ats
    have hA := weighA_spec (top := top) (l := ats) (w := 1 + lb.size + tx.size) (by omega)
    refine ⟨fun h => ?_, fun h => ?_⟩
    · rw [if_neg (by omega), hA.1 (by omega)]
      have := (weighK_spec top (1 + lb.size + tx.size + wtA ats) ks h0 (by omega)).1 (by omega)
      dsimp only; rw [this]; omega
    · split
      · omega
      · split
        · omega
        · rename_i x hx
          rcases Int.lt_or_le top (1 + lb.size + tx.size + wtA ats) with h1 | h1
          · have h2 := hA.2 (by omega) x hx
            rw [weighK_done (.inr h2)]; exact h2
          · have h3 := hA.1 h1
            rw [h3] at hx; injection hx with hx
            exact (weighK_spec top x ks h0 (by omega)).2 (by omega)
theorem weighK_spec : ∀ (top w : Int) (l : List Nd), 0 ≤ top → 0 ≤ w → (w + wtK l ≤ top → weighK top w l = w + wtK l) ∧ (top < w + wtK l → top < weighK top w l)
  | top, w, [], _, _ => by rw [weighK, wtK]; omega
  | top, w, k :: r, h0, h1 => by
    rw [weighK, wtK]
    have hk := Nd.weigh_le k (top - w)
    refine ⟨fun h => ?_, fun h => ?_⟩
    · rw [if_pos (by omega)]
      have := (Nd.weigh_spec k (top - w) (by omega)).1 (by omega)
      rw [this]
      have := (weighK_spec top (w + k.wt) r h0 (by omega)).1 (by omega)
      omega
    · split
      · rename_i hle
        have hk2 := Nd.weigh_spec k (top - w) (by omega)
        have hk3 := hk (by omega)
        rcases Int.lt_or_le (top - w) k.wt with h2 | h2
        · have := hk2.2 h2
          rw [weighK_done (.inr (by omega))]; omega
        · rw [hk2.1 h2]
          exact (weighK_spec top (w + k.wt) r h0 (by omega)).2 (by omega)
      · omega
end
theorem Nd.weigh_iff (t : Nd) {top : Int} (h0 : 0 ≤ top) : t.weigh top ≤ top ↔ (t.wt : Int) ≤ top := by
  have := Nd.weigh_spec t top h0
  constructor
  · intro h
    rcases Int.lt_or_le top t.wt with h1 | h1
    · have := this.2 h1; omega
    · exact h1
  · intro h; rw [this.1 h]; exact h
end Go.Proofs.Ytkimbpeapolcbaa.Bw
