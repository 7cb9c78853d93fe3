/- Chapter 17: of two lists, trees, paths that may be put, the one's bytes begin the other one's just if they are the same. -/
import Derived.Test.YtoplaokimahdiaaWiTree
namespace Go.Proofs.Ytoplaokimahdiaa.Wi
open Go.RowKit Go.Proofs.Ytoplaokimahdiaa.Bw

theorem row_congr {α : Type} {f g : α → Option (List UInt8)} {l : List α} (most : Nat) (h : ∀ x ∈ l, f x = g x) : rowE l most f = rowE l most g := by
  unfold rowE
  rw [List.map_congr_left h]
def opE2 (o : OpD) : Option (List UInt8) := if 0 ≤ o.id then opE o else none
theorem op_ud2 : UD opE2 := by
  intro x y l m r s hx hy h
  unfold opE2 at hx hy
  split at hx
  next h1 =>
    split at hy
    next h2 => exact op_ud h1 h2 hx hy h
    next => cases hy
  next => cases hx
theorem list_ud {a b : List OpD} {l m r s : List UInt8} (ia : ∀ o ∈ a, 0 ≤ o.id) (ib : ∀ o ∈ b, 0 ≤ o.id) (ha : listE a = some l) (hb : listE b = some m) (h : l ++ r = m ++ s) : a = b ∧ r = s := by
  have e : ∀ c : List OpD, (∀ o ∈ c, 0 ≤ o.id) → listE c = rowE c 4096 opE2 := fun c hc => row_congr 4096 fun o ho => by unfold opE2; rw [if_pos (hc o ho)]
  rw [e a ia] at ha
  rw [e b ib] at hb
  exact row_ud op_ud2 4096 _ _ _ _ _ _ ha hb h
theorem tree_ud {a b : Nd} {l m r s : List UInt8} (ia : idsOk a) (ib : idsOk b) (ha : treeE a = some l) (hb : treeE b = some m) (h : l ++ r = m ++ s) : a = b ∧ r = s := by
  unfold treeE at ha hb
  split at ha
  next =>
    split at hb
    next => exact node_ud a b 0 0 l m r s ia ib ha hb h
    next => cases hb
  next => cases ha
/-- Does a text begin another one? -/
def beg (l m : List UInt8) : Bool := l.isPrefixOf m
theorem beg_iff {l m : List UInt8} : beg l m = true ↔ ∃ r, l ++ r = m := by
  unfold beg
  rw [List.isPrefixOf_iff_prefix]
  rfl
theorem list_beg {a b : List OpD} {l m : List UInt8} (ia : ∀ o ∈ a, 0 ≤ o.id) (ib : ∀ o ∈ b, 0 ≤ o.id) (ha : listE a = some l) (hb : listE b = some m) : beg l m = true ↔ a = b := by
  rw [beg_iff]
  constructor
  · rintro ⟨r, h⟩
    exact (list_ud ia ib ha hb (by rw [h, List.append_nil])).1
  · rintro rfl
    rw [ha] at hb
    cases hb
    exact ⟨[], List.append_nil _⟩
theorem tree_beg {a b : Nd} {l m : List UInt8} (ia : idsOk a) (ib : idsOk b) (ha : treeE a = some l) (hb : treeE b = some m) : beg l m = true ↔ a = b := by
  rw [beg_iff]
  constructor
  · rintro ⟨r, h⟩
    exact (tree_ud ia ib ha hb (by rw [h, List.append_nil])).1
  · rintro rfl
    rw [ha] at hb
    cases hb
    exact ⟨[], List.append_nil _⟩
theorem path_beg {a b : List Int} {l m : List UInt8} (ha : pathE a = some l) (hb : pathE b = some m) : beg l m = true ↔ a = b := by
  rw [beg_iff]
  constructor
  · rintro ⟨r, h⟩
    exact (path_ud _ _ _ _ _ _ ha hb (show l ++ r = m ++ [] by rw [h, List.append_nil])).1
  · rintro rfl
    rw [ha] at hb
    cases hb
    exact ⟨[], List.append_nil _⟩
/-- What is put has bytes. -/
theorem row_ne {α : Type} {f : α → Option (List UInt8)} {l : List α} {most : Nat} {b : List UInt8} (h : rowE l most f = some b) : b ≠ [] := by
  unfold rowE at h
  split at h
  next =>
    obtain ⟨a, c, h2, h3, rfl⟩ := seqE_cons_some h
    cases h2
    have := num_ne l.length
    intro h0
    exact this (List.append_eq_nil_iff.1 h0).1
  next => cases h
theorem tree_ne {t : Nd} {b : List UInt8} (h : treeE t = some b) : b ≠ [] := by
  unfold treeE at h
  split at h
  next =>
    cases t with
    | mk i f lb at_ tx ks =>
      unfold nodeE at h
      split at h
      next =>
        obtain ⟨a, c, h2, h3, rfl⟩ := seqE_cons_some h
        cases h2
        intro h0
        exact num_ne _ (List.append_eq_nil_iff.1 h0).1
      next => cases h
  next => cases h
end Go.Proofs.Ytoplaokimahdiaa.Wi
