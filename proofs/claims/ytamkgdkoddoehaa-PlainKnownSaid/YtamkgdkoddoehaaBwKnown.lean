/- What a node in a box becomes when one of its fields is changed. -/
import Derived.Test.YtamkgdkoddoehaaBwGrove
import Derived.Test.YtamkgdkoddoehaaBwRPut
namespace Go.Proofs.Ytamkgdkoddoehaa.Bw
open Go.RowKit

theorem Nd.rd_parts {w : World} {z : Nd} {zA zK : Option Addr} {zc zd : Nat} (h : z.rd w (.agg #[.int .u64 z.id, .bool z.leaf, .string z.label, .slice zA z.attrs.length zc, .string z.text, .slice zK z.kids.length zd])) :
    0 ≤ z.id ∧ z.id ≤ 18446744073709551615 ∧ z.label.size ≤ maxLen ∧ z.text.size ≤ maxLen ∧ RdA w z.attrs (.slice zA z.attrs.length zc) ∧ RdK w z.kids (.slice zK z.kids.length zd) := by
  obtain ⟨av, kv, he, h1, h2, h3, h4, h5, h6⟩ := Nd.rd_open h
  simp only [Value.agg.injEq, Array.mk.injEq, List.cons.injEq, and_true, true_and] at he
  obtain ⟨rfl, rfl⟩ := he
  exact ⟨h1, h2, h3, h4, h5, h6⟩

/-- In wx, which goes on from w, block B holds a node. -/
def GoodX (w wx : World) (B : Nat) : Prop := Ext w wx ∧ ∃ (X : Nd) (xA : Option Addr) (xc : Nat) (xK : Option Addr) (xd : Nat),
  NBox wx B 26 #[.int .u64 X.id, .bool X.leaf, .string X.label, .slice xA X.attrs.length xc, .string X.text, .slice xK X.kids.length xd] ∧
  X.rd wx (.agg #[.int .u64 X.id, .bool X.leaf, .string X.label, .slice xA X.attrs.length xc, .string X.text, .slice xK X.kids.length xd])

section
variable {wr w4 : World} {z : Nd} {zA zK : Option Addr} {zc zd : Nat} (hE4 : Ext wr w4)
  (hX4 : NBox w4 wr.heap.size 26 #[.int .u64 z.id, .bool z.leaf, .string z.label, .slice zA z.attrs.length zc, .string z.text, .slice zK z.kids.length zd])
  (hz : z.rd wr (.agg #[.int .u64 z.id, .bool z.leaf, .string z.label, .slice zA z.attrs.length zc, .string z.text, .slice zK z.kids.length zd]))
include hE4 hX4 hz

omit hX4 hz in
theorem kn_set {j : Nat} {v : Value} : Ext wr (w4.setCell ⟨wr.heap.size, j, none⟩ v) := Below.setCell hE4 (p := ⟨wr.heap.size, j, none⟩) (Nat.le_refl _) v
theorem kn_same : GoodX wr w4 wr.heap.size := ⟨hE4, z, zA, zc, zK, zd, hX4, Nd.rd_ext hE4 hz⟩
theorem kn_id (n : Int) (h0 : 0 ≤ n) (h1 : n ≤ 18446744073709551615) : GoodX wr (w4.setCell ⟨wr.heap.size, 0, none⟩ (.int .u64 n)) wr.heap.size := by
  obtain ⟨i0, i1, hl, ht, hA, hK⟩ := Nd.rd_parts hz
  have e := kn_set hE4 (j := 0) (v := .int .u64 n)
  exact ⟨e, .mk n z.leaf z.label z.attrs z.text z.kids, zA, zc, zK, zd, by simpa [Nd.id, Nd.leaf, Nd.label, Nd.attrs, Nd.text, Nd.kids] using hX4.set 0 (.int .u64 n), Nd.rd_shut (t := .mk n z.leaf z.label z.attrs z.text z.kids) h0 h1 hl ht (hA.ext e) (hK.ext e)⟩
theorem kn_leaf (b : Bool) : GoodX wr (w4.setCell ⟨wr.heap.size, 1, none⟩ (.bool b)) wr.heap.size := by
  obtain ⟨i0, i1, hl, ht, hA, hK⟩ := Nd.rd_parts hz
  have e := kn_set hE4 (j := 1) (v := .bool b)
  exact ⟨e, .mk z.id b z.label z.attrs z.text z.kids, zA, zc, zK, zd, by simpa [Nd.id, Nd.leaf, Nd.label, Nd.attrs, Nd.text, Nd.kids] using hX4.set 1 (.bool b), Nd.rd_shut (t := .mk z.id b z.label z.attrs z.text z.kids) i0 i1 hl ht (hA.ext e) (hK.ext e)⟩
theorem kn_label (s : ByteArray) (hs : s.size ≤ maxLen) : GoodX wr (w4.setCell ⟨wr.heap.size, 2, none⟩ (.string s)) wr.heap.size := by
  obtain ⟨i0, i1, hl, ht, hA, hK⟩ := Nd.rd_parts hz
  have e := kn_set hE4 (j := 2) (v := .string s)
  exact ⟨e, .mk z.id z.leaf s z.attrs z.text z.kids, zA, zc, zK, zd, by simpa [Nd.id, Nd.leaf, Nd.label, Nd.attrs, Nd.text, Nd.kids] using hX4.set 2 (.string s), Nd.rd_shut (t := .mk z.id z.leaf s z.attrs z.text z.kids) i0 i1 hs ht (hA.ext e) (hK.ext e)⟩
theorem kn_text (s : ByteArray) (hs : s.size ≤ maxLen) : GoodX wr (w4.setCell ⟨wr.heap.size, 4, none⟩ (.string s)) wr.heap.size := by
  obtain ⟨i0, i1, hl, ht, hA, hK⟩ := Nd.rd_parts hz
  have e := kn_set hE4 (j := 4) (v := .string s)
  exact ⟨e, .mk z.id z.leaf z.label z.attrs s z.kids, zA, zc, zK, zd, by simpa [Nd.id, Nd.leaf, Nd.label, Nd.attrs, Nd.text, Nd.kids] using hX4.set 4 (.string s), Nd.rd_shut (t := .mk z.id z.leaf z.label z.attrs s z.kids) i0 i1 hl hs (hA.ext e) (hK.ext e)⟩
theorem kn_kids0 : GoodX wr (w4.setCell ⟨wr.heap.size, 5, none⟩ (.slice none 0 0)) wr.heap.size := by
  obtain ⟨i0, i1, hl, ht, hA, hK⟩ := Nd.rd_parts hz
  have e := kn_set hE4 (j := 5) (v := .slice none 0 0)
  exact ⟨e, .mk z.id z.leaf z.label z.attrs z.text [], zA, zc, none, 0, by simpa [Nd.id, Nd.leaf, Nd.label, Nd.attrs, Nd.text, Nd.kids] using hX4.set 5 (.slice none 0 0), Nd.rd_shut (t := .mk z.id z.leaf z.label z.attrs z.text []) i0 i1 hl ht (hA.ext e) (rdK_nil _)⟩
theorem kn_kid : GoodX wr ((w4.setCell ⟨wr.heap.size, 5, none⟩ (.slice (some ⟨w4.heap.size, 0, none⟩) 1 1)).alloc (.cells #[.int .u64 70, .bool true, .string ⟨#[]⟩, .slice none 0 0, .string ⟨#[]⟩, .slice none 0 0] 26)) wr.heap.size := by
  obtain ⟨i0, i1, hl, ht, hA, hK⟩ := Nd.rd_parts hz
  have e0 := kn_set hE4 (j := 5) (v := .slice (some ⟨w4.heap.size, 0, none⟩) 1 1)
  have hb := NBox.new (w4.setCell ⟨wr.heap.size, 5, none⟩ (.slice (some ⟨w4.heap.size, 0, none⟩) 1 1)) 26 #[.int .u64 70, .bool true, .string ⟨#[]⟩, .slice none 0 0, .string ⟨#[]⟩, .slice none 0 0]
  have hsz : (w4.setCell ⟨wr.heap.size, 5, none⟩ (.slice (some ⟨w4.heap.size, 0, none⟩) 1 1)).heap.size = w4.heap.size := by simp
  have hN := hX4.set 5 (.slice (some ⟨w4.heap.size, 0, none⟩) 1 1)
  rw [hsz] at hb
  obtain ⟨wx, hwx⟩ : ∃ W, (w4.setCell ⟨wr.heap.size, 5, none⟩ (.slice (some ⟨w4.heap.size, 0, none⟩) 1 1)) = W := ⟨_, rfl⟩
  rw [hwx] at e0 hb hN ⊢
  have e1 := (Ext.refl wx).alloc (.cells #[.int .u64 70, .bool true, .string ⟨#[]⟩, .slice none 0 0, .string ⟨#[]⟩, .slice none 0 0] 26)
  have e := e0.trans e1
  have hl70 := leaf_rd (wx.alloc (.cells #[.int .u64 70, .bool true, .string ⟨#[]⟩, .slice none 0 0, .string ⟨#[]⟩, .slice none 0 0] 26)) 70 true ⟨#[]⟩ ⟨#[]⟩ (by omega) (by omega) (Nat.zero_le _) (Nat.zero_le _)
  exact ⟨e, .mk z.id z.leaf z.label z.attrs z.text [.mk 70 true ⟨#[]⟩ [] ⟨#[]⟩ []], zA, zc, some ⟨w4.heap.size, 0, none⟩, 1, by have := hN.ext e1; simpa [Nd.id, Nd.leaf, Nd.label, Nd.attrs, Nd.text, Nd.kids] using this,
    Nd.rd_shut (t := .mk z.id z.leaf z.label z.attrs z.text [.mk 70 true ⟨#[]⟩ [] ⟨#[]⟩ []]) i0 i1 hl ht (hA.ext e) (kids_rd _ _ _ hb [.mk 70 true ⟨#[]⟩ [] ⟨#[]⟩ []] (by simp) ⟨_, _, _, _, _, _, _, rfl, hl70, rfl⟩)⟩
theorem kn_at (l : List (ByteArray × ByteArray)) (n : Nat) (hn : l.length = n) (cs : Array Value) (hr : ∀ W g, NBox W g 48 cs → RdA W l (.slice (some ⟨g, 0, none⟩) n n)) :
    GoodX wr ((w4.setCell ⟨wr.heap.size, 3, none⟩ (.slice (some ⟨w4.heap.size, 0, none⟩) n n)).alloc (.cells cs 48)) wr.heap.size := by
  subst hn
  obtain ⟨i0, i1, hl, ht, hA, hK⟩ := Nd.rd_parts hz
  have e0 := kn_set hE4 (j := 3) (v := .slice (some ⟨w4.heap.size, 0, none⟩) l.length l.length)
  have hb := NBox.new (w4.setCell ⟨wr.heap.size, 3, none⟩ (.slice (some ⟨w4.heap.size, 0, none⟩) l.length l.length)) 48 cs
  have hsz : (w4.setCell ⟨wr.heap.size, 3, none⟩ (.slice (some ⟨w4.heap.size, 0, none⟩) l.length l.length)).heap.size = w4.heap.size := by simp
  have hN := hX4.set 3 (.slice (some ⟨w4.heap.size, 0, none⟩) l.length l.length)
  rw [hsz] at hb
  obtain ⟨wx, hwx⟩ : ∃ W, (w4.setCell ⟨wr.heap.size, 3, none⟩ (.slice (some ⟨w4.heap.size, 0, none⟩) l.length l.length)) = W := ⟨_, rfl⟩
  rw [hwx] at e0 hb hN ⊢
  have e1 := (Ext.refl wx).alloc (.cells cs 48)
  have e := e0.trans e1
  exact ⟨e, .mk z.id z.leaf z.label l z.text z.kids, some ⟨w4.heap.size, 0, none⟩, l.length, zK, zd, by have := hN.ext e1; simpa [Nd.id, Nd.leaf, Nd.label, Nd.attrs, Nd.text, Nd.kids] using this,
    Nd.rd_shut (t := .mk z.id z.leaf z.label l z.text z.kids) i0 i1 hl ht (hr _ _ hb) (hK.ext e)⟩
end

theorem attrs1 {W : World} {g : Nat} {k v : ByteArray} (hk : k.size ≤ maxLen) (hv : v.size ≤ maxLen) (hb : NBox W g 48 #[.string k, .string v]) : RdA W [(k, v)] (.slice (some ⟨g, 0, none⟩) 1 1) :=
  ⟨_, 1, rfl, by simp, by simp [maxLen], fun _ => ⟨_, 0, rfl, hb.cell 0, hb.cell 1, hk, hv, trivial⟩⟩
theorem attrs2 {W : World} {g : Nat} {k v k' v' : ByteArray} (hk : k.size ≤ maxLen) (hv : v.size ≤ maxLen) (hk' : k'.size ≤ maxLen) (hv' : v'.size ≤ maxLen) (hb : NBox W g 48 #[.string k, .string v, .string k', .string v']) : RdA W [(k, v), (k', v')] (.slice (some ⟨g, 0, none⟩) 2 2) :=
  ⟨_, 2, rfl, by simp, by simp [maxLen], fun _ => ⟨_, 0, rfl, hb.cell 0, hb.cell 1, hk, hv, hb.cell 2, hb.cell 3, hk', hv', trivial⟩⟩
theorem one_le (s : ByteArray) (h : s.size ≤ 1000) : s.size ≤ maxLen := by simp only [maxLen]; omega
theorem cut_le (s : ByteArray) (a b : Nat) (h : s.size ≤ 1000) : (s.extract a b).size ≤ maxLen := by
  have : (s.extract a b).size ≤ s.size := by rw [ByteArray.size_extract]; omega
  simp only [maxLen]; omega
end Go.Proofs.Ytamkgdkoddoehaa.Bw
