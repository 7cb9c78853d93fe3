/- Lemmas and walks for the claims of chapter 06: Grove. No conditions beside those that stand in each lemma. -/
import Derived.Test.YtamkgdkoddoehaaBwWorks
import Derived.Test.YtamkgdkoddoehaaBwClone
import Derived.Laws.Rows
namespace Go.Proofs.Ytamkgdkoddoehaa.Bw
open Go.RowKit

def gX : Nd := .mk 3 true ⟨#[120]⟩ [] ⟨#[104, 105]⟩ []
def gC : Nd := .mk 4 false ⟨#[99]⟩ [] ⟨#[]⟩ []
def gA : Nd := .mk 2 false ⟨#[97]⟩ [(⟨#[107]⟩, ⟨#[49]⟩)] ⟨#[]⟩ [gX, gC]
def gB : Nd := .mk 5 true ⟨#[98]⟩ [] ⟨#[98, 101, 101]⟩ []
def gF : Nd := .mk 8 false ⟨#[102]⟩ [] ⟨#[]⟩ []
def gE : Nd := .mk 7 false ⟨#[101]⟩ [] ⟨#[]⟩ [gF]
def gD : Nd := .mk 6 false ⟨#[100]⟩ [] ⟨#[]⟩ [gE]
def gR : Nd := .mk 1 false ⟨#[114]⟩ [] ⟨#[]⟩ [gA, gB, gD]
theorem gR_cnt : gR.cnt = 8 := by simp [gR, gA, gB, gC, gD, gE, gF, gX, Nd.cnt, cntK]
theorem gR_wt : gR.wt ≤ 600 := by simp [gR, gA, gB, gC, gD, gE, gF, gX, Nd.wt, wtK, wtA, ByteArray.size]

theorem leaf_rd (W : World) (i : Int) (lf : Bool) (lb tx : ByteArray) (h0 : 0 ≤ i) (h1 : i ≤ 18446744073709551615) (h2 : lb.size ≤ maxLen) (h3 : tx.size ≤ maxLen) :
    (Nd.mk i lf lb [] tx []).rd W (.agg #[.int .u64 i, .bool lf, .string lb, .slice none 0 0, .string tx, .slice none 0 0]) :=
  Nd.rd_shut (t := .mk i lf lb [] tx []) h0 h1 h2 h3 (rdA_nil W) (rdK_nil W)
/-- A node whose children lie in a block of their own. -/
theorem kids_rd (W : World) (g : Nat) (cs : Array Value) (hb : NBox W g 26 cs) (ks : List Nd) (hn : ks.length ≤ 1000) (hr : rowK W ks cs.toList) : RdK W ks (.slice (some ⟨g, 0, none⟩) ks.length ks.length) :=
  ⟨_, _, rfl, Nat.le_refl _, by simp only [maxLen]; omega, fun _ => ⟨g, 0, rfl, rd_of_rowK hr fun j u hu => by
    rw [Nat.zero_add, hb.cell j]; simpa using hu⟩⟩

set_option maxRecDepth 100000 in
set_option maxHeartbeats 1000000 in
theorem grove_any (w : World) : Calls Try.prog 34 #[] w (Ret w fun r w' => gR.rd w' r) := by
  obtain ⟨w0, hw0⟩ : ∃ W, w.alloc (.cells #[.int .u64 1, .bool false, .string ⟨#[114]⟩, .slice none 0 0, .string ⟨#[]⟩, .slice (some ⟨w.heap.size + 1 + 1 + 1 + 1 + 1, 0, none⟩) 3 3] 26) = W := ⟨_, rfl⟩
  have hs0 : w0.heap.size = w.heap.size + 1 := by rw [← hw0, World.size_alloc]
  have e0 : Ext w w0 := by rw [← hw0]; exact (Ext.refl _).alloc _
  have b0 : NBox w0 (w.heap.size) 26 #[.int .u64 1, .bool false, .string ⟨#[114]⟩, .slice none 0 0, .string ⟨#[]⟩, .slice (some ⟨w.heap.size + 1 + 1 + 1 + 1 + 1, 0, none⟩) 3 3] := by rw [← hw0]; exact NBox.new _ _ _
  obtain ⟨w1, hw1⟩ : ∃ W, w0.alloc (.cells #[.string ⟨#[107]⟩, .string ⟨#[49]⟩] 48) = W := ⟨_, rfl⟩
  have hs1 : w1.heap.size = w.heap.size + 1 + 1 := by rw [← hw1, World.size_alloc, hs0]
  have e1 : Ext w0 w1 := by rw [← hw1]; exact (Ext.refl _).alloc _
  have b1 : NBox w1 (w.heap.size + 1) 48 #[.string ⟨#[107]⟩, .string ⟨#[49]⟩] := by rw [← hw1, ← hs0]; exact NBox.new _ _ _
  replace b0 := b0.ext e1
  obtain ⟨w2, hw2⟩ : ∃ W, w1.alloc (.cells #[.int .u64 3, .bool true, .string ⟨#[120]⟩, .slice none 0 0, .string ⟨#[104, 105]⟩, .slice none 0 0, .int .u64 4, .bool false, .string ⟨#[99]⟩, .slice none 0 0, .string ⟨#[]⟩, .slice none 0 0] 26) = W := ⟨_, rfl⟩
  have hs2 : w2.heap.size = w.heap.size + 1 + 1 + 1 := by rw [← hw2, World.size_alloc, hs1]
  have e2 : Ext w1 w2 := by rw [← hw2]; exact (Ext.refl _).alloc _
  have b2 : NBox w2 (w.heap.size + 1 + 1) 26 #[.int .u64 3, .bool true, .string ⟨#[120]⟩, .slice none 0 0, .string ⟨#[104, 105]⟩, .slice none 0 0, .int .u64 4, .bool false, .string ⟨#[99]⟩, .slice none 0 0, .string ⟨#[]⟩, .slice none 0 0] := by rw [← hw2, ← hs1]; exact NBox.new _ _ _
  replace b0 := b0.ext e2
  replace b1 := b1.ext e2
  obtain ⟨w3, hw3⟩ : ∃ W, w2.alloc (.cells #[.int .u64 8, .bool false, .string ⟨#[102]⟩, .slice none 0 0, .string ⟨#[]⟩, .slice none 0 0] 26) = W := ⟨_, rfl⟩
  have hs3 : w3.heap.size = w.heap.size + 1 + 1 + 1 + 1 := by rw [← hw3, World.size_alloc, hs2]
  have e3 : Ext w2 w3 := by rw [← hw3]; exact (Ext.refl _).alloc _
  have b3 : NBox w3 (w.heap.size + 1 + 1 + 1) 26 #[.int .u64 8, .bool false, .string ⟨#[102]⟩, .slice none 0 0, .string ⟨#[]⟩, .slice none 0 0] := by rw [← hw3, ← hs2]; exact NBox.new _ _ _
  replace b0 := b0.ext e3
  replace b1 := b1.ext e3
  replace b2 := b2.ext e3
  obtain ⟨w4, hw4⟩ : ∃ W, w3.alloc (.cells #[.int .u64 7, .bool false, .string ⟨#[101]⟩, .slice none 0 0, .string ⟨#[]⟩, .slice (some ⟨w.heap.size + 1 + 1 + 1, 0, none⟩) 1 1] 26) = W := ⟨_, rfl⟩
  have hs4 : w4.heap.size = w.heap.size + 1 + 1 + 1 + 1 + 1 := by rw [← hw4, World.size_alloc, hs3]
  have e4 : Ext w3 w4 := by rw [← hw4]; exact (Ext.refl _).alloc _
  have b4 : NBox w4 (w.heap.size + 1 + 1 + 1 + 1) 26 #[.int .u64 7, .bool false, .string ⟨#[101]⟩, .slice none 0 0, .string ⟨#[]⟩, .slice (some ⟨w.heap.size + 1 + 1 + 1, 0, none⟩) 1 1] := by rw [← hw4, ← hs3]; exact NBox.new _ _ _
  replace b0 := b0.ext e4
  replace b1 := b1.ext e4
  replace b2 := b2.ext e4
  replace b3 := b3.ext e4
  obtain ⟨w5, hw5⟩ : ∃ W, w4.alloc (.cells #[.int .u64 2, .bool false, .string ⟨#[97]⟩, .slice (some ⟨w.heap.size + 1, 0, none⟩) 1 1, .string ⟨#[]⟩, .slice (some ⟨w.heap.size + 1 + 1, 0, none⟩) 2 2, .int .u64 5, .bool true, .string ⟨#[98]⟩, .slice none 0 0, .string ⟨#[98, 101, 101]⟩, .slice none 0 0, .int .u64 6, .bool false, .string ⟨#[100]⟩, .slice none 0 0, .string ⟨#[]⟩, .slice (some ⟨w.heap.size + 1 + 1 + 1 + 1, 0, none⟩) 1 1] 26) = W := ⟨_, rfl⟩
  have hs5 : w5.heap.size = w.heap.size + 1 + 1 + 1 + 1 + 1 + 1 := by rw [← hw5, World.size_alloc, hs4]
  have e5 : Ext w4 w5 := by rw [← hw5]; exact (Ext.refl _).alloc _
  have b5 : NBox w5 (w.heap.size + 1 + 1 + 1 + 1 + 1) 26 #[.int .u64 2, .bool false, .string ⟨#[97]⟩, .slice (some ⟨w.heap.size + 1, 0, none⟩) 1 1, .string ⟨#[]⟩, .slice (some ⟨w.heap.size + 1 + 1, 0, none⟩) 2 2, .int .u64 5, .bool true, .string ⟨#[98]⟩, .slice none 0 0, .string ⟨#[98, 101, 101]⟩, .slice none 0 0, .int .u64 6, .bool false, .string ⟨#[100]⟩, .slice none 0 0, .string ⟨#[]⟩, .slice (some ⟨w.heap.size + 1 + 1 + 1 + 1, 0, none⟩) 1 1] := by rw [← hw5, ← hs4]; exact NBox.new _ _ _
  replace b0 := b0.ext e5
  replace b1 := b1.ext e5
  replace b2 := b2.ext e5
  replace b3 := b3.ext e5
  replace b4 := b4.ext e5
  have hE : Ext w w5 := ((((e0.trans e1).trans e2).trans e3).trans e4).trans e5
  have H : Hid ((((((w.alloc (.cells #[.int .u64 1, .bool false, .string ⟨#[114]⟩, .slice none 0 0, .string ⟨#[]⟩, .slice (some ⟨w.heap.size + 1 + 1 + 1 + 1 + 1, 0, none⟩) 3 3] 26)).alloc (.cells #[.string ⟨#[107]⟩, .string ⟨#[49]⟩] 48)).alloc (.cells #[.int .u64 3, .bool true, .string ⟨#[120]⟩, .slice none 0 0, .string ⟨#[104, 105]⟩, .slice none 0 0, .int .u64 4, .bool false, .string ⟨#[99]⟩, .slice none 0 0, .string ⟨#[]⟩, .slice none 0 0] 26)).alloc (.cells #[.int .u64 8, .bool false, .string ⟨#[102]⟩, .slice none 0 0, .string ⟨#[]⟩, .slice none 0 0] 26)).alloc (.cells #[.int .u64 7, .bool false, .string ⟨#[101]⟩, .slice none 0 0, .string ⟨#[]⟩, .slice (some ⟨w.heap.size + 1 + 1 + 1, 0, none⟩) 1 1] 26)).alloc (.cells #[.int .u64 2, .bool false, .string ⟨#[97]⟩, .slice (some ⟨w.heap.size + 1, 0, none⟩) 1 1, .string ⟨#[]⟩, .slice (some ⟨w.heap.size + 1 + 1, 0, none⟩) 2 2, .int .u64 5, .bool true, .string ⟨#[98]⟩, .slice none 0 0, .string ⟨#[98, 101, 101]⟩, .slice none 0 0, .int .u64 6, .bool false, .string ⟨#[100]⟩, .slice none 0 0, .string ⟨#[]⟩, .slice (some ⟨w.heap.size + 1 + 1 + 1 + 1, 0, none⟩) 1 1] 26) = w5) := by rw [hw0, hw1, hw2, hw3, hw4, hw5]; trivial
  clear hw0 hw1 hw2 hw3 hw4 hw5 hs0 hs1 hs2 hs3 hs4 hs5 e0 e1 e2 e3 e4 e5
  have mx : (1000 : Nat) ≤ maxLen := by simp [maxLen]
  have rX := leaf_rd w5 3 true ⟨#[120]⟩ ⟨#[104, 105]⟩ (by omega) (by omega) (by simp [maxLen, ByteArray.size]) (by simp [maxLen, ByteArray.size])
  have rC := leaf_rd w5 4 false ⟨#[99]⟩ ⟨#[]⟩ (by omega) (by omega) (by simp [maxLen, ByteArray.size]) (by simp [maxLen, ByteArray.size])
  have rB := leaf_rd w5 5 true ⟨#[98]⟩ ⟨#[98, 101, 101]⟩ (by omega) (by omega) (by simp [maxLen, ByteArray.size]) (by simp [maxLen, ByteArray.size])
  have rF := leaf_rd w5 8 false ⟨#[102]⟩ ⟨#[]⟩ (by omega) (by omega) (by simp [maxLen, ByteArray.size]) (by simp [maxLen, ByteArray.size])
  have rA : gA.rd w5 (.agg #[.int .u64 2, .bool false, .string ⟨#[97]⟩, .slice (some ⟨w.heap.size + 1, 0, none⟩) 1 1, .string ⟨#[]⟩, .slice (some ⟨w.heap.size + 1 + 1, 0, none⟩) 2 2]) := Nd.rd_shut (t := gA) (by simp [gA, Nd.id]) (by simp [gA, Nd.id]) (by simp [gA, Nd.label, maxLen, ByteArray.size]) (by simp [gA, Nd.text, maxLen, ByteArray.size]) ⟨_, 1, rfl, by simp [gA, Nd.attrs], by simp [maxLen], fun _ => ⟨_, 0, rfl, b1.cell 0, b1.cell 1, show 1 ≤ maxLen by simp [maxLen], show 1 ≤ maxLen by simp [maxLen], trivial⟩⟩
    (kids_rd w5 (w.heap.size + 1 + 1) _ b2 gA.kids (by simp [gA, Nd.kids]) ⟨_, _, _, _, _, _, _, rfl, rX, ⟨_, _, _, _, _, _, _, rfl, rC, rfl⟩⟩)
  have rE : gE.rd w5 (.agg #[.int .u64 7, .bool false, .string ⟨#[101]⟩, .slice none 0 0, .string ⟨#[]⟩, .slice (some ⟨w.heap.size + 1 + 1 + 1, 0, none⟩) 1 1]) := Nd.rd_shut (t := gE) (by simp [gE, Nd.id]) (by simp [gE, Nd.id]) (by simp [gE, Nd.label, maxLen, ByteArray.size]) (by simp [gE, Nd.text, maxLen, ByteArray.size]) (rdA_nil _)
    (kids_rd w5 (w.heap.size + 1 + 1 + 1) _ b3 gE.kids (by simp [gE, Nd.kids]) ⟨_, _, _, _, _, _, _, rfl, rF, rfl⟩)
  have rD : gD.rd w5 (.agg #[.int .u64 6, .bool false, .string ⟨#[100]⟩, .slice none 0 0, .string ⟨#[]⟩, .slice (some ⟨w.heap.size + 1 + 1 + 1 + 1, 0, none⟩) 1 1]) := Nd.rd_shut (t := gD) (by simp [gD, Nd.id]) (by simp [gD, Nd.id]) (by simp [gD, Nd.label, maxLen, ByteArray.size]) (by simp [gD, Nd.text, maxLen, ByteArray.size]) (rdA_nil _)
    (kids_rd w5 (w.heap.size + 1 + 1 + 1 + 1) _ b4 gD.kids (by simp [gD, Nd.kids]) ⟨_, _, _, _, _, _, _, rfl, rE, rfl⟩)
  have rR : gR.rd w5 (.agg #[.int .u64 1, .bool false, .string ⟨#[114]⟩, .slice none 0 0, .string ⟨#[]⟩, .slice (some ⟨w.heap.size + 1 + 1 + 1 + 1 + 1, 0, none⟩) 3 3]) := Nd.rd_shut (t := gR) (by simp [gR, Nd.id]) (by simp [gR, Nd.id]) (by simp [gR, Nd.label, maxLen, ByteArray.size]) (by simp [gR, Nd.text, maxLen, ByteArray.size]) (rdA_nil _)
    (kids_rd w5 (w.heap.size + 1 + 1 + 1 + 1 + 1) _ b5 gR.kids (by simp [gR, Nd.kids]) ⟨_, _, _, _, _, _, _, rfl, rA, ⟨_, _, _, _, _, _, _, rfl, rB, ⟨_, _, _, _, _, _, _, rfl, rD, rfl⟩⟩⟩)
  clear rA rB rC rD rE rF rX b1 b2 b3 b4 b5
  go_enter Try.func34, Try.ntmps34
  go_wp2_with fail
  rw [H.out]
  exact bodyPost_ret (results_cell_row rfl _ _ w.heap.size 26 _ (0, 0) _ rfl b0 Try.underlying26 rfl info26) rfl ⟨_, rfl, rR, hE⟩
end Go.Proofs.Ytamkgdkoddoehaa.Bw
