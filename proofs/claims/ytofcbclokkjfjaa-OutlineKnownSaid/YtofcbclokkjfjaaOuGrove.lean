/- Chapter 24: what is asked, done, and taken back, in plain Lean; lists of operations as the document's Apply reads them. -/
import Derived.Test.YtofcbclokkjfjaaOyAll
import Derived.Test.YtofcbclokkjfjaaOuOps
import Derived.Test.YtofcbclokkjfjaaOuWFacts
import Derived.Test.YtofcbclokkjfjaaOuJoin
import Derived.Laws.Rows
namespace Go.Proofs.Ytofcbclokkjfjaa.Wi
open Go.RowKit Go.Proofs.Ytofcbclokkjfjaa.Bw Go.Proofs.Ytofcbclokkjfjaa.Bs

def cpc (p : Pc) : Sy.Pc := ⟨p.keep, p.drop, p.put⟩
/-- An operation, as the document's Apply has it. -/
def cop (o : OpD) : Sy.OpD := ⟨o.kind, o.path, o.at_, o.to, o.id, o.leaf, o.label, o.key, o.value, o.gone, o.pcs.map cpc⟩
theorem cpcs_rd {w : World} {b : Nat} : ∀ {l : List Pc} {off : Nat}, rdPcs w b off l → Sy.rdPcs w b off (l.map cpc)
 | [], _, _ => trivial
 | _ :: _, _, ⟨h1, h2, h3, h4, h5⟩ => ⟨h1, h2, h3, h4, cpcs_rd h5⟩
theorem cP {w : World} {l : List Pc} {v : Value} (h : RdP w l v) : Sy.RdP w (l.map cpc) v := by
 obtain ⟨A, c, rfl, h1, h2, h3⟩ := h
 refine ⟨A, c, by rw [List.length_map], by rw [List.length_map]; exact h1, h2, fun h0 => ?_⟩
 rw [List.length_map] at h0
 obtain ⟨b, off, h4, h5⟩ := h3 h0
 exact ⟨b, off, h4, cpcs_rd h5⟩
theorem cop_rd {w : World} {o : OpD} {v : Value} (h : o.rd w v) : (cop o).rd w v := by
 obtain ⟨pv, tv, cv, rfl, h1, h2, h3, h4⟩ := h
 exact ⟨pv, tv, cv, rfl, h1, h2, cP h3, h4⟩
theorem cops_rd {w : World} {b : Nat} : ∀ {l : List OpD} {off : Nat}, rdOps w b off l → Sy.rdOps w b off (l.map cop)
 | [], _, _ => trivial
 | _ :: _, _, ⟨⟨pv, tv, cv, h0, h1, h2, h3, h4, h5, h6, h7, h8, h9, h10, h11⟩, hr⟩ => ⟨⟨pv, tv, cv, h0, h1, h2, h3, h4, h5, h6, h7, h8, h9, h10, cop_rd h11⟩, cops_rd hr⟩
theorem cL {w : World} {l : List OpD} {v : Value} (h : RdL w l v) : Sy.RdL w (l.map cop) v := by
 obtain ⟨A, c, rfl, h1, h2, h3⟩ := h
 refine ⟨A, c, by rw [List.length_map], by rw [List.length_map]; exact h1, h2, fun h0 => ?_⟩
 rw [List.length_map] at h0
 obtain ⟨b, off, h4, h5⟩ := h3 h0
 exact ⟨b, off, h4, cops_rd h5⟩

/-- An answer: the error, and the list. -/
abbrev Ans := Int × List Sy.OpD
def ansC : Except Int (List OpD) → Ans
 | .error k => (k, [])
 | .ok l => (0, l.map cop)
def mvO (p tq : List Int) (a : Int) : Sy.OpD := ⟨3, p, a, tq, 0, false, ⟨#[]⟩, ⟨#[]⟩, ⟨#[]⟩, false, []⟩
def ansM (p : List Int) : Except Int (List Int × Int) → Ans
 | .error k => (k, [])
 | .ok x => (0, [mvO p x.1 x.2])
/-- What is told: a list that reads in every world that has what was made since lo. -/
def AnsR (w : World) (a : Ans) (e : Ending) (W' : World) : Prop := Ext w W' ∧ ∃ v, e = .returned (.tuple #[v, .int .i64 a.1]) ∧ Late (fun k => k < w.heap.size) (fun W => Sy.RdL W a.2 v) W'
theorem nilL (W : World) : Sy.RdL W [] (.slice none 0 0) := ⟨none, 0, rfl, Nat.le_refl _, Nat.zero_le _, fun h => absurd h (Nat.lt_irrefl _)⟩
theorem AskR.ansR {w W' : World} {p : List Int} {o : Except Int (List Int × Int)} {e : Ending} (h : AskR w p o e W') : AnsR w (ansM p o) e W' := by
 obtain ⟨hE, h⟩ := h
 refine ⟨hE, ?_⟩
 cases o with
 | error k => exact ⟨_, h, fun W _ => nilL W⟩
 | ok x =>
  obtain ⟨v, rfl, hv⟩ := h
  refine ⟨v, rfl, fun W2 F => ?_⟩
  obtain ⟨g, pA, pc, tA, tc, rfl, h1, h2, h3, h4⟩ := MvV.fr hv F (fun k hk => hk)
  refine ⟨_, _, rfl, Nat.le_refl _, by simp [maxLen], fun _ => ⟨g, 0, rfl, ⟨_, _, _, h2.cell 0, h2.cell 1, h2.cell 2, h2.cell 3, h2.cell 4, h2.cell 5, h2.cell 6, h2.cell 7, h2.cell 8, h2.cell 9, h2.cell 10, ?_⟩, trivial⟩⟩
  exact ⟨_, _, _, rfl, RdS.of_owns h3, RdS.of_owns h4, ⟨none, 0, rfl, Nat.le_refl _, Nat.zero_le _, fun h => absurd h (Nat.lt_irrefl _)⟩, Nat.zero_le _, Nat.zero_le _, Nat.zero_le _, ⟨Int.le_refl _, by show (0 : Int) ≤ 18446744073709551615; decide⟩, ⟨by show (0 : Int) ≤ 3; decide, by show (3 : Int) ≤ 255; decide⟩⟩
theorem AskG.ansR {w W' : World} {o : Except Int (List OpD)} {e : Ending} (h : AskG lsV w o e W') : AnsR w (ansC o) e W' := by
 obtain ⟨hE, h⟩ := h
 refine ⟨hE, ?_⟩
 cases o with
 | error k => exact ⟨_, h, fun W _ => nilL W⟩
 | ok l =>
  obtain ⟨v, rfl, us, h1, h2⟩ := h
  refine ⟨v, rfl, fun W2 F => cL (RdL.of_row (owns_fr F h1 (fun q hq hh => by have := owns_base h1 q hq; omega)) ?_)⟩
  exact h2 W2 (F.mono fun k hk => .inl hk)

def fit (t : Nd) (l : List Sy.OpD) : Bool := decide (t.wt + Sy.totW l ≤ 400000) && l.all (fun o => decide (o.path.length ≤ 1000) && decide (o.to.length ≤ 1000))
/-- A tree behind what was asked; was it done; is it valid? -/
def doneC (t : Nd) (a : Ans) : Nd × Bool × Bool := if a.1 = 0 then ((Sy.allD t a.2).1, true, decide ((Sy.allD t a.2).2.2 = 0)) else (t, false, true)
def fitC (t : Nd) (a : Ans) : Bool := decide (a.1 = 0) && fit t a.2 || decide (a.1 ≠ 0)
def splC (t : Nd) (p : List Int) (at_ id : Int) : Ans := ansC (askG t p (splP at_ id))
def joiC (t : Nd) (p : List Int) : Ans := ansC (askG t p joinP)
def indC (t : Nd) (p : List Int) : Ans := ansM p (askP t p indP)
def outC (t : Nd) (p : List Int) : Ans := ansM p (askP t p outP)
def upC (t : Nd) (p : List Int) : Ans := ansM p (askP t p upP)
def downC (t : Nd) (p : List Int) : Ans := ansM p (askP t p downP)
/-- One thing is asked and done; where it was done another one takes it back. -/
def backs (t : Nd) (a : Ans) (f : Nd → Ans) : Bool :=
 fitC t a && (doneC t a).2.2 && (!(doneC t a).2.1 || (decide ((doneC t a).1.wt ≤ 100000) && fitC (doneC t a).1 (f (doneC t a).1) && (doneC (doneC t a).1 (f (doneC t a).1)).2.1 && (doneC (doneC t a).1 (f (doneC t a).1)).2.2 && (doneC (doneC t a).1 (f (doneC t a).1)).1.same true t))
def bump (p : List Int) (d : Int) : List Int := p.dropLast ++ [lastN p + d]
def backI (t : Nd) (p : List Int) : Bool :=
 backs t (indC t p) (fun m => match (indC t p).2 with | o :: _ => outC m (o.to ++ [o.at_]) | [] => (1, [])) && (!(doneC t (indC t p)).2.1 || decide ((indC t p).2 ≠ [])) && fitC t (outC t p) && (doneC t (outC t p)).2.2 && fitC t (joiC t p) && (doneC t (joiC t p)).2.2
def backT (t : Nd) (p : List Int) (at_ id : Int) : Bool := backs t (splC t p at_ id) (fun m => joiC m p)
def backM (t : Nd) (p : List Int) : Bool := decide (p = []) || (backs t (upC t p) (fun m => downC m (bump p (-1))) && backs t (downC t p) (fun m => upC m (bump p 1)) && backI t p)

/-! ### The grove of this chapter -/
def gX : Nd := .mk 3 true ⟨#[120]⟩ [] ⟨#[104, 105]⟩ []
def gC : Nd := .mk 4 false ⟨#[99]⟩ [] ⟨#[]⟩ []
def gA : Nd := .mk 2 false ⟨#[97]⟩ [(⟨#[107]⟩, ⟨#[49]⟩)] ⟨#[]⟩ [gX, gC]
def gB : Nd := .mk 5 true ⟨#[98]⟩ [(⟨#[97]⟩, ⟨#[49]⟩), (⟨#[98]⟩, ⟨#[]⟩)] ⟨#[98, 101, 101]⟩ []
def gF : Nd := .mk 8 false ⟨#[102]⟩ [] ⟨#[]⟩ []
def gE : Nd := .mk 7 false ⟨#[101]⟩ [] ⟨#[]⟩ [gF]
def gD : Nd := .mk 6 false ⟨#[100]⟩ [] ⟨#[]⟩ [gE]
def gG : Nd := .mk 20 true ⟨#[]⟩ [] ⟨#[120]⟩ []
def gH : Nd := .mk 21 true ⟨#[]⟩ [] ⟨#[]⟩ []
def gR : Nd := .mk 1 false ⟨#[114]⟩ [] ⟨#[]⟩ [gA, gB, gD, gG, gH]
def gPaths : List (List Int) := [[], [0], [0, 0], [0, 1], [1], [2], [2, 0], [2, 0, 0], [3], [4], [9], [-1], [0, 7], [1, 0]]
theorem grove_M : gPaths.all (fun p => backM gR p) = true := by kernel_rfl
theorem grove_T : gPaths.all (fun p => [-1, 0, 1, 2, 3, 4].all (fun a => backT gR p a 30)) = true := by kernel_rfl
def gBad : Nd := .mk 0 true ⟨#[]⟩ [] ⟨#[]⟩ []
theorem bad_M : backM gBad [0] = true := by kernel_rfl
theorem bad_T : backT gBad [0] 0 0 = true := by kernel_rfl
end Go.Proofs.Ytofcbclokkjfjaa.Wi
namespace Go.Proofs.Ytofcbclokkjfjaa.Wi
open Go.RowKit Go.Proofs.Ytofcbclokkjfjaa.Bw

theorem rdA_nil (w : World) : RdA w [] (.slice none 0 0) := ⟨none, 0, rfl, by simp, by simp [maxLen], fun h => absurd rfl h⟩
theorem rdK_nil (w : World) : RdK w [] (.slice none 0 0) := ⟨none, 0, rfl, by simp, by simp [maxLen], fun h => absurd rfl h⟩
theorem leaf_rd (W : World) (i : Int) (lf : Bool) (lb tx : ByteArray) (h0 : 0 ≤ i) (h1 : i ≤ 18446744073709551615) (h2 : lb.size ≤ maxLen) (h3 : tx.size ≤ maxLen) :
  (Nd.mk i lf lb [] tx []).rd W (.agg #[.int .u64 i, .bool lf, .string lb, .slice none 0 0, .string tx, .slice none 0 0]) :=
 Nd.rd_shut (t := .mk i lf lb [] tx []) h0 h1 h2 h3 (rdA_nil W) (rdK_nil W)
/-- A node whose children lie in a block of their own. -/
theorem kids_rd (W : World) (g : Nat) (cs : Array Value) (hb : NBox W g 26 cs) (ks : List Nd) (hn : ks.length ≤ 1000) (hr : rowK W ks cs.toList) : RdK W ks (.slice (some ⟨g, 0, none⟩) ks.length ks.length) :=
 ⟨_, _, rfl, Nat.le_refl _, by simp only [maxLen]; omega, fun _ => ⟨g, 0, rfl, rd_of_rowK hr fun j u hu => by
  rw [Nat.zero_add, hb.cell j]; simpa using hu⟩⟩


/-- The children of the grove's root, in their block. -/
def grv (a x e : Nat) (v : Value) : Array Value := #[.int .u64 2, .bool false, .string ⟨#[97]⟩, .slice (some ⟨a, 0, none⟩) 1 1, .string ⟨#[]⟩, .slice (some ⟨x, 0, none⟩) 2 2, .int .u64 5, .bool true, .string ⟨#[98]⟩, v, .string ⟨#[98, 101, 101]⟩, .slice none 0 0, .int .u64 6, .bool false, .string ⟨#[100]⟩, .slice none 0 0, .string ⟨#[]⟩, .slice (some ⟨e, 0, none⟩) 1 1]
def GrvR (a x e : Nat) (W : World) : Prop := gA.rd W (.agg #[.int .u64 2, .bool false, .string ⟨#[97]⟩, .slice (some ⟨a, 0, none⟩) 1 1, .string ⟨#[]⟩, .slice (some ⟨x, 0, none⟩) 2 2]) ∧ gD.rd W (.agg #[.int .u64 6, .bool false, .string ⟨#[100]⟩, .slice none 0 0, .string ⟨#[]⟩, .slice (some ⟨e, 0, none⟩) 1 1])
set_option maxRecDepth 100000 in
set_option maxHeartbeats 1000000 in
theorem grove_any (w : World) : Calls Try.prog 23 #[] w (Ret w fun r W => ∃ g a x e, w.heap.size ≤ g ∧ r = .agg #[.int .u64 1, .bool false, .string ⟨#[114]⟩, .slice none 0 0, .string ⟨#[]⟩, .slice (some ⟨g, 0, none⟩) 3 3] ∧ NBox W g 26 (grv a x e (.slice none 0 0)) ∧ Late (fun k => k = g) (GrvR a x e) W) := by
 obtain ⟨w0, hw0⟩ : ∃ W, w.alloc (.cells #[.int .u64 1, .bool false, .string ⟨#[114]⟩, .slice none 0 0, .string ⟨#[]⟩, .slice (some ⟨w.heap.size + 1 + 1 + 1 + 1 + 1, 0, none⟩) 3 3] 26) = W := ⟨_, rfl⟩
 have hs0 : w0.heap.size = w.heap.size + 1 := by rw [← hw0, World.size_alloc]
 have e0 : Ext w w0 := by rw [← hw0]; exact (Ext.refl _).alloc _
 have b0 : NBox w0 (w.heap.size) 26 #[.int .u64 1, .bool false, .string ⟨#[114]⟩, .slice none 0 0, .string ⟨#[]⟩, .slice (some ⟨w.heap.size + 1 + 1 + 1 + 1 + 1, 0, none⟩) 3 3] := by rw [← hw0]; exact NBox.new _ _ _
 obtain ⟨w1, hw1⟩ : ∃ W, w0.alloc (.cells #[.string ⟨#[107]⟩, .string ⟨#[49]⟩] 45) = W := ⟨_, rfl⟩
 have hs1 : w1.heap.size = w.heap.size + 1 + 1 := by rw [← hw1, World.size_alloc, hs0]
 have e1 : Ext w0 w1 := by rw [← hw1]; exact (Ext.refl _).alloc _
 have b1 : NBox w1 (w.heap.size + 1) 45 #[.string ⟨#[107]⟩, .string ⟨#[49]⟩] := by rw [← hw1, ← hs0]; exact NBox.new _ _ _
 replace b0 := b0.ext e1
 obtain ⟨w2, hw2⟩ : ∃ W, w1.alloc (.cells #[.int .u64 3, .bool true, .string ⟨#[120]⟩, .slice none 0 0, .string ⟨#[104, 105]⟩, .slice none 0 0, .int .u64 4, .bool false, .string ⟨#[99]⟩, .slice none 0 0, .string ⟨#[]⟩, .slice none 0 0] 26) = W := ⟨_, rfl⟩
 have hs2 : w2.heap.size = w.heap.size + 1 + 1 + 1 := by rw [← hw2, World.size_alloc, hs1]
 have e2 : Ext w1 w2 := by rw [← hw2]; exact (Ext.refl _).alloc _
 have b2 : NBox w2 (w.heap.size + 1 + 1) 26 #[.int .u64 3, .bool true, .string ⟨#[120]⟩, .slice none 0 0, .string ⟨#[104, 105]⟩, .slice none 0 0, .int .u64 4, .bool false, .string ⟨#[99]⟩, .slice none 0 0, .string ⟨#[]⟩, .slice none 0 0] := by rw [← hw2, ← hs1]; exact NBox.new _ _ _
 replace b0 := b0.ext e2
 replace b1 := b1.ext e2
 obtain ⟨w3, hw3⟩ : ∃ W, w2.alloc (.cells #[.int .u64 8, .bool false, .string ⟨#[102]⟩, .slice none 0 0, .string ⟨#[]⟩, .slice none 0 0] 26) = W := ⟨_, rfl⟩
 have hs3 : w3.heap.size = w.heap.size + 1 + 1 + 1 + 1 := by rw [← hw3, World.size_alloc, hs2]
 have e3 : Ext w2 w3 := by rw [← hw3]; exact (Ext.refl _).alloc _
 have b3 : NBox w3 (w.heap.size + 1 + 1 + 1) 26 #[.int .u64 8, .bool false, .string ⟨#[102]⟩, .slice none 0 0, .string ⟨#[]⟩, .slice none 0 0] := by rw [← hw3, ← hs2]; exact NBox.new _ _ _
 replace b0 := b0.ext e3
 replace b1 := b1.ext e3
 replace b2 := b2.ext e3
 obtain ⟨w4, hw4⟩ : ∃ W, w3.alloc (.cells #[.int .u64 7, .bool false, .string ⟨#[101]⟩, .slice none 0 0, .string ⟨#[]⟩, .slice (some ⟨w.heap.size + 1 + 1 + 1, 0, none⟩) 1 1] 26) = W := ⟨_, rfl⟩
 have hs4 : w4.heap.size = w.heap.size + 1 + 1 + 1 + 1 + 1 := by rw [← hw4, World.size_alloc, hs3]
 have e4 : Ext w3 w4 := by rw [← hw4]; exact (Ext.refl _).alloc _
 have b4 : NBox w4 (w.heap.size + 1 + 1 + 1 + 1) 26 #[.int .u64 7, .bool false, .string ⟨#[101]⟩, .slice none 0 0, .string ⟨#[]⟩, .slice (some ⟨w.heap.size + 1 + 1 + 1, 0, none⟩) 1 1] := by rw [← hw4, ← hs3]; exact NBox.new _ _ _
 replace b0 := b0.ext e4
 replace b1 := b1.ext e4
 replace b2 := b2.ext e4
 replace b3 := b3.ext e4
 obtain ⟨w5, hw5⟩ : ∃ W, w4.alloc (.cells #[.int .u64 2, .bool false, .string ⟨#[97]⟩, .slice (some ⟨w.heap.size + 1, 0, none⟩) 1 1, .string ⟨#[]⟩, .slice (some ⟨w.heap.size + 1 + 1, 0, none⟩) 2 2, .int .u64 5, .bool true, .string ⟨#[98]⟩, .slice none 0 0, .string ⟨#[98, 101, 101]⟩, .slice none 0 0, .int .u64 6, .bool false, .string ⟨#[100]⟩, .slice none 0 0, .string ⟨#[]⟩, .slice (some ⟨w.heap.size + 1 + 1 + 1 + 1, 0, none⟩) 1 1] 26) = W := ⟨_, rfl⟩
 have hs5 : w5.heap.size = w.heap.size + 1 + 1 + 1 + 1 + 1 + 1 := by rw [← hw5, World.size_alloc, hs4]
 have e5 : Ext w4 w5 := by rw [← hw5]; exact (Ext.refl _).alloc _
 have b5 : NBox w5 (w.heap.size + 1 + 1 + 1 + 1 + 1) 26 #[.int .u64 2, .bool false, .string ⟨#[97]⟩, .slice (some ⟨w.heap.size + 1, 0, none⟩) 1 1, .string ⟨#[]⟩, .slice (some ⟨w.heap.size + 1 + 1, 0, none⟩) 2 2, .int .u64 5, .bool true, .string ⟨#[98]⟩, .slice none 0 0, .string ⟨#[98, 101, 101]⟩, .slice none 0 0, .int .u64 6, .bool false, .string ⟨#[100]⟩, .slice none 0 0, .string ⟨#[]⟩, .slice (some ⟨w.heap.size + 1 + 1 + 1 + 1, 0, none⟩) 1 1] := by rw [← hw5, ← hs4]; exact NBox.new _ _ _
 replace b0 := b0.ext e5
 replace b1 := b1.ext e5
 replace b2 := b2.ext e5
 replace b3 := b3.ext e5
 replace b4 := b4.ext e5
 have hE : Ext w w5 := ((((e0.trans e1).trans e2).trans e3).trans e4).trans e5
 have H : Hid ((((((w.alloc (.cells #[.int .u64 1, .bool false, .string ⟨#[114]⟩, .slice none 0 0, .string ⟨#[]⟩, .slice (some ⟨w.heap.size + 1 + 1 + 1 + 1 + 1, 0, none⟩) 3 3] 26)).alloc (.cells #[.string ⟨#[107]⟩, .string ⟨#[49]⟩] 45)).alloc (.cells #[.int .u64 3, .bool true, .string ⟨#[120]⟩, .slice none 0 0, .string ⟨#[104, 105]⟩, .slice none 0 0, .int .u64 4, .bool false, .string ⟨#[99]⟩, .slice none 0 0, .string ⟨#[]⟩, .slice none 0 0] 26)).alloc (.cells #[.int .u64 8, .bool false, .string ⟨#[102]⟩, .slice none 0 0, .string ⟨#[]⟩, .slice none 0 0] 26)).alloc (.cells #[.int .u64 7, .bool false, .string ⟨#[101]⟩, .slice none 0 0, .string ⟨#[]⟩, .slice (some ⟨w.heap.size + 1 + 1 + 1, 0, none⟩) 1 1] 26)).alloc (.cells #[.int .u64 2, .bool false, .string ⟨#[97]⟩, .slice (some ⟨w.heap.size + 1, 0, none⟩) 1 1, .string ⟨#[]⟩, .slice (some ⟨w.heap.size + 1 + 1, 0, none⟩) 2 2, .int .u64 5, .bool true, .string ⟨#[98]⟩, .slice none 0 0, .string ⟨#[98, 101, 101]⟩, .slice none 0 0, .int .u64 6, .bool false, .string ⟨#[100]⟩, .slice none 0 0, .string ⟨#[]⟩, .slice (some ⟨w.heap.size + 1 + 1 + 1 + 1, 0, none⟩) 1 1] 26) = w5) := by rw [hw0, hw1, hw2, hw3, hw4, hw5]; trivial
 clear hw0 hw1 hw2 hw3 hw4 hw5 hs0 hs1 hs2 hs3 hs4 hs5 e0 e1 e2 e3 e4 e5
 have mx : (1000 : Nat) ≤ maxLen := by simp [maxLen]
 have HL : Hid (Late (fun k => k = w.heap.size + 1 + 1 + 1 + 1 + 1) (GrvR (w.heap.size + 1) (w.heap.size + 1 + 1) (w.heap.size + 1 + 1 + 1 + 1)) w5) := by
  intro W2 F
  replace b1 := NBox.fr F b1 (by omega)
  replace b2 := NBox.fr F b2 (by omega)
  replace b3 := NBox.fr F b3 (by omega)
  replace b4 := NBox.fr F b4 (by omega)
  have rX := leaf_rd W2 3 true ⟨#[120]⟩ ⟨#[104, 105]⟩ (by omega) (by omega) (by simp [maxLen, ByteArray.size]) (by simp [maxLen, ByteArray.size])
  have rC := leaf_rd W2 4 false ⟨#[99]⟩ ⟨#[]⟩ (by omega) (by omega) (by simp [maxLen, ByteArray.size]) (by simp [maxLen, ByteArray.size])
  have rF := leaf_rd W2 8 false ⟨#[102]⟩ ⟨#[]⟩ (by omega) (by omega) (by simp [maxLen, ByteArray.size]) (by simp [maxLen, ByteArray.size])
  have rA : gA.rd W2 (.agg #[.int .u64 2, .bool false, .string ⟨#[97]⟩, .slice (some ⟨w.heap.size + 1, 0, none⟩) 1 1, .string ⟨#[]⟩, .slice (some ⟨w.heap.size + 1 + 1, 0, none⟩) 2 2]) := Nd.rd_shut (t := gA) (by simp [gA, Nd.id]) (by simp [gA, Nd.id]) (by simp [gA, Nd.label, maxLen, ByteArray.size]) (by simp [gA, Nd.text, maxLen, ByteArray.size]) ⟨_, 1, rfl, by simp [gA, Nd.attrs], by simp [maxLen], fun _ => ⟨_, 0, rfl, b1.cell 0, b1.cell 1, show 1 ≤ maxLen by simp [maxLen], show 1 ≤ maxLen by simp [maxLen], trivial⟩⟩
   (kids_rd W2 (w.heap.size + 1 + 1) _ b2 gA.kids (by simp [gA, Nd.kids]) ⟨_, _, _, _, _, _, _, rfl, rX, ⟨_, _, _, _, _, _, _, rfl, rC, rfl⟩⟩)
  have rE : gE.rd W2 (.agg #[.int .u64 7, .bool false, .string ⟨#[101]⟩, .slice none 0 0, .string ⟨#[]⟩, .slice (some ⟨w.heap.size + 1 + 1 + 1, 0, none⟩) 1 1]) := Nd.rd_shut (t := gE) (by simp [gE, Nd.id]) (by simp [gE, Nd.id]) (by simp [gE, Nd.label, maxLen, ByteArray.size]) (by simp [gE, Nd.text, maxLen, ByteArray.size]) (rdA_nil _)
   (kids_rd W2 (w.heap.size + 1 + 1 + 1) _ b3 gE.kids (by simp [gE, Nd.kids]) ⟨_, _, _, _, _, _, _, rfl, rF, rfl⟩)
  have rD : gD.rd W2 (.agg #[.int .u64 6, .bool false, .string ⟨#[100]⟩, .slice none 0 0, .string ⟨#[]⟩, .slice (some ⟨w.heap.size + 1 + 1 + 1 + 1, 0, none⟩) 1 1]) := Nd.rd_shut (t := gD) (by simp [gD, Nd.id]) (by simp [gD, Nd.id]) (by simp [gD, Nd.label, maxLen, ByteArray.size]) (by simp [gD, Nd.text, maxLen, ByteArray.size]) (rdA_nil _)
   (kids_rd W2 (w.heap.size + 1 + 1 + 1 + 1) _ b4 gD.kids (by simp [gD, Nd.kids]) ⟨_, _, _, _, _, _, _, rfl, rE, rfl⟩)
  exact ⟨rA, rD⟩
 have HB5 := Lib.hid b5
 clear b1 b2 b3 b4 b5
 go_enter Try.func23, Try.ntmps23
 go_wp2_with fail
 rw [H.out]
 exact bodyPost_ret (results_cell_row rfl _ _ w.heap.size 26 _ (0, 0) _ rfl b0 Try.underlying26 rfl info26) rfl ⟨_, rfl, ⟨_, _, _, _, by omega, rfl, HB5.out, HL.out⟩, hE⟩
end Go.Proofs.Ytofcbclokkjfjaa.Wi
