/- Chapter 24: Split (19). (Printed by gousplitp.py.) -/
import Derived.Test.YtofcbclokkjfjaaOuSplit
namespace Go.Proofs.Ytofcbclokkjfjaa.Wi
open Go.RowKit Go.Proofs.Ytofcbclokkjfjaa.Bw Go.Proofs.Ytofcbclokkjfjaa.Bs

theorem enters39 : ∀ args W, (callFunc 39 args).run Try.prog W = .ok (.enter 39 args) W := fun args W => by kernel_rfl
set_option maxRecDepth 100000 in
set_option maxHeartbeats 2000000 in
theorem split19_any (cut id : Int) (t : Nd) (p : List Int) (tv pv : Value) (w : World) (ht : t.rd w tv) (hp : RdI w p pv) (hwt : t.wt ≤ 1000000) (hpl : p.length ≤ 10000) (hid : 0 ≤ id ∧ id ≤ 18446744073709551615) : Calls Try.prog 19 #[tv, pv, .int .i64 cut, .int .u64 id] w (AskG lsV w (askG t p (splP cut id))) := by
 have hmf : ∀ (fn : Fn) (first cap : Array Value) (w : World), (Instr.makeFunc fn first cap).run Try.prog w = .ok (.func fn first cap) w := fun _ _ _ _ => rfl
 obtain ⟨tA, tc, tK, td, rfl⟩ := rd_open6 ht
 obtain ⟨w1, hw1⟩ : ∃ W, ((w.alloc (.cells #[.int .u64 t.id, .bool t.leaf, .string t.label, .slice tA t.attrs.length tc, .string t.text, .slice tK t.kids.length td] 26)).alloc (.cells #[.int .i64 cut] 3)).alloc (.cells #[.int .u64 id] 22) = W := ⟨_, rfl⟩
 obtain ⟨T, hT⟩ : ∃ T, w.heap.size = T := ⟨_, rfl⟩
 have s1 : (w.alloc (.cells #[.int .u64 t.id, .bool t.leaf, .string t.label, .slice tA t.attrs.length tc, .string t.text, .slice tK t.kids.length td] 26)).heap.size = T + 1 := by rw [World.size_alloc, hT]
 have s2 : ((w.alloc (.cells #[.int .u64 t.id, .bool t.leaf, .string t.label, .slice tA t.attrs.length tc, .string t.text, .slice tK t.kids.length td] 26)).alloc (.cells #[.int .i64 cut] 3)).heap.size = T + 1 + 1 := by rw [World.size_alloc, s1]
 have E1 : Ext w w1 := by rw [← hw1]; exact (((Ext.refl w).alloc _).alloc _).alloc _
 have bT : NBox w1 T 26 #[.int .u64 t.id, .bool t.leaf, .string t.label, .slice tA t.attrs.length tc, .string t.text, .slice tK t.kids.length td] := by rw [← hw1, ← hT]; exact (NBox.new w 26 _).ext (((Ext.refl _).alloc _).alloc _)
 have bC : NBox w1 (T + 1) 3 #[.int .i64 cut] := by rw [← hw1, ← s1]; exact (NBox.new _ 3 _).ext ((Ext.refl _).alloc _)
 have bI : NBox w1 (T + 1 + 1) 22 #[.int .u64 id] := by rw [← hw1, ← s2]; exact NBox.new _ _ _
 have c0 := bC.cell 0
 have i0 := bI.cell 0
 have hc := ask26_gen lsV resV_ls 39 #[.pointer (some ⟨T + 1, 0, none⟩), .pointer (some ⟨T + 1 + 1, 0, none⟩)] enters39 (splP cut id) w1 t p (fun s sv w0 w2 hs X1 X2 hsv hok => by
  obtain ⟨g1, g2⟩ := spot_wt hs
  have g3 := attrs_wt s.x
  exact spl39_any cut id (T + 1) (T + 1 + 1) s sv w0 w2 X2 hsv hok ((X1.trans X2).cell c0) ((X1.trans X2).cell i0) hid (by rw [g2]; exact hpl) (by omega)) _ _ (Nd.rd_ext E1 ht) (RdS.ext E1 hp) hwt hpl
 have HE := Lib.hid E1
 have HW := Lib.hid hw1
 have HTT := Lib.hid hT
 obtain ⟨o, ho⟩ : ∃ o, askG t p (splP cut id) = o := ⟨_, rfl⟩
 rw [ho] at hc ⊢
 obtain ⟨t0, t1, t2, t3, t4, t5⟩ := bT.c6
 obtain ⟨aA, ac, rfl, -⟩ := hp
 clear hw1 hT s1 s2 E1 bT bC bI c0 i0 ht ho
 go_enter Try.func19, Try.ntmps19
 go_upto_region 1 with fail
 rw [HW.out, HTT.out]
 go_wp2_with fail
 refine hc.mono ?_
 clear hc t0 t1 t2 t3 t4 t5
 rintro e w2 ⟨hE, hP⟩
 have HX := Lib.hid (HE.out.trans hE)
 clear hE
 cases o with
 | error k =>
  subst hP
  go_wp2_with fail
  go_ret2
  exact ⟨HX.out, rfl⟩
 | ok x =>
  obtain ⟨v, rfl, hv⟩ := hP
  have HV := Lib.hid (resV_ls.low hv HE.out.size)
  obtain ⟨A, n, c, rfl⟩ := resV_ls.sl hv
  clear hv
  go_wp2_with fail
  go_ret2
  exact ⟨HX.out, _, rfl, HV.out⟩
end Go.Proofs.Ytofcbclokkjfjaa.Wi
namespace Go.Proofs.Ytofcbclokkjfjaa.Wi
open Go.RowKit Go.Proofs.Ytofcbclokkjfjaa.Bw Go.Proofs.Ytofcbclokkjfjaa.Bs

def exN : Nd := .mk 0 false ⟨#[114]⟩ [] ⟨#[]⟩ [.mk 0 false ⟨#[97]⟩ [] ⟨#[]⟩ [], .mk 0 false ⟨#[98]⟩ [] ⟨#[]⟩ [], .mk 0 false ⟨#[99]⟩ [] ⟨#[]⟩ [.mk 0 true ⟨#[120]⟩ [] ⟨#[104, 101, 108, 108, 111]⟩ []]]
theorem exN_rd {W : World} {X : Nat} (h0 : NBox W X 26 #[.int .u64 0, .bool true, .string ⟨#[120]⟩, .slice none 0 0, .string ⟨#[104, 101, 108, 108, 111]⟩, .slice none 0 0])
  (h1 : NBox W (X + 1) 26 #[.int .u64 0, .bool false, .string ⟨#[97]⟩, .slice none 0 0, .string ⟨#[]⟩, .slice none 0 0, .int .u64 0, .bool false, .string ⟨#[98]⟩, .slice none 0 0, .string ⟨#[]⟩, .slice none 0 0, .int .u64 0, .bool false, .string ⟨#[99]⟩, .slice none 0 0, .string ⟨#[]⟩, .slice (some ⟨X, 0, none⟩) 1 1]) :
  exN.rd W (.agg #[.int .u64 0, .bool false, .string ⟨#[114]⟩, .slice none 0 0, .string ⟨#[]⟩, .slice (some ⟨X + 1, 0, none⟩) 3 3]) := by
 have hn : ∀ (t : ByteArray), RdA W [] (.slice none 0 0) := fun _ => ⟨none, 0, rfl, by decide, by decide, fun h => absurd rfl h⟩
 have leaf : ∀ (f : Bool) (lb tx : ByteArray), okStr lb → okStr tx → (Nd.mk 0 f lb [] tx []).rd W (.agg #[.int .u64 0, .bool f, .string lb, .slice none 0 0, .string tx, .slice none 0 0]) := fun f lb tx k1 k2 => by
  unfold Nd.rd
  exact ⟨_, _, _, rfl, by decide, k1, k2, hn lb, by decide, by decide, fun h => absurd rfl h⟩
 unfold exN
 unfold Nd.rd
 refine ⟨_, _, _, rfl, by decide, (show (1 : Nat) ≤ maxLen by decide), (show (0 : Nat) ≤ maxLen by decide), hn ⟨#[]⟩, (show 3 ≤ 3 by decide), (show 3 ≤ maxLen by decide), fun _ => ⟨X + 1, 0, rfl, ?_⟩⟩
 refine ⟨⟨_, _, _, _, _, _, h1.cell 0, h1.cell 1, h1.cell 2, h1.cell 3, h1.cell 4, h1.cell 5, leaf _ _ _ (show (1 : Nat) ≤ maxLen by decide) (show (0 : Nat) ≤ maxLen by decide)⟩, ⟨_, _, _, _, _, _, h1.cell 6, h1.cell 7, h1.cell 8, h1.cell 9, h1.cell 10, h1.cell 11, leaf _ _ _ (show (1 : Nat) ≤ maxLen by decide) (show (0 : Nat) ≤ maxLen by decide)⟩, ⟨_, _, _, _, _, _, h1.cell 12, h1.cell 13, h1.cell 14, h1.cell 15, h1.cell 16, h1.cell 17, ?_⟩, trivial⟩
 unfold Nd.rd
 exact ⟨_, _, _, rfl, by decide, (show (1 : Nat) ≤ maxLen by decide), (show (0 : Nat) ≤ maxLen by decide), hn ⟨#[]⟩, (show 1 ≤ 1 by decide), (show 1 ≤ maxLen by decide), fun _ => ⟨X, 0, rfl, ⟨_, _, _, _, _, _, h0.cell 0, h0.cell 1, h0.cell 2, h0.cell 3, h0.cell 4, h0.cell 5, leaf _ _ _ (show (1 : Nat) ≤ maxLen by decide) (show (5 : Nat) ≤ maxLen by decide)⟩, trivial⟩⟩
theorem ex1 : askP exN [1] indP = .ok ([0], 0) := by kernel_rfl
theorem ex2 : askP exN [2, 0] outP = .ok ([], 3) := by kernel_rfl
theorem ex3 : askP exN [1] upP = .ok ([], 0) := by kernel_rfl
theorem ex4 : askP exN [1] downP = .ok ([], 3) := by kernel_rfl
theorem ex5 : askG exN [2, 0] (splP 2 9) = .ok [editO [2, 0] ⟨2, 3, ⟨#[]⟩⟩, newO [2] 1 9 ⟨#[120]⟩, editO [2, 1] ⟨0, 0, ⟨#[108, 108, 111]⟩⟩] := by kernel_rfl
theorem ex6 : askP exN [0] indP = .error 4 := by kernel_rfl
theorem ex_wt : exN.wt ≤ 1000000 := by decide +kernel
end Go.Proofs.Ytofcbclokkjfjaa.Wi
