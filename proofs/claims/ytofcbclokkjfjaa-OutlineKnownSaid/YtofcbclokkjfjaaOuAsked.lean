/- Chapter 24: ask (26); Indent, Outdent, Up, Down (9, 11, 14, 16). (Printed by gouask.py.) -/
import Derived.Test.YtofcbclokkjfjaaOuClos
namespace Go.Proofs.Ytofcbclokkjfjaa.Wi
open Go.RowKit Go.Proofs.Ytofcbclokkjfjaa.Bw Go.Proofs.Ytofcbclokkjfjaa.Bs

theorem at_cnt : ∀ (q : List Int) (t y : Nd), t.at? q = some y → y.cnt ≤ t.cnt
 | [], t, y, h => by rw [at_nil] at h; cases h; exact Nat.le_refl _
 | i :: q, t, y, h => by
  by_cases hi : i < 0 ∨ (t.kids.length : Int) ≤ i
  ·rw [at_none hi] at h; cases h
  ·have hlt : i.toNat < t.kids.length := by omega
   have hg := List.getElem?_eq_getElem hlt
   rw [at_some (by omega) hg] at h
   have h1 := at_cnt q _ y h
   have h2 := cntK_mem (List.mem_of_getElem? hg)
   have h3 := Nd.cnt_eq t
   omega
theorem len_cntK : ∀ (l : List Nd), l.length ≤ cntK l
 | [] => Nat.zero_le _
 | k :: r => by
  have := len_cntK r
  have := Nd.cnt_eq k
  rw [List.length_cons, cntK]
  omega
theorem kids_cnt (t : Nd) : t.kids.length ≤ t.cnt := by
 have h1 := Nd.cnt_eq t
 have h2 := len_cntK t.kids
 omega
theorem spot_ok {t : Nd} {p : List Int} {s : SpD} (h : spotP t p = .ok s) (hpl : p.length ≤ 10000) (hc : t.cnt ≤ 1000000) : SpOk s := by
 have h0 := spot_in h
 obtain ⟨h1, h2, -, -⟩ := h0
 unfold spotP at h
 split at h
 ·cases h
 ·split at h
  ·cases h
  next hne =>
   rcases ha : t.at? p with _ | x
   ·rw [ha] at h; cases h
   ·rw [ha] at h
    cases h
    rw [← snoc_last hne] at ha
    obtain ⟨y, h3, h4, h5, h6⟩ := at_snoc _ _ _ _ ha
    have hy : (t.at? p.dropLast).getD Nd.zero = y := by rw [h3]; rfl
    have hk := kids_cnt y
    have hk2 := at_cnt _ _ _ h3
    refine ⟨h1, h2, ?_, ?_, fun hu => ?_⟩
    ·show p.dropLast.length ≤ 10000
     rw [List.length_dropLast]; omega
    ·show ((t.at? p.dropLast).getD Nd.zero).kids.length ≤ _
     rw [hy]; omega
    ·show 0 ≤ lastN p.dropLast ∧ lastN p.dropLast < _
     have hu : p.dropLast ≠ [] := hu
     rw [← snoc_last hu] at h3
     obtain ⟨z, g3, g4, g5, -⟩ := at_snoc _ _ _ _ h3
     have hz := kids_cnt z
     have hz2 := at_cnt _ _ _ g3
     exact ⟨g4, by omega⟩
def askP (t : Nd) (p : List Int) (res : SpD → Except Int (List Int × Int)) : Except Int (List Int × Int) := match spotP t p with
 | .error k => .error k
 | .ok s => res s
/-- What ask tells. -/
def AskR (w : World) (p : List Int) (o : Except Int (List Int × Int)) (e : Ending) (W' : World) : Prop := Ext w W' ∧ match o with
 | .error k => e = .returned (.tuple #[.slice none 0 0, .int .i64 k])
 | .ok x => ∃ v, e = .returned (.tuple #[v, .int .i64 0]) ∧ MvV w.heap.size p x.1 x.2 v W'
set_option maxRecDepth 100000 in
set_option maxHeartbeats 4000000 in
theorem ask26_any (fn : FuncId) (hfn : ∀ args W, (callFunc fn args).run Try.prog W = .ok (.enter fn args) W) (res : SpD → Except Int (List Int × Int))
  (hcl : ∀ (s : SpD) (sv : Value) (w0 w : World), Ext w0 w → SpV w0 w s sv → SpOk s → Calls Try.prog fn #[sv] w (ClR w0 w s.p (res s)))
  (t : Nd) (p : List Int) (tv pv : Value) (w : World) (ht : t.rd w tv) (hp : RdI w p pv) (hwt : t.wt ≤ 1000000) (hpl : p.length ≤ 10000) : Calls Try.prog 26 #[tv, pv, .func (.func fn) #[] #[]] w (AskR w p (askP t p res)) := by
 have hmf : ∀ (fn : Fn) (first cap : Array Value) (w : World), (Instr.makeFunc fn first cap).run Try.prog w = .ok (.func fn first cap) w := fun _ _ _ _ => rfl
 obtain ⟨tA, tc, tK, td, rfl⟩ := rd_open6 ht
 obtain ⟨w1, hw1⟩ : ∃ W, ((w.alloc (.cells #[.int .u64 t.id, .bool t.leaf, .string t.label, .slice tA t.attrs.length tc, .string t.text, .slice tK t.kids.length td] 26)).alloc (.cells #[.slice none 0 0] 31)).alloc (.cells #[.int .i64 0] 32) = W := ⟨_, rfl⟩
 obtain ⟨T, hT⟩ : ∃ T, w.heap.size = T := ⟨_, rfl⟩
 have s1 : (w.alloc (.cells #[.int .u64 t.id, .bool t.leaf, .string t.label, .slice tA t.attrs.length tc, .string t.text, .slice tK t.kids.length td] 26)).heap.size = T + 1 := by rw [World.size_alloc, hT]
 have s2 : ((w.alloc (.cells #[.int .u64 t.id, .bool t.leaf, .string t.label, .slice tA t.attrs.length tc, .string t.text, .slice tK t.kids.length td] 26)).alloc (.cells #[.slice none 0 0] 31)).heap.size = T + 1 + 1 := by rw [World.size_alloc, s1]
 have E1 : Ext w w1 := by rw [← hw1]; exact (((Ext.refl w).alloc _).alloc _).alloc _
 have bT : NBox w1 T 26 #[.int .u64 t.id, .bool t.leaf, .string t.label, .slice tA t.attrs.length tc, .string t.text, .slice tK t.kids.length td] := by rw [← hw1, ← hT]; exact (NBox.new w 26 _).ext (((Ext.refl _).alloc _).alloc _)
 have bL : NBox w1 (T + 1) 31 #[.slice none 0 0] := by rw [← hw1, ← s1]; exact (NBox.new _ 31 _).ext ((Ext.refl _).alloc _)
 have bE : NBox w1 (T + 1 + 1) 32 #[.int .i64 0] := by rw [← hw1, ← s2]; exact NBox.new _ _ _
 have hc := at47_any t p _ _ w1 (Nd.rd_ext E1 ht) (RdS.ext E1 hp) hwt (by omega)
 have hcnt : t.cnt ≤ 1000000 := by have := Nd.cnt_wt t; omega
 have HE := Lib.hid E1
 have HL := Lib.hid bL
 have HEE := Lib.hid bE
 have HW := Lib.hid hw1
 have HTT := Lib.hid hT
 have HLW := Lib.hid (show T + 1 < w1.heap.size ∧ T + 1 + 1 < w1.heap.size from ⟨bL.lt, bE.lt⟩)
 have HwT := Lib.hid (show w.heap.size ≤ T by omega)
 have HAP := Lib.hid (show askP t p res = match spotP t p with | .error k => .error k | .ok s => res s from rfl)
 have HSO := Lib.hid (fun s (h : spotP t p = .ok s) => spot_ok h hpl hcnt)
 have HSI := Lib.hid (fun s (h : spotP t p = .ok s) => (spot_in h).2.2.1)
 have HCL := Lib.hid hcl
 obtain ⟨o, ho⟩ : ∃ o, spotP t p = o := ⟨_, rfl⟩
 rw [ho] at hc HAP HSO HSI
 obtain ⟨t0, t1, t2, t3, t4, t5⟩ := bT.c6
 obtain ⟨aA, ac, rfl, -⟩ := hp
 clear hw1 hT s1 s2 E1 bT bL bE ht hcl ho
 go_enter_defers Try.func26, Try.ntmps26
 go_wp2_with fail
 rw [HW.out, HTT.out]
 go_wp2_with fail
 refine hc.mono ?_
 clear hc t0 t1 t2 t3 t4 t5
 rintro e w2 ⟨hE, hP⟩
 have HE2 := Lib.hid (HE.out.trans hE)
 have hL2 := HL.out.ext hE
 have hE2 := HEE.out.ext hE
 cases o with
 | error k =>
  subst hP
  clear hE
  go_wp2_with fail
  refine leaves_cons (f := 46) (args := #[.pointer (some ⟨T + 1, 0, none⟩), .pointer (some ⟨T + 1 + 1, 0, none⟩)]) (by simp) (by simp [go_sem]) ?_
  refine (ask_throw k (T + 1) (T + 1 + 1) _ _ _ hL2 hE2).mono ?_
  rintro e u' w'' ⟨rfl, rfl, rfl⟩
  have F1 := Fr.setCell w2 (T + 1) 0 (.slice none 0 0)
  have F2 := Fr.setCell (w2.setCell ⟨T + 1, 0, none⟩ (.slice none 0 0)) (T + 1 + 1) 0 (.int .i64 k)
  have b1 := ((hL2.set 0 (.slice none 0 0)).fr F2 (by omega)).cell 0
  have b2 := ((hE2.fr F1 (by omega)).set 0 (.int .i64 k)).cell 0
  have c1 : ((w2.setCell ⟨T + 1, 0, none⟩ (.slice none 0 0)).setCell ⟨T + 1 + 1, 0, none⟩ (.int .i64 k)).cell? ⟨T + 1, 0, none⟩ = some (.slice none 0 0) := b1
  have c2 : ((w2.setCell ⟨T + 1, 0, none⟩ (.slice none 0 0)).setCell ⟨T + 1 + 1, 0, none⟩ (.int .i64 k)).cell? ⟨T + 1 + 1, 0, none⟩ = some (.int .i64 k) := b2
  have HX := Fr.ext (Fr.ext HE2.out F1 (fun q hq => by rw [show q = T + 1 from hq]; have := HwT.out; omega)) F2 (fun q hq => by rw [show q = T + 1 + 1 from hq]; have := HwT.out; omega)
  have HR : askP t p res = .error k := HAP.out
  simp [Leaves, settle, results, Try.results26, go_sem, c1, c2]
  rw [HR]
  exact ⟨HX, rfl⟩
 | ok s =>
  obtain ⟨sv, rfl, hs⟩ := hP
  have hso := HSO.out s rfl
  have HPP := Lib.hid (HSI.out s rfl)
  have hc := HCL.out s sv w1 w2 hE hs hso
  have HR2 : Hid (askP t p res = res s) := HAP
  obtain ⟨r, hr⟩ : ∃ r, res s = r := ⟨_, rfl⟩
  rw [hr] at hc HR2
  obtain ⟨q1, q2, q3, q4, q5, q6, q7, q8, q9, q10, q11, q12, rfl, -⟩ := hs
  clear hE hso hr
  go_wp2_with fail
  refine hc.mono ?_
  clear hc
  rintro e w3 ⟨hE, hP⟩
  have HE3 := Lib.hid (HE2.out.trans hE)
  have hL3 := hL2.ext hE
  have hE3 := hE2.ext hE
  clear hL2 hE2 hE
  cases r with
  | error k =>
   subst hP
   go_wp2_with fail
   refine leaves_cons (f := 46) (args := #[.pointer (some ⟨T + 1, 0, none⟩), .pointer (some ⟨T + 1 + 1, 0, none⟩)]) (by simp) (by simp [go_sem]) ?_
   refine (ask_throw k (T + 1) (T + 1 + 1) _ _ _ hL3 hE3).mono ?_
   rintro e u' w'' ⟨rfl, rfl, rfl⟩
   have F1 := Fr.setCell w3 (T + 1) 0 (.slice none 0 0)
   have F2 := Fr.setCell (w3.setCell ⟨T + 1, 0, none⟩ (.slice none 0 0)) (T + 1 + 1) 0 (.int .i64 k)
   have b1 := ((hL3.set 0 (.slice none 0 0)).fr F2 (by omega)).cell 0
   have b2 := ((hE3.fr F1 (by omega)).set 0 (.int .i64 k)).cell 0
   have c1 : ((w3.setCell ⟨T + 1, 0, none⟩ (.slice none 0 0)).setCell ⟨T + 1 + 1, 0, none⟩ (.int .i64 k)).cell? ⟨T + 1, 0, none⟩ = some (.slice none 0 0) := b1
   have c2 : ((w3.setCell ⟨T + 1, 0, none⟩ (.slice none 0 0)).setCell ⟨T + 1 + 1, 0, none⟩ (.int .i64 k)).cell? ⟨T + 1 + 1, 0, none⟩ = some (.int .i64 k) := b2
   have HX := Fr.ext (Fr.ext HE3.out F1 (fun q hq => by rw [show q = T + 1 from hq]; have := HwT.out; omega)) F2 (fun q hq => by rw [show q = T + 1 + 1 from hq]; have := HwT.out; omega)
   simp [Leaves, settle, results, Try.results26, go_sem, c1, c2]
   rw [HR2.out]
   exact ⟨HX, rfl⟩
  | ok x =>
   obtain ⟨v, rfl, hv⟩ := hP
   have HV := Lib.hid hv
   obtain ⟨g, pA2, pc2, tA2, tc2, rfl, -⟩ := hv
   have F1 := Fr.setCell w3 (T + 1) 0 (.slice (some ⟨g, 0, none⟩) 1 1)
   have F2 := Fr.setCell (w3.setCell ⟨T + 1, 0, none⟩ (.slice (some ⟨g, 0, none⟩) 1 1)) (T + 1 + 1) 0 (.int .i64 0)
   have d1 := hL3.cell 0
   have d2 := hL3.frozen 0
   have hE4 := hE3.fr F1 (by omega)
   have d3 := hE4.cell 0
   have d4 := hE4.frozen 0
   have HB1 := Lib.hid (((hL3.set 0 (.slice (some ⟨g, 0, none⟩) 1 1)).fr F2 (by omega)).cell 0)
   have HB2 := Lib.hid ((hE4.set 0 (.int .i64 0)).cell 0)
   have HX := Lib.hid (Fr.ext (Fr.ext HE3.out F1 (fun q hq => by rw [show q = T + 1 from hq]; have := HwT.out; omega)) F2 (fun q hq => by rw [show q = T + 1 + 1 from hq]; have := HwT.out; omega))
   have HV2 := Lib.hid (((HV.out.fr F1 (fun q hq => by rw [show q = T + 1 from hq]; exact HLW.out.1)).fr F2 (fun q hq => by rw [show q = T + 1 + 1 from hq]; exact HLW.out.2)).low HE.out.size)
   clear F1 F2 hE4 hL3 hE3
   go_wp2_with fail
   refine leaves_cons (f := 46) (args := #[.pointer (some ⟨T + 1, 0, none⟩), .pointer (some ⟨T + 1 + 1, 0, none⟩)]) (by simp) (by simp [go_sem]) ?_
   refine (ask_idle (T + 1) (T + 1 + 1) _).mono ?_
   rintro e u' w'' ⟨rfl, rfl, rfl⟩
   have c1 : ((w3.setCell ⟨T + 1, 0, none⟩ (.slice (some ⟨g, 0, none⟩) 1 1)).setCell ⟨T + 1 + 1, 0, none⟩ (.int .i64 0)).cell? ⟨T + 1, 0, none⟩ = some (.slice (some ⟨g, 0, none⟩) 1 1) := HB1.out
   have c2 : ((w3.setCell ⟨T + 1, 0, none⟩ (.slice (some ⟨g, 0, none⟩) 1 1)).setCell ⟨T + 1 + 1, 0, none⟩ (.int .i64 0)).cell? ⟨T + 1 + 1, 0, none⟩ = some (.int .i64 0) := HB2.out
   simp [Leaves, settle, results, Try.results26, go_sem, c1, c2]
   rw [HR2.out]
   have hv3 := HV2.out
   rw [HPP.out] at hv3
   exact ⟨HX.out, _, rfl, hv3⟩
theorem enters27 : ∀ args W, (callFunc 27 args).run Try.prog W = .ok (.enter 27 args) W := fun args W => by kernel_rfl
set_option maxRecDepth 100000 in
set_option maxHeartbeats 1000000 in
theorem indent_any (t : Nd) (p : List Int) (tv pv : Value) (w : World) (ht : t.rd w tv) (hp : RdI w p pv) (hwt : t.wt ≤ 1000000) (hpl : p.length ≤ 10000) : Calls Try.prog 9 #[tv, pv] w (AskR w p (askP t p indP)) := by
 obtain ⟨tA, tc, tK, td, rfl⟩ := rd_open6 ht
 obtain ⟨w1, hw1⟩ : ∃ W, w.alloc (.cells #[.int .u64 t.id, .bool t.leaf, .string t.label, .slice tA t.attrs.length tc, .string t.text, .slice tK t.kids.length td] 26) = W := ⟨_, rfl⟩
 obtain ⟨T, hT⟩ : ∃ T, w.heap.size = T := ⟨_, rfl⟩
 have E1 : Ext w w1 := by rw [← hw1]; exact (Ext.refl w).alloc _
 have bT : NBox w1 T 26 #[.int .u64 t.id, .bool t.leaf, .string t.label, .slice tA t.attrs.length tc, .string t.text, .slice tK t.kids.length td] := by rw [← hw1, ← hT]; exact NBox.new _ _ _
 have hc := ask26_any 27 enters27 indP ind27_any t p _ _ w1 (Nd.rd_ext E1 ht) (RdS.ext E1 hp) hwt hpl
 have HE := Lib.hid E1
 have HW := Lib.hid hw1
 have HTT := Lib.hid hT
 obtain ⟨o, ho⟩ : ∃ o, askP t p indP = o := ⟨_, rfl⟩
 rw [ho] at hc ⊢
 obtain ⟨t0, t1, t2, t3, t4, t5⟩ := bT.c6
 obtain ⟨aA, ac, rfl, -⟩ := hp
 clear hw1 hT E1 bT ht ho
 go_enter Try.func9, Try.ntmps9
 go_upto_region 1 with fail
 rw [HW.out, HTT.out]
 go_wp2_with fail
 refine hc.mono ?_
 clear hc t0 t1 t2 t3 t4 t5
 rintro e w2 ⟨hE, hP⟩
 have HX := Lib.hid (HE.out.trans hE)
 clear hE
 cases o with
 | error k =>
  subst hP
  go_wp2_with fail
  go_ret2
  exact ⟨HX.out, rfl⟩
 | ok x =>
  obtain ⟨v, rfl, hv⟩ := hP
  have HV := Lib.hid (hv.low HE.out.size)
  obtain ⟨g, pA2, pc2, tA2, tc2, rfl, -⟩ := hv
  go_wp2_with fail
  go_ret2
  exact ⟨HX.out, _, rfl, HV.out⟩
theorem enters34 : ∀ args W, (callFunc 34 args).run Try.prog W = .ok (.enter 34 args) W := fun args W => by kernel_rfl
set_option maxRecDepth 100000 in
set_option maxHeartbeats 1000000 in
theorem outdent_any (t : Nd) (p : List Int) (tv pv : Value) (w : World) (ht : t.rd w tv) (hp : RdI w p pv) (hwt : t.wt ≤ 1000000) (hpl : p.length ≤ 10000) : Calls Try.prog 11 #[tv, pv] w (AskR w p (askP t p outP)) := by
 obtain ⟨tA, tc, tK, td, rfl⟩ := rd_open6 ht
 obtain ⟨w1, hw1⟩ : ∃ W, w.alloc (.cells #[.int .u64 t.id, .bool t.leaf, .string t.label, .slice tA t.attrs.length tc, .string t.text, .slice tK t.kids.length td] 26) = W := ⟨_, rfl⟩
 obtain ⟨T, hT⟩ : ∃ T, w.heap.size = T := ⟨_, rfl⟩
 have E1 : Ext w w1 := by rw [← hw1]; exact (Ext.refl w).alloc _
 have bT : NBox w1 T 26 #[.int .u64 t.id, .bool t.leaf, .string t.label, .slice tA t.attrs.length tc, .string t.text, .slice tK t.kids.length td] := by rw [← hw1, ← hT]; exact NBox.new _ _ _
 have hc := ask26_any 34 enters34 outP out34_any t p _ _ w1 (Nd.rd_ext E1 ht) (RdS.ext E1 hp) hwt hpl
 have HE := Lib.hid E1
 have HW := Lib.hid hw1
 have HTT := Lib.hid hT
 obtain ⟨o, ho⟩ : ∃ o, askP t p outP = o := ⟨_, rfl⟩
 rw [ho] at hc ⊢
 obtain ⟨t0, t1, t2, t3, t4, t5⟩ := bT.c6
 obtain ⟨aA, ac, rfl, -⟩ := hp
 clear hw1 hT E1 bT ht ho
 go_enter Try.func11, Try.ntmps11
 go_upto_region 1 with fail
 rw [HW.out, HTT.out]
 go_wp2_with fail
 refine hc.mono ?_
 clear hc t0 t1 t2 t3 t4 t5
 rintro e w2 ⟨hE, hP⟩
 have HX := Lib.hid (HE.out.trans hE)
 clear hE
 cases o with
 | error k =>
  subst hP
  go_wp2_with fail
  go_ret2
  exact ⟨HX.out, rfl⟩
 | ok x =>
  obtain ⟨v, rfl, hv⟩ := hP
  have HV := Lib.hid (hv.low HE.out.size)
  obtain ⟨g, pA2, pc2, tA2, tc2, rfl, -⟩ := hv
  go_wp2_with fail
  go_ret2
  exact ⟨HX.out, _, rfl, HV.out⟩
theorem enters37 : ∀ args W, (callFunc 37 args).run Try.prog W = .ok (.enter 37 args) W := fun args W => by kernel_rfl
set_option maxRecDepth 100000 in
set_option maxHeartbeats 1000000 in
theorem up_any (t : Nd) (p : List Int) (tv pv : Value) (w : World) (ht : t.rd w tv) (hp : RdI w p pv) (hwt : t.wt ≤ 1000000) (hpl : p.length ≤ 10000) : Calls Try.prog 14 #[tv, pv] w (AskR w p (askP t p upP)) := by
 obtain ⟨tA, tc, tK, td, rfl⟩ := rd_open6 ht
 obtain ⟨w1, hw1⟩ : ∃ W, w.alloc (.cells #[.int .u64 t.id, .bool t.leaf, .string t.label, .slice tA t.attrs.length tc, .string t.text, .slice tK t.kids.length td] 26) = W := ⟨_, rfl⟩
 obtain ⟨T, hT⟩ : ∃ T, w.heap.size = T := ⟨_, rfl⟩
 have E1 : Ext w w1 := by rw [← hw1]; exact (Ext.refl w).alloc _
 have bT : NBox w1 T 26 #[.int .u64 t.id, .bool t.leaf, .string t.label, .slice tA t.attrs.length tc, .string t.text, .slice tK t.kids.length td] := by rw [← hw1, ← hT]; exact NBox.new _ _ _
 have hc := ask26_any 37 enters37 upP up37_any t p _ _ w1 (Nd.rd_ext E1 ht) (RdS.ext E1 hp) hwt hpl
 have HE := Lib.hid E1
 have HW := Lib.hid hw1
 have HTT := Lib.hid hT
 obtain ⟨o, ho⟩ : ∃ o, askP t p upP = o := ⟨_, rfl⟩
 rw [ho] at hc ⊢
 obtain ⟨t0, t1, t2, t3, t4, t5⟩ := bT.c6
 obtain ⟨aA, ac, rfl, -⟩ := hp
 clear hw1 hT E1 bT ht ho
 go_enter Try.func14, Try.ntmps14
 go_upto_region 1 with fail
 rw [HW.out, HTT.out]
 go_wp2_with fail
 refine hc.mono ?_
 clear hc t0 t1 t2 t3 t4 t5
 rintro e w2 ⟨hE, hP⟩
 have HX := Lib.hid (HE.out.trans hE)
 clear hE
 cases o with
 | error k =>
  subst hP
  go_wp2_with fail
  go_ret2
  exact ⟨HX.out, rfl⟩
 | ok x =>
  obtain ⟨v, rfl, hv⟩ := hP
  have HV := Lib.hid (hv.low HE.out.size)
  obtain ⟨g, pA2, pc2, tA2, tc2, rfl, -⟩ := hv
  go_wp2_with fail
  go_ret2
  exact ⟨HX.out, _, rfl, HV.out⟩
theorem enters38 : ∀ args W, (callFunc 38 args).run Try.prog W = .ok (.enter 38 args) W := fun args W => by kernel_rfl
set_option maxRecDepth 100000 in
set_option maxHeartbeats 1000000 in
theorem down_any (t : Nd) (p : List Int) (tv pv : Value) (w : World) (ht : t.rd w tv) (hp : RdI w p pv) (hwt : t.wt ≤ 1000000) (hpl : p.length ≤ 10000) : Calls Try.prog 16 #[tv, pv] w (AskR w p (askP t p downP)) := by
 obtain ⟨tA, tc, tK, td, rfl⟩ := rd_open6 ht
 obtain ⟨w1, hw1⟩ : ∃ W, w.alloc (.cells #[.int .u64 t.id, .bool t.leaf, .string t.label, .slice tA t.attrs.length tc, .string t.text, .slice tK t.kids.length td] 26) = W := ⟨_, rfl⟩
 obtain ⟨T, hT⟩ : ∃ T, w.heap.size = T := ⟨_, rfl⟩
 have E1 : Ext w w1 := by rw [← hw1]; exact (Ext.refl w).alloc _
 have bT : NBox w1 T 26 #[.int .u64 t.id, .bool t.leaf, .string t.label, .slice tA t.attrs.length tc, .string t.text, .slice tK t.kids.length td] := by rw [← hw1, ← hT]; exact NBox.new _ _ _
 have hc := ask26_any 38 enters38 downP down38_any t p _ _ w1 (Nd.rd_ext E1 ht) (RdS.ext E1 hp) hwt hpl
 have HE := Lib.hid E1
 have HW := Lib.hid hw1
 have HTT := Lib.hid hT
 obtain ⟨o, ho⟩ : ∃ o, askP t p downP = o := ⟨_, rfl⟩
 rw [ho] at hc ⊢
 obtain ⟨t0, t1, t2, t3, t4, t5⟩ := bT.c6
 obtain ⟨aA, ac, rfl, -⟩ := hp
 clear hw1 hT E1 bT ht ho
 go_enter Try.func16, Try.ntmps16
 go_upto_region 1 with fail
 rw [HW.out, HTT.out]
 go_wp2_with fail
 refine hc.mono ?_
 clear hc t0 t1 t2 t3 t4 t5
 rintro e w2 ⟨hE, hP⟩
 have HX := Lib.hid (HE.out.trans hE)
 clear hE
 cases o with
 | error k =>
  subst hP
  go_wp2_with fail
  go_ret2
  exact ⟨HX.out, rfl⟩
 | ok x =>
  obtain ⟨v, rfl, hv⟩ := hP
  have HV := Lib.hid (hv.low HE.out.size)
  obtain ⟨g, pA2, pc2, tA2, tc2, rfl, -⟩ := hv
  go_wp2_with fail
  go_ret2
  exact ⟨HX.out, _, rfl, HV.out⟩
end Go.Proofs.Ytofcbclokkjfjaa.Wi
