/- Chapter 24: ask (26) for answers of any kind. -/
import Derived.Test.YtofcbclokkjfjaaOuAsked
namespace Go.Proofs.Ytofcbclokkjfjaa.Wi
open Go.RowKit Go.Proofs.Ytofcbclokkjfjaa.Bw Go.Proofs.Ytofcbclokkjfjaa.Bs

/-- Answers that lie in new memory. -/
structure ResV {α : Type} (V : Nat → α → Value → World → Prop) : Prop where
  fr : ∀ {lo : Nat} {x : α} {v : Value} {W W' : World} {Z : Nat}, V lo x v W → Fr W W' (fun k => k = Z) → Z < lo → V lo x v W'
  low : ∀ {lo lo' : Nat} {x : α} {v : Value} {W : World}, V lo x v W → lo' ≤ lo → V lo' x v W
  sl : ∀ {lo : Nat} {x : α} {v : Value} {W : World}, V lo x v W → ∃ A n c, v = .slice A n c
/-- What a closure tells. -/
def ClG {α : Type} (V : Nat → α → Value → World → Prop) (w0 w : World) (o : Except Int α) (e : Ending) (W' : World) : Prop := Ext w W' ∧ match o with
  | .error k => e = .panicked (ER k)
  | .ok x => ∃ v, e = .returned v ∧ V w0.heap.size x v W'
def askG {α : Type} (t : Nd) (p : List Int) (res : SpD → Except Int α) : Except Int α := match spotP t p with
  | .error k => .error k
  | .ok s => res s
def IsSpot (t : Nd) (p : List Int) (s : SpD) : Prop := spotP t p = .ok s
/-- What ask tells. -/
def AskG {α : Type} (V : Nat → α → Value → World → Prop) (w : World) (o : Except Int α) (e : Ending) (W' : World) : Prop := Ext w W' ∧ match o with
  | .error k => e = .returned (.tuple #[.slice none 0 0, .int .i64 k])
  | .ok x => ∃ v, e = .returned (.tuple #[v, .int .i64 0]) ∧ V w.heap.size x v W'
set_option maxRecDepth 100000 in
set_option maxHeartbeats 4000000 in
theorem ask26_gen {α : Type} (V : Nat → α → Value → World → Prop) (hV : ResV V) (fn : FuncId) (cap : Array Value) (hfn : ∀ args W, (callFunc fn args).run Try.prog W = .ok (.enter fn args) W) (res : SpD → Except Int α)
    (w : World) (t : Nd) (p : List Int) (hcl : ∀ (s : SpD) (sv : Value) (w0 w2 : World), IsSpot t p s → Ext w w0 → Ext w0 w2 → SpV w0 w2 s sv → SpOk s → Calls Try.prog fn (#[sv] ++ cap) w2 (ClG V w0 w2 (res s)))
    (tv pv : Value) (ht : t.rd w tv) (hp : RdI w p pv) (hwt : t.wt ≤ 1000000) (hpl : p.length ≤ 10000) : Calls Try.prog 26 #[tv, pv, .func (.func fn) #[] cap] w (AskG V w (askG t p res)) := by
  have hmf : ∀ (fn : Fn) (first cap : Array Value) (w : World), (Instr.makeFunc fn first cap).run Try.prog w = .ok (.func fn first cap) w := fun _ _ _ _ => rfl
  obtain ⟨tA, tc, tK, td, rfl⟩ := rd_open6 ht
  obtain ⟨w1, hw1⟩ : ∃ W, ((w.alloc (.cells #[.int .u64 t.id, .bool t.leaf, .string t.label, .slice tA t.attrs.length tc, .string t.text, .slice tK t.kids.length td] 26)).alloc (.cells #[.slice none 0 0] 31)).alloc (.cells #[.int .i64 0] 32) = W := ⟨_, rfl⟩
  obtain ⟨T, hT⟩ : ∃ T, w.heap.size = T := ⟨_, rfl⟩
  have s1 : (w.alloc (.cells #[.int .u64 t.id, .bool t.leaf, .string t.label, .slice tA t.attrs.length tc, .string t.text, .slice tK t.kids.length td] 26)).heap.size = T + 1 := by rw [World.size_alloc, hT]
  have s2 : ((w.alloc (.cells #[.int .u64 t.id, .bool t.leaf, .string t.label, .slice tA t.attrs.length tc, .string t.text, .slice tK t.kids.length td] 26)).alloc (.cells #[.slice none 0 0] 31)).heap.size = T + 1 + 1 := by rw [World.size_alloc, s1]
  have E1 : Ext w w1 := by rw [← hw1]; exact (((Ext.refl w).alloc _).alloc _).alloc _
  have bT : NBox w1 T 26 #[.int .u64 t.id, .bool t.leaf, .string t.label, .slice tA t.attrs.length tc, .string t.text, .slice tK t.kids.length td] := by rw [← hw1, ← hT]; exact (NBox.new w 26 _).ext (((Ext.refl _).alloc _).alloc _)
  have bL : NBox w1 (T + 1) 31 #[.slice none 0 0] := by rw [← hw1, ← s1]; exact (NBox.new _ 31 _).ext ((Ext.refl _).alloc _)
  have bE : NBox w1 (T + 1 + 1) 32 #[.int .i64 0] := by rw [← hw1, ← s2]; exact NBox.new _ _ _
  have hc := at47_any t p _ _ w1 (Nd.rd_ext E1 ht) (RdS.ext E1 hp) hwt (by omega)
  have hcnt : t.cnt ≤ 1000000 := by have := Nd.cnt_wt t; omega
  have HE := Lib.hid E1
  have HL := Lib.hid bL
  have HEE := Lib.hid bE
  have HW := Lib.hid hw1
  have HTT := Lib.hid hT
  have HLW := Lib.hid (show T + 1 < w1.heap.size ∧ T + 1 + 1 < w1.heap.size from ⟨bL.lt, bE.lt⟩)
  have HwT := Lib.hid (show w.heap.size ≤ T by omega)
  have HAP := Lib.hid (show askG t p res = match spotP t p with | .error k => .error k | .ok s => res s from rfl)
  have HSO := Lib.hid (fun s (h : spotP t p = .ok s) => spot_ok h hpl hcnt)
  have HSI := Lib.hid (fun s (h : spotP t p = .ok s) => (show IsSpot t p s from h))
  have HCL := Lib.hid hcl
  obtain ⟨o, ho⟩ : ∃ o, spotP t p = o := ⟨_, rfl⟩
  rw [ho] at hc HAP HSO HSI
  have t0 := bT.cell 0
  have t1 := bT.cell 1
  have t2 := bT.cell 2
  have t3 := bT.cell 3
  have t4 := bT.cell 4
  have t5 := bT.cell 5
  obtain ⟨aA, ac, rfl, -⟩ := hp
  clear hw1 hT s1 s2 E1 bT bL bE ht hcl ho
  go_enter_defers Try.func26, Try.ntmps26
  go_wp2_with fail
  rw [HW.out, HTT.out]
  go_wp2_with fail
  refine hc.mono ?_
  clear hc t0 t1 t2 t3 t4 t5
  rintro e w2 ⟨hE, hP⟩
  have HE2 := Lib.hid (HE.out.trans hE)
  have hL2 := HL.out.ext hE
  have hE2 := HEE.out.ext hE
  cases o with
  | error k =>
    subst hP
    clear hE
    go_wp2_with fail
    refine leaves_cons (f := 46) (args := #[.pointer (some ⟨T + 1, 0, none⟩), .pointer (some ⟨T + 1 + 1, 0, none⟩)]) (by simp) (by simp [go_sem]) ?_
    refine (ask_throw k (T + 1) (T + 1 + 1) _ _ _ hL2 hE2).mono ?_
    rintro e u' w'' ⟨rfl, rfl, rfl⟩
    have F1 := Fr.setCell w2 (T + 1) 0 (.slice none 0 0)
    have F2 := Fr.setCell (w2.setCell ⟨T + 1, 0, none⟩ (.slice none 0 0)) (T + 1 + 1) 0 (.int .i64 k)
    have b1 := ((hL2.set 0 (.slice none 0 0)).fr F2 (by omega)).cell 0
    have b2 := ((hE2.fr F1 (by omega)).set 0 (.int .i64 k)).cell 0
    have c1 : ((w2.setCell ⟨T + 1, 0, none⟩ (.slice none 0 0)).setCell ⟨T + 1 + 1, 0, none⟩ (.int .i64 k)).cell? ⟨T + 1, 0, none⟩ = some (.slice none 0 0) := b1
    have c2 : ((w2.setCell ⟨T + 1, 0, none⟩ (.slice none 0 0)).setCell ⟨T + 1 + 1, 0, none⟩ (.int .i64 k)).cell? ⟨T + 1 + 1, 0, none⟩ = some (.int .i64 k) := b2
    have HX := Fr.ext (Fr.ext HE2.out F1 (fun q hq => by rw [show q = T + 1 from hq]; have := HwT.out; omega)) F2 (fun q hq => by rw [show q = T + 1 + 1 from hq]; have := HwT.out; omega)
    have HR : askG t p res = .error k := HAP.out
    simp [Leaves, settle, results, Try.results26, go_sem, c1, c2]
    rw [HR]
    exact ⟨HX, rfl⟩
  | ok s =>
    obtain ⟨sv, rfl, hs⟩ := hP
    have hso := HSO.out s rfl
    have hc := HCL.out s sv w1 w2 (HSI.out s rfl) HE.out hE hs hso
    have HR2 : Hid (askG t p res = res s) := HAP
    obtain ⟨r, hr⟩ : ∃ r, res s = r := ⟨_, rfl⟩
    rw [hr] at hc HR2
    obtain ⟨q1, q2, q3, q4, q5, q6, q7, q8, q9, q10, q11, q12, rfl, -⟩ := hs
    clear hE hso hr
    go_wp2_with fail
    refine hc.mono ?_
    clear hc
    rintro e w3 ⟨hE, hP⟩
    have HE3 := Lib.hid (HE2.out.trans hE)
    have hL3 := hL2.ext hE
    have hE3 := hE2.ext hE
    clear hL2 hE2 hE
    cases r with
    | error k =>
      subst hP
      go_wp2_with fail
      refine leaves_cons (f := 46) (args := #[.pointer (some ⟨T + 1, 0, none⟩), .pointer (some ⟨T + 1 + 1, 0, none⟩)]) (by simp) (by simp [go_sem]) ?_
      refine (ask_throw k (T + 1) (T + 1 + 1) _ _ _ hL3 hE3).mono ?_
      rintro e u' w'' ⟨rfl, rfl, rfl⟩
      have F1 := Fr.setCell w3 (T + 1) 0 (.slice none 0 0)
      have F2 := Fr.setCell (w3.setCell ⟨T + 1, 0, none⟩ (.slice none 0 0)) (T + 1 + 1) 0 (.int .i64 k)
      have b1 := ((hL3.set 0 (.slice none 0 0)).fr F2 (by omega)).cell 0
      have b2 := ((hE3.fr F1 (by omega)).set 0 (.int .i64 k)).cell 0
      have c1 : ((w3.setCell ⟨T + 1, 0, none⟩ (.slice none 0 0)).setCell ⟨T + 1 + 1, 0, none⟩ (.int .i64 k)).cell? ⟨T + 1, 0, none⟩ = some (.slice none 0 0) := b1
      have c2 : ((w3.setCell ⟨T + 1, 0, none⟩ (.slice none 0 0)).setCell ⟨T + 1 + 1, 0, none⟩ (.int .i64 k)).cell? ⟨T + 1 + 1, 0, none⟩ = some (.int .i64 k) := b2
      have HX := Fr.ext (Fr.ext HE3.out F1 (fun q hq => by rw [show q = T + 1 from hq]; have := HwT.out; omega)) F2 (fun q hq => by rw [show q = T + 1 + 1 from hq]; have := HwT.out; omega)
      simp [Leaves, settle, results, Try.results26, go_sem, c1, c2]
      rw [HR2.out]
      exact ⟨HX, rfl⟩
    | ok x =>
      obtain ⟨v, rfl, hv⟩ := hP
      have HV := Lib.hid hv
      obtain ⟨A, n, c, rfl⟩ := hV.sl hv
      have F1 := Fr.setCell w3 (T + 1) 0 (.slice A n c)
      have F2 := Fr.setCell (w3.setCell ⟨T + 1, 0, none⟩ (.slice A n c)) (T + 1 + 1) 0 (.int .i64 0)
      have d1 := hL3.cell 0
      have d2 := hL3.frozen 0
      have hE4 := hE3.fr F1 (by omega)
      have d3 := hE4.cell 0
      have d4 := hE4.frozen 0
      have HB1 := Lib.hid (((hL3.set 0 (.slice A n c)).fr F2 (by omega)).cell 0)
      have HB2 := Lib.hid ((hE4.set 0 (.int .i64 0)).cell 0)
      have HX := Lib.hid (Fr.ext (Fr.ext HE3.out F1 (fun q hq => by rw [show q = T + 1 from hq]; have := HwT.out; omega)) F2 (fun q hq => by rw [show q = T + 1 + 1 from hq]; have := HwT.out; omega))
      have HV2 := Lib.hid (hV.low (hV.fr (hV.fr HV.out F1 HLW.out.1) F2 HLW.out.2) HE.out.size)
      clear F1 F2 hE4 hL3 hE3
      go_wp2_with fail
      refine leaves_cons (f := 46) (args := #[.pointer (some ⟨T + 1, 0, none⟩), .pointer (some ⟨T + 1 + 1, 0, none⟩)]) (by simp) (by simp [go_sem]) ?_
      refine (ask_idle (T + 1) (T + 1 + 1) _).mono ?_
      rintro e u' w'' ⟨rfl, rfl, rfl⟩
      have c1 : ((w3.setCell ⟨T + 1, 0, none⟩ (.slice A n c)).setCell ⟨T + 1 + 1, 0, none⟩ (.int .i64 0)).cell? ⟨T + 1, 0, none⟩ = some (.slice A n c) := HB1.out
      have c2 : ((w3.setCell ⟨T + 1, 0, none⟩ (.slice A n c)).setCell ⟨T + 1 + 1, 0, none⟩ (.int .i64 0)).cell? ⟨T + 1 + 1, 0, none⟩ = some (.int .i64 0) := HB2.out
      simp [Leaves, settle, results, Try.results26, go_sem, c1, c2]
      rw [HR2.out]
      exact ⟨HX.out, _, rfl, HV2.out⟩
theorem at_wt : ∀ (q : List Int) (t y : Nd), t.at? q = some y → y.wt ≤ t.wt
  | [], t, y, h => by rw [at_nil] at h; cases h; exact Nat.le_refl _
  | i :: q, t, y, h => by
    by_cases hi : i < 0 ∨ (t.kids.length : Int) ≤ i
    · rw [at_none hi] at h; cases h
    · have hlt : i.toNat < t.kids.length := by omega
      have hg := List.getElem?_eq_getElem hlt
      rw [at_some (by omega) hg] at h
      have h1 := at_wt q _ y h
      have h2 := wtK_mem (List.mem_of_getElem? hg)
      have h3 := Nd.wt_eq t
      omega
theorem spot_wt {t : Nd} {p : List Int} {s : SpD} (h : IsSpot t p s) : s.x.wt ≤ t.wt ∧ s.p = p := by
  have h0 : spotP t p = .ok s := h
  refine ⟨?_, (spot_in h0).2.2.1⟩
  unfold spotP at h0
  split at h0
  · cases h0
  · split at h0
    · cases h0
    · rcases ha : t.at? p with _ | x
      · rw [ha] at h0; cases h0
      · rw [ha] at h0
        cases h0
        exact at_wt _ _ _ ha
theorem attrs_wt (t : Nd) : t.attrs.length ≤ t.wt := by
  have h1 := Nd.wt_eq t
  have h2 := wtA_len t.attrs
  omega
end Go.Proofs.Ytofcbclokkjfjaa.Wi
