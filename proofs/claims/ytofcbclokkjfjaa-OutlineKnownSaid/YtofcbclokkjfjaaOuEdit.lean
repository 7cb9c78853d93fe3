/- Chapter 24: ask (26) for answers of any kind. -/
import Derived.Test.YtofcbclokkjfjaaOuAsked
import Derived.Test.YtofcbclokkjfjaaOuNodes
namespace Go.Proofs.Ytofcbclokkjfjaa.Wi
open Go.RowKit Go.Proofs.Ytofcbclokkjfjaa.Bw Go.Proofs.Ytofcbclokkjfjaa.Bs

/-- Answers that lie in new memory. -/
structure ResV {α : Type} (V : Nat → α → Value → World → Prop) : Prop where
 fr : ∀ {lo : Nat} {x : α} {v : Value} {W W' : World} {Z : Nat}, V lo x v W → Fr W W' (fun k => k = Z) → Z < lo → V lo x v W'
 low : ∀ {lo lo' : Nat} {x : α} {v : Value} {W : World}, V lo x v W → lo' ≤ lo → V lo' x v W
 sl : ∀ {lo : Nat} {x : α} {v : Value} {W : World}, V lo x v W → ∃ A n c, v = .slice A n c
/-- What a closure tells. -/
def ClG {α : Type} (V : Nat → α → Value → World → Prop) (w0 w : World) (o : Except Int α) (e : Ending) (W' : World) : Prop := Ext w W' ∧ match o with
 | .error k => e = .panicked (ER k)
 | .ok x => ∃ v, e = .returned v ∧ V w0.heap.size x v W'
def askG {α : Type} (t : Nd) (p : List Int) (res : SpD → Except Int α) : Except Int α := match spotP t p with
 | .error k => .error k
 | .ok s => res s
def IsSpot (t : Nd) (p : List Int) (s : SpD) : Prop := spotP t p = .ok s
/-- What ask tells. -/
def AskG {α : Type} (V : Nat → α → Value → World → Prop) (w : World) (o : Except Int α) (e : Ending) (W' : World) : Prop := Ext w W' ∧ match o with
 | .error k => e = .returned (.tuple #[.slice none 0 0, .int .i64 k])
 | .ok x => ∃ v, e = .returned (.tuple #[v, .int .i64 0]) ∧ V w.heap.size x v W'
set_option maxRecDepth 100000 in
set_option maxHeartbeats 4000000 in
theorem ask26_gen {α : Type} (V : Nat → α → Value → World → Prop) (hV : ResV V) (fn : FuncId) (cap : Array Value) (hfn : ∀ args W, (callFunc fn args).run Try.prog W = .ok (.enter fn args) W) (res : SpD → Except Int α)
  (w : World) (t : Nd) (p : List Int) (hcl : ∀ (s : SpD) (sv : Value) (w0 w2 : World), IsSpot t p s → Ext w w0 → Ext w0 w2 → SpV w0 w2 s sv → SpOk s → Calls Try.prog fn (#[sv] ++ cap) w2 (ClG V w0 w2 (res s)))
  (tv pv : Value) (ht : t.rd w tv) (hp : RdI w p pv) (hwt : t.wt ≤ 1000000) (hpl : p.length ≤ 10000) : Calls Try.prog 26 #[tv, pv, .func (.func fn) #[] cap] w (AskG V w (askG t p res)) := by
 have hmf : ∀ (fn : Fn) (first cap : Array Value) (w : World), (Instr.makeFunc fn first cap).run Try.prog w = .ok (.func fn first cap) w := fun _ _ _ _ => rfl
 obtain ⟨tA, tc, tK, td, rfl⟩ := rd_open6 ht
 obtain ⟨w1, hw1⟩ : ∃ W, ((w.alloc (.cells #[.int .u64 t.id, .bool t.leaf, .string t.label, .slice tA t.attrs.length tc, .string t.text, .slice tK t.kids.length td] 26)).alloc (.cells #[.slice none 0 0] 31)).alloc (.cells #[.int .i64 0] 32) = W := ⟨_, rfl⟩
 obtain ⟨T, hT⟩ : ∃ T, w.heap.size = T := ⟨_, rfl⟩
 have s1 : (w.alloc (.cells #[.int .u64 t.id, .bool t.leaf, .string t.label, .slice tA t.attrs.length tc, .string t.text, .slice tK t.kids.length td] 26)).heap.size = T + 1 := by rw [World.size_alloc, hT]
 have s2 : ((w.alloc (.cells #[.int .u64 t.id, .bool t.leaf, .string t.label, .slice tA t.attrs.length tc, .string t.text, .slice tK t.kids.length td] 26)).alloc (.cells #[.slice none 0 0] 31)).heap.size = T + 1 + 1 := by rw [World.size_alloc, s1]
 have E1 : Ext w w1 := by rw [← hw1]; exact (((Ext.refl w).alloc _).alloc _).alloc _
 have bT : NBox w1 T 26 #[.int .u64 t.id, .bool t.leaf, .string t.label, .slice tA t.attrs.length tc, .string t.text, .slice tK t.kids.length td] := by rw [← hw1, ← hT]; exact (NBox.new w 26 _).ext (((Ext.refl _).alloc _).alloc _)
 have bL : NBox w1 (T + 1) 31 #[.slice none 0 0] := by rw [← hw1, ← s1]; exact (NBox.new _ 31 _).ext ((Ext.refl _).alloc _)
 have bE : NBox w1 (T + 1 + 1) 32 #[.int .i64 0] := by rw [← hw1, ← s2]; exact NBox.new _ _ _
 have hc := at47_any t p _ _ w1 (Nd.rd_ext E1 ht) (RdS.ext E1 hp) hwt (by omega)
 have hcnt : t.cnt ≤ 1000000 := by have := Nd.cnt_wt t; omega
 have HE := Lib.hid E1
 have HL := Lib.hid bL
 have HEE := Lib.hid bE
 have HW := Lib.hid hw1
 have HTT := Lib.hid hT
 have HLW := Lib.hid (show T + 1 < w1.heap.size ∧ T + 1 + 1 < w1.heap.size from ⟨bL.lt, bE.lt⟩)
 have HwT := Lib.hid (show w.heap.size ≤ T by omega)
 have HAP := Lib.hid (show askG t p res = match spotP t p with | .error k => .error k | .ok s => res s from rfl)
 have HSO := Lib.hid (fun s (h : spotP t p = .ok s) => spot_ok h hpl hcnt)
 have HSI := Lib.hid (fun s (h : spotP t p = .ok s) => (show IsSpot t p s from h))
 have HCL := Lib.hid hcl
 obtain ⟨o, ho⟩ : ∃ o, spotP t p = o := ⟨_, rfl⟩
 rw [ho] at hc HAP HSO HSI
 obtain ⟨t0, t1, t2, t3, t4, t5⟩ := bT.c6
 obtain ⟨aA, ac, rfl, -⟩ := hp
 clear hw1 hT s1 s2 E1 bT bL bE ht hcl ho
 go_enter_defers Try.func26, Try.ntmps26
 go_wp2_with fail
 rw [HW.out, HTT.out]
 go_wp2_with fail
 refine hc.mono ?_
 clear hc t0 t1 t2 t3 t4 t5
 rintro e w2 ⟨hE, hP⟩
 have HE2 := Lib.hid (HE.out.trans hE)
 have hL2 := HL.out.ext hE
 have hE2 := HEE.out.ext hE
 cases o with
 | error k =>
  subst hP
  clear hE
  go_wp2_with fail
  refine leaves_cons (f := 46) (args := #[.pointer (some ⟨T + 1, 0, none⟩), .pointer (some ⟨T + 1 + 1, 0, none⟩)]) (by simp) (by simp [go_sem]) ?_
  refine (ask_throw k (T + 1) (T + 1 + 1) _ _ _ hL2 hE2).mono ?_
  rintro e u' w'' ⟨rfl, rfl, rfl⟩
  have F1 := Fr.setCell w2 (T + 1) 0 (.slice none 0 0)
  have F2 := Fr.setCell (w2.setCell ⟨T + 1, 0, none⟩ (.slice none 0 0)) (T + 1 + 1) 0 (.int .i64 k)
  have b1 := ((hL2.set 0 (.slice none 0 0)).fr F2 (by omega)).cell 0
  have b2 := ((hE2.fr F1 (by omega)).set 0 (.int .i64 k)).cell 0
  have c1 : ((w2.setCell ⟨T + 1, 0, none⟩ (.slice none 0 0)).setCell ⟨T + 1 + 1, 0, none⟩ (.int .i64 k)).cell? ⟨T + 1, 0, none⟩ = some (.slice none 0 0) := b1
  have c2 : ((w2.setCell ⟨T + 1, 0, none⟩ (.slice none 0 0)).setCell ⟨T + 1 + 1, 0, none⟩ (.int .i64 k)).cell? ⟨T + 1 + 1, 0, none⟩ = some (.int .i64 k) := b2
  have HX := Fr.ext (Fr.ext HE2.out F1 (fun q hq => by rw [show q = T + 1 from hq]; have := HwT.out; omega)) F2 (fun q hq => by rw [show q = T + 1 + 1 from hq]; have := HwT.out; omega)
  have HR : askG t p res = .error k := HAP.out
  simp [Leaves, settle, results, Try.results26, go_sem, c1, c2]
  rw [HR]
  exact ⟨HX, rfl⟩
 | ok s =>
  obtain ⟨sv, rfl, hs⟩ := hP
  have hso := HSO.out s rfl
  have hc := HCL.out s sv w1 w2 (HSI.out s rfl) HE.out hE hs hso
  have HR2 : Hid (askG t p res = res s) := HAP
  obtain ⟨r, hr⟩ : ∃ r, res s = r := ⟨_, rfl⟩
  rw [hr] at hc HR2
  obtain ⟨q1, q2, q3, q4, q5, q6, q7, q8, q9, q10, q11, q12, rfl, -⟩ := hs
  clear hE hso hr
  go_wp2_with fail
  refine hc.mono ?_
  clear hc
  rintro e w3 ⟨hE, hP⟩
  have HE3 := Lib.hid (HE2.out.trans hE)
  have hL3 := hL2.ext hE
  have hE3 := hE2.ext hE
  clear hL2 hE2 hE
  cases r with
  | error k =>
   subst hP
   go_wp2_with fail
   refine leaves_cons (f := 46) (args := #[.pointer (some ⟨T + 1, 0, none⟩), .pointer (some ⟨T + 1 + 1, 0, none⟩)]) (by simp) (by simp [go_sem]) ?_
   refine (ask_throw k (T + 1) (T + 1 + 1) _ _ _ hL3 hE3).mono ?_
   rintro e u' w'' ⟨rfl, rfl, rfl⟩
   have F1 := Fr.setCell w3 (T + 1) 0 (.slice none 0 0)
   have F2 := Fr.setCell (w3.setCell ⟨T + 1, 0, none⟩ (.slice none 0 0)) (T + 1 + 1) 0 (.int .i64 k)
   have b1 := ((hL3.set 0 (.slice none 0 0)).fr F2 (by omega)).cell 0
   have b2 := ((hE3.fr F1 (by omega)).set 0 (.int .i64 k)).cell 0
   have c1 : ((w3.setCell ⟨T + 1, 0, none⟩ (.slice none 0 0)).setCell ⟨T + 1 + 1, 0, none⟩ (.int .i64 k)).cell? ⟨T + 1, 0, none⟩ = some (.slice none 0 0) := b1
   have c2 : ((w3.setCell ⟨T + 1, 0, none⟩ (.slice none 0 0)).setCell ⟨T + 1 + 1, 0, none⟩ (.int .i64 k)).cell? ⟨T + 1 + 1, 0, none⟩ = some (.int .i64 k) := b2
   have HX := Fr.ext (Fr.ext HE3.out F1 (fun q hq => by rw [show q = T + 1 from hq]; have := HwT.out; omega)) F2 (fun q hq => by rw [show q = T + 1 + 1 from hq]; have := HwT.out; omega)
   simp [Leaves, settle, results, Try.results26, go_sem, c1, c2]
   rw [HR2.out]
   exact ⟨HX, rfl⟩
  | ok x =>
   obtain ⟨v, rfl, hv⟩ := hP
   have HV := Lib.hid hv
   obtain ⟨A, n, c, rfl⟩ := hV.sl hv
   have F1 := Fr.setCell w3 (T + 1) 0 (.slice A n c)
   have F2 := Fr.setCell (w3.setCell ⟨T + 1, 0, none⟩ (.slice A n c)) (T + 1 + 1) 0 (.int .i64 0)
   have d1 := hL3.cell 0
   have d2 := hL3.frozen 0
   have hE4 := hE3.fr F1 (by omega)
   have d3 := hE4.cell 0
   have d4 := hE4.frozen 0
   have HB1 := Lib.hid (((hL3.set 0 (.slice A n c)).fr F2 (by omega)).cell 0)
   have HB2 := Lib.hid ((hE4.set 0 (.int .i64 0)).cell 0)
   have HX := Lib.hid (Fr.ext (Fr.ext HE3.out F1 (fun q hq => by rw [show q = T + 1 from hq]; have := HwT.out; omega)) F2 (fun q hq => by rw [show q = T + 1 + 1 from hq]; have := HwT.out; omega))
   have HV2 := Lib.hid (hV.low (hV.fr (hV.fr HV.out F1 HLW.out.1) F2 HLW.out.2) HE.out.size)
   clear F1 F2 hE4 hL3 hE3
   go_wp2_with fail
   refine leaves_cons (f := 46) (args := #[.pointer (some ⟨T + 1, 0, none⟩), .pointer (some ⟨T + 1 + 1, 0, none⟩)]) (by simp) (by simp [go_sem]) ?_
   refine (ask_idle (T + 1) (T + 1 + 1) _).mono ?_
   rintro e u' w'' ⟨rfl, rfl, rfl⟩
   have c1 : ((w3.setCell ⟨T + 1, 0, none⟩ (.slice A n c)).setCell ⟨T + 1 + 1, 0, none⟩ (.int .i64 0)).cell? ⟨T + 1, 0, none⟩ = some (.slice A n c) := HB1.out
   have c2 : ((w3.setCell ⟨T + 1, 0, none⟩ (.slice A n c)).setCell ⟨T + 1 + 1, 0, none⟩ (.int .i64 0)).cell? ⟨T + 1 + 1, 0, none⟩ = some (.int .i64 0) := HB2.out
   simp [Leaves, settle, results, Try.results26, go_sem, c1, c2]
   rw [HR2.out]
   exact ⟨HX.out, _, rfl, HV2.out⟩
theorem at_wt : ∀ (q : List Int) (t y : Nd), t.at? q = some y → y.wt ≤ t.wt
 | [], t, y, h => by rw [at_nil] at h; cases h; exact Nat.le_refl _
 | i :: q, t, y, h => by
  by_cases hi : i < 0 ∨ (t.kids.length : Int) ≤ i
  ·rw [at_none hi] at h; cases h
  ·have hlt : i.toNat < t.kids.length := by omega
   have hg := List.getElem?_eq_getElem hlt
   rw [at_some (by omega) hg] at h
   have h1 := at_wt q _ y h
   have h2 := wtK_mem (List.mem_of_getElem? hg)
   have h3 := Nd.wt_eq t
   omega
theorem spot_wt {t : Nd} {p : List Int} {s : SpD} (h : IsSpot t p s) : s.x.wt ≤ t.wt ∧ s.p = p := by
 have h0 : spotP t p = .ok s := h
 refine ⟨?_, (spot_in h0).2.2.1⟩
 unfold spotP at h0
 split at h0
 ·cases h0
 ·split at h0
  ·cases h0
  ·rcases ha : t.at? p with _ | x
   ·rw [ha] at h0; cases h0
   ·rw [ha] at h0
    cases h0
    exact at_wt _ _ _ ha
theorem attrs_wt (t : Nd) : t.attrs.length ≤ t.wt := by
 have h1 := Nd.wt_eq t
 have h2 := wtA_len t.attrs
 omega
end Go.Proofs.Ytofcbclokkjfjaa.Wi
namespace Go.Proofs.Ytofcbclokkjfjaa.Wi
open Go.RowKit Go.Proofs.Ytofcbclokkjfjaa.Bw Go.Proofs.Ytofcbclokkjfjaa.Bs

def RdO (W : World) (x : OpD) (v : Value) : Prop := x.rd W v
theorem rdOps_of {W : World} {b : Nat} : ∀ (l : List OpD) (us : List Value) (off : Nat), rowCells RdO 11 W l us → (∀ j u, us[j]? = some u → W.cell? ⟨b, off + j, none⟩ = some u) → rdOps W b off l
 | [], _, _, _, _ => trivial
 | x :: l, us, off, h, hc => by
  obtain ⟨cs, us', h1, h2, rfl, h5⟩ := h
  obtain ⟨pv, tv, cv, he, hr⟩ := h2
  simp only [Value.agg.injEq] at he
  have he' : cs = [.int .u8 x.kind, pv, .int .i64 x.at_, tv, .int .u64 x.id, .bool x.leaf, .string x.label, .string x.key, .string x.value, .bool x.gone, cv] := by
   have := congrArg Array.toList he
   simpa using this
  subst he'
  refine ⟨⟨pv, tv, cv, ?_, hc 1 _ rfl, hc 2 _ rfl, hc 3 _ rfl, hc 4 _ rfl, hc 5 _ rfl, hc 6 _ rfl, hc 7 _ rfl, hc 8 _ rfl, hc 9 _ rfl, hc 10 _ rfl, pv, tv, cv, rfl, hr⟩, rdOps_of l us' (off + 11) h5 (fun j u hj => ?_)⟩
  ·have := hc 0 _ rfl
   simpa using this
  ·have := hc (11 + j) u (by simpa [Nat.add_comm] using hj)
   rw [show off + 11 + j = off + (11 + j) by omega]
   exact this
theorem RdL.of_row {W : World} {base e : Nat} {v : Value} {l : List OpD} {us : List Value} (h : W.ownsRow base e 11 v l.length us) (hr : rowCells RdO 11 W l us) : RdL W l v := by
 obtain ⟨A, c, rfl, h1, h2, h3⟩ := owns_cells h
 refine ⟨A, c, rfl, h1, h2, fun hl => ?_⟩
 obtain ⟨g, rfl, hc⟩ := h3 hl
 exact ⟨g, 0, rfl, rdOps_of l us 0 hr hc⟩
/-- A list in new memory. -/
def lsV (lo : Nat) (l : List OpD) (v : Value) (W : World) : Prop := rowV2 RdO 38 11 lo l v W
theorem lsV.rd {lo : Nat} {l : List OpD} {v : Value} {W : World} (h : lsV lo l v W) : RdL W l v := by
 obtain ⟨us, h1, h2⟩ := h
 exact RdL.of_row h1 h2.now
theorem lsV.slice {lo : Nat} {l : List OpD} {v : Value} {W : World} (h : lsV lo l v W) : ∃ A c, v = .slice A l.length c := by
 obtain ⟨us, h1, -⟩ := h
 obtain ⟨A, c, rfl, -⟩ := owns_cells h1
 exact ⟨A, c, rfl⟩
theorem rowV2.fr {α : Type} {R : World → α → Value → Prop} {t sz lo : Nat} {l : List α} {v : Value} {W W' : World} {Z : Nat} (h : rowV2 R t sz lo l v W) (F : Fr W W' (fun k => k = Z)) (hZ : Z < lo) : rowV2 R t sz lo l v W' := by
 obtain ⟨us, h1, h2⟩ := h
 exact ⟨us, owns_fr F h1 (fun g hg hk => by have := owns_base h1 g hg; rw [show g = Z from hk] at this; omega), h2.to F (fun k _ hh => hh.elim (fun hk => .inl (by rw [show k = Z from hk]; exact hZ)) id)⟩
theorem rowV2.ext {α : Type} {R : World → α → Value → Prop} {t sz lo : Nat} {l : List α} {v : Value} {W W' : World} (h : rowV2 R t sz lo l v W) (X : Ext W W') : rowV2 R t sz lo l v W' := by
 obtain ⟨us, h1, h2⟩ := h
 exact ⟨us, owns_ext X h1, h2.ext X⟩

theorem resV_ls : ResV lsV where
 fr h F hZ := rowV2.fr h F hZ
 low h hl := rowV2.low h hl
 sl h := by obtain ⟨A, c, h⟩ := h.slice; exact ⟨A, _, c, h⟩
theorem lsV.ext {lo : Nat} {l : List OpD} {v : Value} {W W' : World} (h : lsV lo l v W) (X : Ext W W') : lsV lo l v W' := rowV2.ext h X
theorem lsV.none_ (lo : Nat) (W : World) : lsV lo [] (.slice none 0 0) W := ⟨[], ⟨rfl, .inl ⟨rfl, rfl⟩⟩, Late.all fun _ => rfl⟩
theorem lsV.one {lo g : Nat} {W : World} {o : OpD} {c0 c1 c2 c3 c4 c5 c6 c7 c8 c9 c10 : Value} (hG : NBox W g 38 #[c0, c1, c2, c3, c4, c5, c6, c7, c8, c9, c10]) (hl : lo ≤ g) (hx : Late (fun k => k < lo ∨ k = g) (fun W => o.rd W (.agg #[c0, c1, c2, c3, c4, c5, c6, c7, c8, c9, c10])) W) : lsV lo [o] (.slice (some ⟨g, 0, none⟩) 1 1) W := by
 refine ⟨[c0, c1, c2, c3, c4, c5, c6, c7, c8, c9, c10], ⟨rfl, .inr ⟨g, 1, _, rfl, hl, hG, Nat.le_refl _, by simp [maxLen], rfl, rfl⟩⟩, ?_⟩
 refine (hx.sub (fun k hk => ?_)).imp fun W2 h => ⟨_, [], rfl, h, by simp, rfl⟩
 rcases hk with h | h
 ·exact .inl h
 ·cases h; exact .inr rfl
theorem rowCells_app {α : Type} {R : World → α → Value → Prop} {sz : Nat} {W : World} : ∀ (l m : List α) (us us2 : List Value), rowCells R sz W l us → rowCells R sz W m us2 → rowCells R sz W (l ++ m) (us ++ us2)
 | [], m, us, us2, h, k => by rw [show us = [] from h]; exact k
 | x :: l, m, us, us2, h, k => by
  obtain ⟨cs, us', h1, h2, rfl, h4⟩ := h
  exact ⟨cs, us' ++ us2, h1, h2, List.append_assoc _ _ _, rowCells_app l m us' us2 h4 k⟩
theorem owns_apart {W : World} {b b' e e' s s' n n' : Nat} {v v' : Value} {xs xs' : List Value} (h : W.ownsRow b e s v n xs) (h' : W.ownsRow b' e' s' v' n' xs') (he : e ≠ e') {g : Nat} (hg : v.ownBlock = some g) : v'.ownBlock ≠ some g := by
 intro hg'
 obtain ⟨-, h1 | ⟨q, c, cur, rfl, -, h2, -⟩⟩ := h
 ·rw [h1.1] at hg; cases hg
 ·obtain ⟨-, h3 | ⟨q', c', cur', rfl, -, h4, -⟩⟩ := h'
  ·rw [h3.1] at hg'; cases hg'
  ·cases hg
   cases hg'
   rw [h2] at h4
   simp only [Option.some.injEq, Obj.cells.injEq] at h4
   exact he h4.2.1
/-- Two lists behind an append. -/
theorem rowV2.app {α : Type} {R : World → α → Value → Prop} {t sz lo : Nat} {l m : List α} {v v4 : Value} {us us2 : List Value} {w w4 : World} (h2 : Late (rowS lo v) (fun W => rowCells R sz W l us) w)
  (hx : Late (rowS lo v) (fun W => rowCells R sz W m us2) w) (hg : w.grownBy w4 v.ownBlock) (hat : v4.ownBlock = v.ownBlock ∨ v4.ownBlock = some w.heap.size)
  (h4 : w4.ownsRow lo t sz v4 (l.length + m.length) (us ++ us2)) : rowV2 R t sz lo (l ++ m) v4 w4 := by
 have F := Fr.grown hg
 refine ⟨us ++ us2, by rw [List.length_append]; exact h4, ?_⟩
 exact ((h2.and hx).to F (fun k hk hh => by
  rcases hh with hh | hh | hh
  ·exact .inr hh
  ·exact .inl hh
  ·rcases hat with h | h
   ·exact .inr (h ▸ hh)
   ·rw [h] at hh
    cases hh
    exact absurd hk (Nat.lt_irrefl _))).imp fun W ⟨a, b⟩ => rowCells_app _ _ _ _ a b
theorem T31 : SliceT Try.prog 31 38 (.agg #[.int .u8 0, .slice none 0 0, .int .i64 0, .slice none 0 0, .int .u64 0, .bool false, .string ⟨#[]⟩, .string ⟨#[]⟩, .string ⟨#[]⟩, .bool false, .slice none 0 0]) 11 160 := SliceT.mk' Try.underlying31 (by kernel_rfl) rfl (by decide)
theorem op_late {S : Nat → Prop} {lo : Nat} {W : World} {o : OpD} {pA : Option Addr} {pc : Nat} (hP : W.ownsRow lo 3 1 (.slice pA o.path.length pc) o.path.length (o.path.map (Value.int .i64))) (hS : ∀ g, (Value.slice pA o.path.length pc).ownBlock = some g → ¬ S g) (hto : o.to = []) (hpcs : o.pcs = []) (h1 : okStr o.label) (h2 : okStr o.key) (h3 : okStr o.value) (h4 : 0 ≤ o.id ∧ o.id ≤ 18446744073709551615) (h5 : 0 ≤ o.kind ∧ o.kind ≤ 255) :
  Late S (fun W => RdO W o (.agg #[.int .u8 o.kind, .slice pA o.path.length pc, .int .i64 o.at_, .slice none 0 0, .int .u64 o.id, .bool o.leaf, .string o.label, .string o.key, .string o.value, .bool o.gone, .slice none 0 0])) W := by
 intro W2 F
 exact ⟨_, _, _, rfl, RdS.of_owns (owns_fr F hP hS), by rw [hto]; exact RdS.nil_ _ _, by rw [hpcs]; exact ⟨none, 0, rfl, Nat.le_refl _, by simp [maxLen], fun h => absurd h (by simp)⟩, h1, h2, h3, h4, h5⟩
theorem ones11 {c0 c1 c2 c3 c4 c5 c6 c7 c8 c9 c10 : Value} (h : c0.oneCell' = true ∧ c1.oneCell' = true ∧ c2.oneCell' = true ∧ c3.oneCell' = true ∧ c4.oneCell' = true ∧ c5.oneCell' = true ∧ c6.oneCell' = true ∧ c7.oneCell' = true ∧ c8.oneCell' = true ∧ c9.oneCell' = true ∧ c10.oneCell' = true) : ∀ u ∈ [c0, c1, c2, c3, c4, c5, c6, c7, c8, c9, c10], u.oneCell' = true := by simpa using h
theorem rowCells_ones {W : World} : ∀ (l : List OpD) (us : List Value), rowCells RdO 11 W l us → ∀ u ∈ us, u.oneCell' = true
 | [], us, h => by rw [show us = [] from h]; simp
 | x :: l, us, ⟨cs, us', h1, ⟨pv, tv, cv, he, ⟨pA, pc, hp, _⟩, ⟨tA, tc, ht, _⟩, ⟨cA, cc, hc, _⟩, _⟩, h3, h4⟩ => by
  subst hp ht hc
  simp only [Value.agg.injEq] at he
  have he' := congrArg Array.toList he
  dsimp only at he'
  subst he'
  rw [h3]
  intro u hu
  rcases List.mem_append.1 hu with h | h
  ·revert u
   exact fun u _ hu => ones11 ⟨rfl, rfl, rfl, rfl, rfl, rfl, rfl, rfl, rfl, rfl, rfl⟩ u hu
  ·exact rowCells_ones l us' h4 u h
theorem NBox.row {W : World} {g : Nat} {c0 c1 c2 c3 c4 c5 c6 c7 c8 c9 c10 : Value} (hG : NBox W g 38 #[c0, c1, c2, c3, c4, c5, c6, c7, c8, c9, c10]) : RdS W 11 1 [c0, c1, c2, c3, c4, c5, c6, c7, c8, c9, c10] (.slice (some ⟨g, 0, none⟩) 1 1) :=
 RdS.of_owns (base := 0) (e := 38) ⟨rfl, .inr ⟨g, 1, _, rfl, Nat.zero_le _, hG, Nat.le_refl _, by simp [maxLen], rfl, rfl⟩⟩
/-- What is edited. -/
def editO (p : List Int) (x : Pc) : OpD := ⟨6, p, 0, [], 0, false, ⟨#[]⟩, ⟨#[]⟩, ⟨#[]⟩, false, [x]⟩
theorem editO_late {lo g q : Nat} {W : World} {p : List Int} {x : Pc} {nA : Option Addr} {nc : Nat} (hO : W.ownsRow lo 3 1 (.slice nA p.length nc) p.length (p.map (Value.int .i64))) (hq : NBox W q 49 #[.int .i64 x.keep, .int .i64 x.drop, .string x.put]) (hl : lo ≤ q) (hgO : (Value.slice nA p.length nc).ownBlock ≠ some g) (hqg : q ≠ g) (hx : okStr x.put) :
  Late (fun k => k < lo ∨ k = g) (fun W => (editO p x).rd W (.agg #[.int .u8 6, .slice nA p.length nc, .int .i64 0, .slice none 0 0, .int .u64 0, .bool false, .string ⟨#[]⟩, .string ⟨#[]⟩, .string ⟨#[]⟩, .bool false, .slice (some ⟨q, 0, none⟩) 1 1])) W := by
 intro W2 F
 have hO2 := owns_fr F hO (fun b hb hk => hk.elim (fun h => by have := owns_base hO b hb; omega) (fun h => hgO (by rw [hb, h])))
 have hq2 := hq.fr F (fun hk => hk.elim (fun h => by omega) hqg)
 refine ⟨_, _, _, rfl, RdS.of_owns hO2, RdS.nil_ _ _, ⟨_, 1, rfl, Nat.le_refl _, by simp [maxLen], fun _ => ⟨q, 0, rfl, hq2.cell 0, hq2.cell 1, hq2.cell 2, hx, trivial⟩⟩, ?_, ?_, ?_, ⟨?_, ?_⟩, ?_, ?_⟩
 all_goals first | exact Nat.zero_le _ | (dsimp only [editO]; omega)
end Go.Proofs.Ytofcbclokkjfjaa.Wi
namespace Go.Proofs.Ytofcbclokkjfjaa.Wi
open Go.RowKit Go.Proofs.Ytofcbclokkjfjaa.Bw Go.Proofs.Ytofcbclokkjfjaa.Bs

def editL (rest : ByteArray) (p : List Int) (x : Pc) : List OpD := if rest.size = 0 then [] else [editO p x]
theorem editL_len (rest : ByteArray) (p : List Int) (x : Pc) : (editL rest p x).length ≤ 1 := by unfold editL; split <;> simp
theorem bytes_empty (s : ByteArray) : s.toList.isEmpty = decide (s.size = 0) := by
 rw [ByteArray.toList_eq, show s.size = s.data.toList.length from (Array.length_toList).symm]
 cases s.data.toList <;> simp
set_option maxRecDepth 100000 in
set_option maxHeartbeats 4000000 in
theorem edit40_any (p : List Int) (x : Pc) (rest : ByteArray) (pv : Value) (w : World) (R : Nat) (hp : RdI w p pv) (hR : w.cell? ⟨R, 0, none⟩ = some (.string rest)) (hl : p.length ≤ 1000000) (hx : okStr x.put) :
  Calls Try.prog 40 #[pv, .agg #[.int .i64 x.keep, .int .i64 x.drop, .string x.put], .pointer (some ⟨R, 0, none⟩)] w (fun e W' => Ext w W' ∧ ∃ v, e = .returned v ∧ lsV w.heap.size (editL rest p x) v W') := by
 obtain ⟨w1, hw1⟩ : ∃ W, w.alloc (.cells #[.int .i64 x.keep, .int .i64 x.drop, .string x.put] 49) = W := ⟨_, rfl⟩
 obtain ⟨X, hX⟩ : ∃ X, w.heap.size = X := ⟨_, rfl⟩
 have E1 : Ext w w1 := by rw [← hw1]; exact (Ext.refl w).alloc _
 have HB := Lib.hid (show NBox w1 X 49 #[.int .i64 x.keep, .int .i64 x.drop, .string x.put] from by rw [← hw1, ← hX]; exact NBox.new _ _ _)
 have HE := Lib.hid E1
 have HP := Lib.hid hp
 have HW := Lib.hid hw1
 have HXX := Lib.hid hX
 have r0 := E1.cell hR
 obtain ⟨pA, pc, rfl, -⟩ := hp
 have HED := Lib.hid (show editL rest p x = if rest.size = 0 then [] else [editO p x] from rfl)
 clear hw1 hX E1 hR
 cases hz : rest.toList.isEmpty with
 | true =>
  have HZ : Hid (editL rest p x = []) := Lib.hid (by rw [HED.out, if_pos (by have := bytes_empty rest; rw [hz] at this; exact of_decide_eq_true this.symm)])
  go_enter Try.func40, Try.ntmps40
  go_upto_region 1 with fail
  rw [HW.out, HXX.out]
  go_wp2_with fail
  go_ret
  rw [HZ.out]
  exact ⟨HE.out, _, rfl, lsV.none_ _ _⟩
 | false =>
 have HZ : Hid (editL rest p x = [editO p x]) := Lib.hid (by rw [HED.out, if_neg (by have := bytes_empty rest; rw [hz] at this; exact of_decide_eq_false this.symm)])
 rw [HZ.out]
 go_enter Try.func40, Try.ntmps40
 go_upto_region 1 with fail
 rw [HW.out, HXX.out]
 go_upto_region 3 with fail
 clear r0 hz HED HZ
 obtain ⟨c0, hc0⟩ : ∃ c0, w1.drew = c0 := ⟨_, rfl⟩
 have XC : Ext w1 c0 := by rw [← hc0]; exact (Ext.refl _).drew
 have HE' := Lib.hid (HE.out.trans XC)
 have HB' := Lib.hid (HB.out.ext XC)
 clear XC
 replace HE := HE'; replace HB := HB'
 clear HE' HB'
 refine wp_region_held_drew (S := fun W => NBox W X 49 #[.int .i64 x.keep, .int .i64 x.drop, .string x.put]) (by kernel_rfl) (by rw [hc0]; exact HB.out) (fun hHeld => ?_)
 rw [hc0] at hHeld ⊢
 clear hc0
 refine tk 0 ?_ rfl (.inl ⟨by rfl, ?_⟩) hHeld ?_
 rotate_left
 ·intro w hSw
  try dsimp only at hSw
  go_simp
  all_goals (first | with_reducible rfl | rw [if_pos (by omega)])
 try simp only [Act.put, aS]
 refine tk 2 ?_ rfl (.inl ⟨by rfl, ?_⟩) hHeld ?_
 rotate_left
 ·intro w hSw
  have hb : NBox w X 49 _ := hSw
  have g0 := hb.cell 0
  have g1 := hb.cell 1
  have g2 := hb.cell 2
  clear hb hSw
  go_simp
  all_goals (first | with_reducible rfl | rw [if_pos (by omega)])
 try simp only [Act.put, aS]
 refine wpAnyH_ready (rs := [1, 3]) (by kernel_rfl) (by simp) ?_
 refine AllReadyH.cons (o := ⟨_, _, _, _, _, _⟩) rfl (fun K' hK => ?_) (AllReadyH.cons (o := ⟨_, _, _, _, _, _⟩) rfl (fun K' hK => ?_) AllReadyH.nil)
 ·-- the path first
  have hq := clone_any p _ c0 (RdS.ext HE.out HP.out) hl
  go_simp
  go_at_call 41
  refine hq.mono ?_
  clear hq
  rintro e w2 ⟨r, rfl, hO, hE⟩
  have HO := Lib.hid (owns_lo hO HE.out.size)
  obtain ⟨nA, nc, rfl, -⟩ := RdS.of_owns hO
  have HE' := Lib.hid (HE.out.trans hE)
  refine hK.out _ _ (show NBox _ _ _ _ from NBox.ext hE hHeld) (fun hHeld => ?_)
  clear hK K' hE
  try simp only [Act.put, aS]
  clear hO
  replace HE := HE'
  clear HE'
  obtain ⟨w3, hww3⟩ : ∃ W, w2.alloc (.cells #[.int .i64 x.keep, .int .i64 x.drop, .string x.put] 49) = W := ⟨_, rfl⟩
  obtain ⟨q, hq⟩ : ∃ g, w2.heap.size = g := ⟨_, rfl⟩
  have hE : Ext w2 w3 := by rw [← hww3]; exact (Ext.refl _).alloc _
  have HNq := Lib.hid (show NBox w3 q 49 #[.int .i64 x.keep, .int .i64 x.drop, .string x.put] from by rw [← hww3, ← hq]; exact NBox.new _ _ _)
  have HLq := Lib.hid (show w.heap.size ≤ q from by rw [← hq]; exact HE.out.size)
  have HE' := Lib.hid (HE.out.trans hE)
  have HWw3 := Lib.hid hww3
  have HSq := Lib.hid hq
  clear hww3 hq
  have HO' := Lib.hid (owns_ext hE HO.out)
  refine wpAnyH_ready (rs := [3]) (by kernel_rfl) (by simp) ?_
  refine AllReadyH.cons (o := ⟨_, _, _, _, _, _⟩) rfl (fun K' hK => ?_) AllReadyH.nil
  go_simp
  rw [HWw3.out, HSq.out]
  refine hK.out _ _ (show NBox _ _ _ _ from NBox.ext hE hHeld) (fun hHeld => ?_)
  clear hK K' hE
  try simp only [Act.put, aS]
  replace HE := HE'; replace HO := HO'
  clear HE' HO'
  refine tk 4 ?_ rfl (.inl ⟨by rfl, ?_⟩) hHeld ?_
  rotate_left
  ·intro w hSw
   try dsimp only at hSw
   go_simp
   all_goals (first | with_reducible rfl | rw [if_pos (by omega)])
  try simp only [Act.put, aS]
  obtain ⟨w4, hww4⟩ : ∃ W, w3.alloc (.cells #[.int .u8 6, .slice nA p.length nc, .int .i64 0, .slice none 0 0, .int .u64 0, .bool false, .string ⟨#[]⟩, .string ⟨#[]⟩, .string ⟨#[]⟩, .bool false, .slice (some ⟨q, 0, none⟩) 1 1] 38) = W := ⟨_, rfl⟩
  obtain ⟨g, hg⟩ : ∃ g, w3.heap.size = g := ⟨_, rfl⟩
  have hE : Ext w3 w4 := by rw [← hww4]; exact (Ext.refl _).alloc _
  have HNg := Lib.hid (show NBox w4 g 38 #[.int .u8 6, .slice nA p.length nc, .int .i64 0, .slice none 0 0, .int .u64 0, .bool false, .string ⟨#[]⟩, .string ⟨#[]⟩, .string ⟨#[]⟩, .bool false, .slice (some ⟨q, 0, none⟩) 1 1] from by rw [← hww4, ← hg]; exact NBox.new _ _ _)
  have HLg := Lib.hid (show w.heap.size ≤ g from by rw [← hg]; exact HE.out.size)
  have HE' := Lib.hid (HE.out.trans hE)
  have HWw4 := Lib.hid hww4
  have HSg := Lib.hid hg
  clear hww4 hg
  have HO' := Lib.hid (owns_ext hE HO.out)
  have HNq' := Lib.hid (HNq.out.ext hE)
  have HBg := Lib.hid (show (Value.slice nA p.length nc).ownBlock ≠ some g from fun h => absurd (HO.out.lt g h).2 (by rw [← HSg.out]; exact Nat.lt_irrefl _))
  have HQg := Lib.hid (show q ≠ g from fun h => absurd HNq.out.lt (by rw [h, ← HSg.out]; exact Nat.lt_irrefl _))
  refine wpAnyH_ready (rs := [5]) (by kernel_rfl) (by simp) ?_
  refine AllReadyH.cons (o := ⟨_, _, _, _, _, _⟩) rfl (fun K' hK => ?_) AllReadyH.nil
  go_simp
  rw [HWw4.out, HSg.out]
  refine hK.out _ _ (show NBox _ _ _ _ from NBox.ext hE hHeld) (fun hHeld => ?_)
  clear hK K' hE
  try simp only [Act.put, aS]
  replace HE := HE'; replace HO := HO'; replace HNq := HNq'
  clear HE' HO' HNq'
  refine tk 6 ?_ rfl (.inl ⟨by rfl, ?_⟩) hHeld ?_
  rotate_left
  ·intro w hSw
   try dsimp only at hSw
   go_simp
   all_goals (first | with_reducible rfl | rw [if_pos (by omega)])
  try simp only [Act.put, aS]
  refine wpAnyH_done (by kernel_rfl) ?_ _
  clear hHeld
  go_wp2_with fail
  go_ret
  exact ⟨HE.out, _, rfl, lsV.one HNg.out HLg.out (editO_late HO.out HNq.out HLq.out HBg.out HQg.out hx)⟩
 ·-- the piece first
  obtain ⟨w2, hww2⟩ : ∃ W, c0.alloc (.cells #[.int .i64 x.keep, .int .i64 x.drop, .string x.put] 49) = W := ⟨_, rfl⟩
  obtain ⟨q, hq⟩ : ∃ g, c0.heap.size = g := ⟨_, rfl⟩
  have hE : Ext c0 w2 := by rw [← hww2]; exact (Ext.refl _).alloc _
  have HNq := Lib.hid (show NBox w2 q 49 #[.int .i64 x.keep, .int .i64 x.drop, .string x.put] from by rw [← hww2, ← hq]; exact NBox.new _ _ _)
  have HLq := Lib.hid (show w.heap.size ≤ q from by rw [← hq]; exact HE.out.size)
  have HE' := Lib.hid (HE.out.trans hE)
  have HWw2 := Lib.hid hww2
  have HSq := Lib.hid hq
  clear hww2 hq
  go_simp
  rw [HWw2.out, HSq.out]
  refine hK.out _ _ (show NBox _ _ _ _ from NBox.ext hE hHeld) (fun hHeld => ?_)
  clear hK K' hE
  try simp only [Act.put, aS]
  replace HE := HE'
  clear HE'
  refine wpAnyH_ready (rs := [1]) (by kernel_rfl) (by simp) ?_
  refine AllReadyH.cons (o := ⟨_, _, _, _, _, _⟩) rfl (fun K' hK => ?_) AllReadyH.nil
  have hq := clone_any p _ w2 (RdS.ext HE.out HP.out) hl
  go_simp
  go_at_call 41
  refine hq.mono ?_
  clear hq
  rintro e w3 ⟨r, rfl, hO, hE⟩
  have HO := Lib.hid (owns_lo hO HE.out.size)
  obtain ⟨nA, nc, rfl, -⟩ := RdS.of_owns hO
  have HE' := Lib.hid (HE.out.trans hE)
  have HNq' := Lib.hid (HNq.out.ext hE)
  refine hK.out _ _ (show NBox _ _ _ _ from NBox.ext hE hHeld) (fun hHeld => ?_)
  clear hK K' hE
  try simp only [Act.put, aS]
  clear hO
  replace HE := HE'; replace HNq := HNq'
  clear HE' HNq'
  refine tk 4 ?_ rfl (.inl ⟨by rfl, ?_⟩) hHeld ?_
  rotate_left
  ·intro w hSw
   try dsimp only at hSw
   go_simp
   all_goals (first | with_reducible rfl | rw [if_pos (by omega)])
  try simp only [Act.put, aS]
  obtain ⟨w4, hww4⟩ : ∃ W, w3.alloc (.cells #[.int .u8 6, .slice nA p.length nc, .int .i64 0, .slice none 0 0, .int .u64 0, .bool false, .string ⟨#[]⟩, .string ⟨#[]⟩, .string ⟨#[]⟩, .bool false, .slice (some ⟨q, 0, none⟩) 1 1] 38) = W := ⟨_, rfl⟩
  obtain ⟨g, hg⟩ : ∃ g, w3.heap.size = g := ⟨_, rfl⟩
  have hE : Ext w3 w4 := by rw [← hww4]; exact (Ext.refl _).alloc _
  have HNg := Lib.hid (show NBox w4 g 38 #[.int .u8 6, .slice nA p.length nc, .int .i64 0, .slice none 0 0, .int .u64 0, .bool false, .string ⟨#[]⟩, .string ⟨#[]⟩, .string ⟨#[]⟩, .bool false, .slice (some ⟨q, 0, none⟩) 1 1] from by rw [← hww4, ← hg]; exact NBox.new _ _ _)
  have HLg := Lib.hid (show w.heap.size ≤ g from by rw [← hg]; exact HE.out.size)
  have HE' := Lib.hid (HE.out.trans hE)
  have HWw4 := Lib.hid hww4
  have HSg := Lib.hid hg
  clear hww4 hg
  have HO' := Lib.hid (owns_ext hE HO.out)
  have HNq' := Lib.hid (HNq.out.ext hE)
  have HBg := Lib.hid (show (Value.slice nA p.length nc).ownBlock ≠ some g from fun h => absurd (HO.out.lt g h).2 (by rw [← HSg.out]; exact Nat.lt_irrefl _))
  have HQg := Lib.hid (show q ≠ g from fun h => absurd HNq.out.lt (by rw [h, ← HSg.out]; exact Nat.lt_irrefl _))
  refine wpAnyH_ready (rs := [5]) (by kernel_rfl) (by simp) ?_
  refine AllReadyH.cons (o := ⟨_, _, _, _, _, _⟩) rfl (fun K' hK => ?_) AllReadyH.nil
  go_simp
  rw [HWw4.out, HSg.out]
  refine hK.out _ _ (show NBox _ _ _ _ from NBox.ext hE hHeld) (fun hHeld => ?_)
  clear hK K' hE
  try simp only [Act.put, aS]
  replace HE := HE'; replace HO := HO'; replace HNq := HNq'
  clear HE' HO' HNq'
  refine tk 6 ?_ rfl (.inl ⟨by rfl, ?_⟩) hHeld ?_
  rotate_left
  ·intro w hSw
   try dsimp only at hSw
   go_simp
   all_goals (first | with_reducible rfl | rw [if_pos (by omega)])
  try simp only [Act.put, aS]
  refine wpAnyH_done (by kernel_rfl) ?_ _
  clear hHeld
  go_wp2_with fail
  go_ret
  exact ⟨HE.out, _, rfl, lsV.one HNg.out HLg.out (editO_late HO.out HNq.out HLq.out HBg.out HQg.out hx)⟩
end Go.Proofs.Ytofcbclokkjfjaa.Wi
