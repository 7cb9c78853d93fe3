/- Chapter 10: what stands instead of two operations; nothing of the program is named here but what its contracts tell. (Printed by gsypair.py.) -/
import Derived.Test.YtkimbpeapolcbaaSyIdle
import Derived.Test.YtkimbpeapolcbaaSyLxComp
import Derived.Test.YtkimbpeapolcbaaSyOuOps
import Derived.Test.YtkimbpeapolcbaaSyOuLists
import Derived.Test.YtkimbpeapolcbaaSyBsPcs2
import Derived.Test.YtkimbpeapolcbaaSyLxSmall
import Derived.Test.YtkimbpeapolcbaaSyWiMem
namespace Go.Proofs.Ytkimbpeapolcbaa.Sy
open Go.RowKit Go.Proofs.Ytkimbpeapolcbaa.Bw Go.Proofs.Ytkimbpeapolcbaa.Bs

def OkLen (o : OpD) : Prop := o.path.length ≤ 100000 ∧ o.to.length ≤ 100000 ∧ o.pcs.length ≤ 100000
def busyD (o : OpD) : Bool := o.formed && !idleD o
def insHit (a b : OpD) : Prop := a.kind = 1 ∧ a.path ++ [a.at_] = b.path
instance (a b : OpD) : Decidable (insHit a b) := inferInstanceAs (Decidable (_ ∧ _))
/-- Two of one kind at one path. -/
def pairS (a b : OpD) : Option (List OpD) :=
  if a.kind = 5 then some [bareD b]
  else if a.kind = 4 then (if a.key = b.key then some [bareD b] else none)
  else if a.kind = 6 then (if coE a.pcs b.pcs = 0 then (if (coL a.pcs b.pcs).length = 0 then some [] else some [bareD { b with pcs := coL a.pcs b.pcs }]) else none)
  else none
def pairT (a b : OpD) : Option (List OpD) :=
  if insHit a b ∧ b.kind = 2 then some []
  else if insHit a b ∧ b.kind = 5 then some [bareD { a with label := b.label }]
  else if a.kind = b.kind ∧ a.path = b.path then pairS a b
  else none
/-- What stands instead of two. -/
def pairD (a b : OpD) : Option (List OpD) := if busyD a && busyD b then pairT a b else none
/-- What Pair tells. -/
def PrR (w : World) (o : Option (List OpD)) (e : Ending) (W' : World) : Prop := Ext w W' ∧ match o with
  | none => e = .returned (.tuple #[.slice none 0 0, .bool false])
  | some l => ∃ v, e = .returned (.tuple #[v, .bool true]) ∧ lsV w.heap.size l v W'
theorem OpO.late {t lo g : Nat} {W : World} {o : OpD} {v : Value} {cs : Array Value} (h : OpO 35 lo W o v) (k : OkO o) (hg : NBox W g t cs) (h3 : t ≠ 3) (ht : t ≠ 35) : Late (fun k => k < lo ∨ k = g) (fun W => o.rd W v) W := by
  intro W2 F
  obtain ⟨pA, pc, tA, tc, cA, cc, rfl, k1, k2, k3⟩ := h
  refine OpO.rd (tp := 35) (lo := lo) ⟨_, _, _, _, _, _, rfl, owns_fr F k1 (fun b hb hk => ?_), owns_fr F k2 (fun b hb hk => ?_), owns_fr F k3 (fun b hb hk => ?_)⟩ k
  · exact hk.elim (fun hl => absurd (owns_base k1 b hb) (Nat.not_le.2 hl)) (fun e => hg.not_own k1 h3 (by rw [hb, e]))
  · exact hk.elim (fun hl => absurd (owns_base k2 b hb) (Nat.not_le.2 hl)) (fun e => hg.not_own k2 h3 (by rw [hb, e]))
  · exact hk.elim (fun hl => absurd (owns_base k3 b hb) (Nat.not_le.2 hl)) (fun e => hg.not_own k3 ht (by rw [hb, e]))
theorem wipe_ok {o : OpD} (h : OkO o) {lb : ByteArray} (hl : okStr lb) : OkO { o with label := lb } := ⟨hl, h.key, h.value, h.pcs, h.id, h.kind⟩
theorem swap_ok {o : OpD} (h : OkO o) {l : List Pc} (hl : ∀ p ∈ l, okStr p.put) : OkO { o with pcs := l } := ⟨h.label, h.key, h.value, hl, h.id, h.kind⟩
theorem coL_len (a b : List Pc) : (coL a b).length ≤ 100000 := by
  unfold coL
  split
  · next h =>
    unfold coE at h
    split at h
    · split at h
      next hr =>
        unfold pcsRight at hr
        rw [Bool.and_eq_true, decide_eq_true_eq] at hr
        omega
      · cases h
    · cases h
  · simp
end Go.Proofs.Ytkimbpeapolcbaa.Sy
namespace Go.Proofs.Ytkimbpeapolcbaa.Sy
open Go.RowKit Go.Proofs.Ytkimbpeapolcbaa.Bw Go.Proofs.Ytkimbpeapolcbaa.Bs

/-- What a light operation has. -/
structure LightD (o : OpD) : Prop where
  path : o.path.length ≤ 200
  tto : o.to.length ≤ 200
  pcs : o.pcs.length ≤ 200
  sum : sumP o.pcs ≤ 300
theorem LightD.ok {o : OpD} (h : LightD o) : OkLen o := ⟨by have := h.path; omega, by have := h.tto; omega, by have := h.pcs; omega⟩
theorem light_lens {o : OpD} (h : o.light 200 = true) : o.path.length ≤ 200 ∧ o.to.length ≤ 200 ∧ o.pcs.length ≤ 200 := by
  unfold OpD.light at h
  simp only [Bool.and_eq_true, decide_eq_true_eq] at h
  omega
set_option maxRecDepth 100000 in
set_option maxHeartbeats 2000000 in
theorem light8_any (o : OpD) (v : Value) (w : World) (h : o.rd w v) : Calls Try.prog 8 #[v] w (Ret w fun r _ => ∃ b, r = .bool b ∧ (b = true → LightD o)) := by
  have HRD := Lib.hid h
  obtain ⟨pA, pc, tA, tc, cA, cc, rfl, hP, hT, hC⟩ := rdO_cells h
  obtain ⟨w1, hw1⟩ : ∃ W, w.alloc (.cells #[.int .u8 o.kind, .slice pA o.path.length pc, .int .i64 o.at_, .slice tA o.to.length tc, .int .u64 o.id, .bool o.leaf, .string o.label, .string o.key, .string o.value, .bool o.gone, .slice cA o.pcs.length cc] 26) = W := ⟨_, rfl⟩
  obtain ⟨X, hX⟩ : ∃ X, w.heap.size = X := ⟨_, rfl⟩
  have E1 : Ext w w1 := by rw [← hw1]; exact (Ext.refl w).alloc _
  have HE := Lib.hid E1
  have HB := Lib.hid (show NBox w1 X 26 #[.int .u8 o.kind, .slice pA o.path.length pc, .int .i64 o.at_, .slice tA o.to.length tc, .int .u64 o.id, .bool o.leaf, .string o.label, .string o.key, .string o.value, .bool o.gone, .slice cA o.pcs.length cc] from by rw [← hw1, ← hX]; exact NBox.new _ _ _)
  have HC := Lib.hid hC
  have HW := Lib.hid hw1
  have HXX := Lib.hid hX
  have hc := light_any o _ 200 w1 (OpD.rd_ext E1 h) (by omega)
  have HLL := Lib.hid (fun (h : o.light 200 = true) => light_lens h)
  obtain ⟨f, hf⟩ : ∃ f, o.light 200 = f := ⟨_, rfl⟩
  rw [hf] at hc HLL
  have k0 := HB.out.cell 0
  have k1 := HB.out.cell 1
  have k2 := HB.out.cell 2
  have k3 := HB.out.cell 3
  have k4 := HB.out.cell 4
  have k5 := HB.out.cell 5
  have k6 := HB.out.cell 6
  have k7 := HB.out.cell 7
  have k8 := HB.out.cell 8
  have k9 := HB.out.cell 9
  have k10 := HB.out.cell 10
  clear hw1 hX E1 h hf hP hT hC
  go_enter Try.func8, Try.ntmps8
  go_upto_region 1 with fail
  rw [HW.out, HXX.out]
  clear HW HXX
  go_wp2_with fail
  refine hc.mono ?_
  clear hc k0 k1 k2 k3 k4 k5 k6 k7 k8 k9 k10
  rintro e w2 ⟨r, rfl, rfl, hE⟩
  have HE' := Lib.hid (HE.out.trans hE)
  have HB' := Lib.hid (HB.out.ext hE)
  clear hE HE HB
  cases f with
  | false =>
    go_wp2_with fail
    go_ret
    exact ⟨_, rfl, ⟨false, rfl, fun h => Bool.noConfusion h⟩, HE'.out⟩
  | true =>
  obtain ⟨h1, h2, h3⟩ := HLL.out rfl
  have H123 := Lib.hid (show o.path.length ≤ 200 ∧ o.to.length ≤ 200 ∧ o.pcs.length ≤ 200 from ⟨h1, h2, h3⟩)
  clear HLL h1 h2 h3
  have k10 := HB'.out.cell 10
  have hc := small_any o.pcs _ 300 w2 (RdP.ext HE'.out HC.out) (by decide) (by decide)
  go_wp2_with fail
  refine hc.mono ?_
  clear hc k10
  rintro e w3 ⟨r, rfl, ⟨b, rfl, hb⟩, hE⟩
  have HE2 := Lib.hid (HE'.out.trans hE)
  clear hE HE' HB'
  cases b with
  | false =>
    clear hb
    go_wp2_with fail
    go_ret
    exact ⟨_, rfl, ⟨false, rfl, fun h => Bool.noConfusion h⟩, HE2.out⟩
  | true =>
    have HBB := Lib.hid (hb rfl)
    clear hb
    go_wp2_with fail
    go_ret
    exact ⟨_, rfl, ⟨true, rfl, fun _ => ⟨H123.out.1, H123.out.2.1, H123.out.2.2, HBB.out.2⟩⟩, HE2.out⟩
end Go.Proofs.Ytkimbpeapolcbaa.Sy
namespace Go.Proofs.Ytkimbpeapolcbaa.Sy
open Go.RowKit Go.Proofs.Ytkimbpeapolcbaa.Bw Go.Proofs.Ytkimbpeapolcbaa.Bs

theorem NBox.s11 {W : World} {B : Nat} {t : TypeId} {x0 x1 x2 x3 x4 x5 x6 x7 x8 x9 x10 : Value} (h : NBox W B t #[x0, x1, x2, x3, x4, x5, x6, x7, x8, x9, x10]) (a0 a1 a2 a3 a4 a5 a6 a7 a8 a9 a10 : Value) : NBox (World.setCell (World.setCell (World.setCell (World.setCell (World.setCell (World.setCell (World.setCell (World.setCell (World.setCell (World.setCell (World.setCell W ⟨B, 0, none⟩ a0) ⟨B, 1, none⟩ a1) ⟨B, 2, none⟩ a2) ⟨B, 3, none⟩ a3) ⟨B, 4, none⟩ a4) ⟨B, 5, none⟩ a5) ⟨B, 6, none⟩ a6) ⟨B, 7, none⟩ a7) ⟨B, 8, none⟩ a8) ⟨B, 9, none⟩ a9) ⟨B, 10, none⟩ a10) B t #[a0, a1, a2, a3, a4, a5, a6, a7, a8, a9, a10] := by
  have := (NBox.set (NBox.set (NBox.set (NBox.set (NBox.set (NBox.set (NBox.set (NBox.set (NBox.set (NBox.set (NBox.set h 0 a0) 1 a1) 2 a2) 3 a3) 4 a4) 5 a5) 6 a6) 7 a7) 8 a8) 9 a9) 10 a10)
  simpa using this
theorem Fr.s11 (W : World) (B : Nat) (a0 a1 a2 a3 a4 a5 a6 a7 a8 a9 a10 : Value) : Fr W (World.setCell (World.setCell (World.setCell (World.setCell (World.setCell (World.setCell (World.setCell (World.setCell (World.setCell (World.setCell (World.setCell W ⟨B, 0, none⟩ a0) ⟨B, 1, none⟩ a1) ⟨B, 2, none⟩ a2) ⟨B, 3, none⟩ a3) ⟨B, 4, none⟩ a4) ⟨B, 5, none⟩ a5) ⟨B, 6, none⟩ a6) ⟨B, 7, none⟩ a7) ⟨B, 8, none⟩ a8) ⟨B, 9, none⟩ a9) ⟨B, 10, none⟩ a10) (fun k => k = B) :=
  (Fr.trans (Fr.trans (Fr.trans (Fr.trans (Fr.trans (Fr.trans (Fr.trans (Fr.trans (Fr.trans (Fr.trans (Fr.setCell _ _ _ _) (Fr.setCell _ _ _ _)) (Fr.setCell _ _ _ _)) (Fr.setCell _ _ _ _)) (Fr.setCell _ _ _ _)) (Fr.setCell _ _ _ _)) (Fr.setCell _ _ _ _)) (Fr.setCell _ _ _ _)) (Fr.setCell _ _ _ _)) (Fr.setCell _ _ _ _)) (Fr.setCell _ _ _ _))
theorem info26 : (Try.prog.info? 26).map (·.size) = some 11 := by kernel_rfl
end Go.Proofs.Ytkimbpeapolcbaa.Sy
