/- Chapter 17: GetNode: its closure (58), got at a node (87, 57). (Printed by gwgotn.py.) -/
import Derived.Test.YtoplaokimahdiaaWiRdNode
import Derived.Test.YtoplaokimahdiaaWiGotP
import Derived.Test.YtoplaokimahdiaaWiPutL
namespace Go.Proofs.Ytoplaokimahdiaa.Wi
open Go.RowKit Go.Proofs.Ytoplaokimahdiaa.Bw Go.Proofs.Ytoplaokimahdiaa.Bs

set_option maxRecDepth 100000 in
set_option maxHeartbeats 1000000 in
theorem tried_any2 (fn : FuncId) (cap : Array Value) (hfn : ∀ args W, (callFunc fn args).run Try.prog W = .ok (.enter fn args) W) (Φ : Bool → World → Prop) (S : Nat → Prop) (w : World) (hS : ∀ k, S k → k < w.heap.size)
    (h : ∀ W0, Ext w W0 → w.heap.size < W0.heap.size → Calls Try.prog fn cap W0 fun e W' => (e = .returned (.tuple #[]) ∧ Φ true W' ∧ Fr W0 W' S) ∨ (e = .panicked WR ∧ Φ false W' ∧ Fr W0 W' S)) :
    Calls Try.prog 45 #[.func (.func fn) #[] cap] w fun e W' => ∃ b W1 x, e = .returned (.bool b) ∧ Φ b W1 ∧ NBox W1 w.heap.size 4 #[.bool x] ∧ Fr W1 W' (fun k => k = w.heap.size) := by
  have hmf : ∀ (fn : Fn) (first cap : Array Value) (w : World), (Instr.makeFunc fn first cap).run Try.prog w = .ok (.func fn first cap) w := fun _ _ _ _ => rfl
  obtain ⟨w1, hw1⟩ : ∃ W, w.alloc (.cells #[.bool false] 4) = W := ⟨_, rfl⟩
  have E1 : Ext w w1 := by rw [← hw1]; exact (Ext.refl w).alloc _
  have hb : NBox w1 w.heap.size 4 #[.bool false] := by rw [← hw1]; exact NBox.new _ _ _
  obtain ⟨b, hbb⟩ : ∃ b, w.heap.size = b := ⟨_, rfl⟩
  rw [hbb] at hb hS ⊢
  have hc := h w1 E1 (by rw [← hw1, World.size_alloc, hbb]; exact Nat.lt_succ_self _)
  have HW := Lib.hid hw1
  have HB := Lib.hid hbb
  clear h hw1 hbb
  go_enter_defers Try.func45, Try.ntmps45
  go_wp2_with fail
  rw [HW.out, HB.out]
  go_wp2_with fail
  refine hc.mono ?_
  clear hc
  rintro e W' (⟨rfl, hΦ, hF⟩ | ⟨rfl, hΦ, hF⟩)
  · have hb2 := hb.fr hF (fun hk => by have := hS b hk; omega)
    have c0 : W'.cell? ⟨b, 0, none⟩ = some (.bool false) := hb2.cell 0
    have c1 := hb2.frozen 0
    go_wp2_with fail
    have hb3 : NBox (W'.setCell ⟨b, 0, none⟩ (.bool true)) b 4 #[.bool true] := hb2.set 0 _
    refine leaves_cons (f := 79) (args := #[.pointer (some ⟨b, 0, none⟩)]) (by simp) (by simp [go_sem]) ?_
    refine (catch_idle b true _ hb3).mono ?_
    rintro e u' w'' ⟨rfl, rfl, rfl⟩
    have hb4 : NBox ((W'.setCell ⟨b, 0, none⟩ (.bool true)).setCell ⟨b, 0, none⟩ (.bool true)) b 4 #[.bool true] := hb3.set 0 _
    have c4 : ((W'.setCell ⟨b, 0, none⟩ (.bool true)).setCell ⟨b, 0, none⟩ (.bool true)).cell? ⟨b, 0, none⟩ = some (.bool true) := hb4.cell 0
    simp [Leaves, settle, results, Try.results45, go_sem, c4]
    exact ⟨W', hΦ, .inl hb2, (Fr.setCell _ _ _ _).trans (Fr.setCell _ _ _ _)⟩
  · have hb2 := hb.fr hF (fun hk => by have := hS b hk; omega)
    go_wp2_with fail
    refine leaves_cons (f := 79) (args := #[.pointer (some ⟨b, 0, none⟩)]) (by simp) (by simp [go_sem]) ?_
    refine (catch_throw b false _ hb2).mono ?_
    rintro e u' w'' ⟨rfl, rfl, w2, hX, rfl⟩
    have hb3 : NBox w2 b 4 #[.bool false] := hb2.ext hX
    have hb4 : NBox (w2.setCell ⟨b, 0, none⟩ (.bool false)) b 4 #[.bool false] := hb3.set 0 _
    have c4 : (w2.setCell ⟨b, 0, none⟩ (.bool false)).cell? ⟨b, 0, none⟩ = some (.bool false) := hb4.cell 0
    simp [Leaves, settle, results, Try.results45, go_sem, c4]
    exact ⟨W', hΦ, .inl hb2, (Fr.of_ext hX _).trans (Fr.setCell _ _ _ _)⟩
set_option maxRecDepth 100000 in
set_option maxHeartbeats 1000000 in
theorem node_rd0 : NodeR 0 := by
  intro d bs w0 w B hd h
  have hd65 : d = 65 := by omega
  subst hd65
  obtain ⟨w1, hw1⟩ : ∃ W, ((w.alloc (.cells #[.pointer (some ⟨B, 0, none⟩)] 83)).alloc (.cells #[.int .i64 65] 3)).alloc (.cells #[.int .u64 0, .bool false, .string ⟨#[]⟩, .slice none 0 0, .string ⟨#[]⟩, .slice none 0 0] 32) = W := ⟨_, rfl⟩
  obtain ⟨R, hR⟩ : ∃ R, w.heap.size = R := ⟨_, rfl⟩
  have s1 : (w.alloc (.cells #[.pointer (some ⟨B, 0, none⟩)] 83)).heap.size = R + 1 := by rw [World.size_alloc, hR]
  have E1 : Ext w w1 := by rw [← hw1]; exact (((Ext.refl w).alloc _).alloc _).alloc _
  have bP : NBox w1 (R + 1) 3 #[.int .i64 65] := by rw [← hw1, ← s1]; exact (NBox.new _ 3 _).ext ((Ext.refl _).alloc _)
  have p0 := bP.cell 0
  have HX := Lib.hid (h.ext.trans E1)
  have HW := Lib.hid hw1
  have HRR := Lib.hid hR
  have HE := Lib.hid E1
  have hwant := want_no w1
  clear hw1 hR s1 bP h E1
  rw [show ((65 : Nat) : Int) = 65 from rfl]
  go_enter Try.func59, Try.ntmps59
  go_upto_region 1 with fail
  rw [HW.out, HRR.out]
  go_wp2_with fail
  refine hwant.mono ?_
  rintro e w2 ⟨rfl, rfl⟩
  go_wp2_with fail
  exact ⟨rfl, RdC.no rfl HX.out (Fr.of_ext HE.out _)⟩
theorem node_rd_all : ∀ k, NodeR k
  | 0 => node_rd0
  | k + 1 => node_rd k (node_rd_all k)
theorem enters58 : ∀ args W, (callFunc 58 args).run Try.prog W = .ok (.enter 58 args) W := fun args W => by kernel_rfl
set_option maxRecDepth 100000 in
set_option maxHeartbeats 4000000 in
theorem gnode1_any (bs : List UInt8) (w0 w : World) (B : Nat) (h : RS w0 w B bs) : Calls Try.prog 58 #[.pointer (some ⟨B, 0, none⟩)] w (RdC w0 w B (ndV w.heap.size) (nodeP 65 bs)) := by
  obtain ⟨w1, hw1⟩ : ∃ W, w.alloc (.cells #[.int .u64 0, .bool false, .string ⟨#[]⟩, .slice none 0 0, .string ⟨#[]⟩, .slice none 0 0] 32) = W := ⟨_, rfl⟩
  obtain ⟨Y, hY⟩ : ∃ Y, w.heap.size = Y := ⟨_, rfl⟩
  have E1 : Ext w w1 := by rw [← hw1]; exact (Ext.refl w).alloc _
  have bY : NBox w1 Y 32 #[.int .u64 0, .bool false, .string ⟨#[]⟩, .slice none 0 0, .string ⟨#[]⟩, .slice none 0 0] := by rw [← hw1, ← hY]; exact NBox.new _ _ _
  have hRS := h.more E1
  obtain ⟨rv0, hbx0, -⟩ := hRS.box
  have hYB : Y ≠ B := NBox.apart bY hbx0 (by decide)
  have hY0 : w0.heap.size ≤ Y := by rw [← hY]; exact h.ext.size
  have hc : Calls Try.prog 59 #[.pointer (some ⟨B, 0, none⟩), .int .i64 0] w1 (RdC w0 w1 B (ndV w1.heap.size) (nodeP 65 bs))   := node_rd_all 65 0 bs w0 w1 B rfl hRS
  obtain ⟨p, hp⟩ : ∃ p, nodeP 65 bs = p := ⟨_, rfl⟩
  rw [hp] at hc ⊢
  have HE := Lib.hid E1
  have HW := Lib.hid hw1
  have HYY := Lib.hid hY
  have HBY := Lib.hid bY
  clear hw1 hY bY hRS hbx0 h E1 hp
  go_enter Try.func58, Try.ntmps58
  go_upto_region 1 with fail
  rw [HW.out, HYY.out]
  go_wp2_with fail
  refine hc.mono ?_
  clear hc
  rintro e w2 ⟨hX, hF, hP⟩
  have HX := Lib.hid hX
  have HF := Lib.hid ((Fr.of_ext HE.out _).trans hF)
  have HB2 := Lib.hid (HBY.out.fr hF hYB)
  clear hX hF
  cases p with
  | none =>
    subst hP
    go_wp2_with fail
    exact ⟨rfl, RdC.no rfl HX.out HF.out⟩
  | some xr =>
    obtain ⟨x, r⟩ := xr
    obtain ⟨v, rfl, hv, hR⟩ := hP
    obtain ⟨aA, ac, kA, kc, rfl⟩ := hv.open
    have HV := Lib.hid hv
    have HR := Lib.hid hR
    have y0 := HB2.out.cell 0
    have z0 := HB2.out.frozen 0
    have y1 := HB2.out.cell 1
    have z1 := HB2.out.frozen 1
    have y2 := HB2.out.cell 2
    have z2 := HB2.out.frozen 2
    have y3 := HB2.out.cell 3
    have z3 := HB2.out.frozen 3
    have y4 := HB2.out.cell 4
    have z4 := HB2.out.frozen 4
    have y5 := HB2.out.cell 5
    have z5 := HB2.out.frozen 5
    clear hv hR
    go_wp2_with fail
    refine bodyPost_ret (results_st rfl _ rfl (HB2.out.six _ _ _ _ _ _) Try.underlying32 rfl info32) rfl ?_
    have F2 := Fr.six w2 Y (.int .u64 x.id) (.bool x.leaf) (.string x.label) (.slice aA x.attrs.length ac) (.string x.text) (.slice kA x.kids.length kc)
    obtain ⟨rv2, hbx2, hrd2⟩ := HR.out.box
    have hlt : Y < w1.heap.size := HBY.out.lt
    refine RdC.yes rfl ?_ ⟨Fr.ext HR.out.ext F2 (fun i hi => by rw [hi]; exact hY0), HR.out.hB, rv2, hbx2.fr F2 (fun hh => hYB hh.symm), hrd2⟩ (Fr.new ((HF.out.mono fun i hi => .inl hi).trans (F2.mono fun i hi => .inr (by rw [hi, ← HYY.out]; exact Nat.le_refl _))))
    exact Late.low (Late.to HV.out F2 (fun i _ hh => hh.elim (fun h => by rw [show i = Y from h]; exact hlt) id)) HE.out.size
/-- What the closure of got does at a node. -/
def GotN1 (lo : Nat) (w0 w : World) (B X : Nat) (p : Option (Nd × List UInt8)) (e : Ending) (W' : World) : Prop :=
  Fr w W' (fun k => k = B ∨ k = X) ∧ match p with
  | none => e = .panicked WR ∧ Ext w0 W'
  | some (x, r) => e = .returned (.tuple #[]) ∧ (∃ aA ac kA kc, NBox W' X 32 #[.int .u64 x.id, .bool x.leaf, .string x.label, .slice aA x.attrs.length ac, .string x.text, .slice kA x.kids.length kc] ∧ ndV lo x (.agg #[.int .u64 x.id, .bool x.leaf, .string x.label, .slice aA x.attrs.length ac, .string x.text, .slice kA x.kids.length kc]) W') ∧ RS w0 W' B r
set_option maxRecDepth 100000 in
set_option maxHeartbeats 1000000 in
theorem gotn1_any (fn : FuncId) (hfn : ∀ args W, (callFunc fn args).run Try.prog W = .ok (.enter fn args) W) (p : Option (Nd × List UInt8)) (bs : List UInt8) (w0 w : World) (B F R X : Nat) (h : RS w0 w B bs) (bF : NBox w F 101 #[.func (.func fn) #[] #[]]) (bR : NBox w R 83 #[.pointer (some ⟨B, 0, none⟩)]) (bX : NBox w X 32 #[.int .u64 0, .bool false, .string ⟨#[]⟩, .slice none 0 0, .string ⟨#[]⟩, .slice none 0 0]) (hX : w0.heap.size ≤ X)
    (hc : Calls Try.prog fn #[.pointer (some ⟨B, 0, none⟩)] w (RdC w0 w B (ndV w.heap.size) p)) :
    Calls Try.prog 87 #[.pointer (some ⟨F, 0, none⟩), .pointer (some ⟨R, 0, none⟩), .pointer (some ⟨X, 0, none⟩)] w (GotN1 w.heap.size w0 w B X p) := by
  obtain ⟨rv, hbx, -⟩ := h.box
  have hBX : X ≠ B := NBox.apart bX hbx (by decide)
  have f0 := bF.cell 0
  have r0 := bR.cell 0
  have hXlt := bX.lt
  have HBX := Lib.hid bX
  have HC := Lib.hid hc
  clear bF bR bX h hbx hc
  go_enter Try.func87, Try.ntmps87
  go_wp2_with fail
  refine HC.out.mono ?_
  clear HC r0 f0
  rintro e W' ⟨hX2, hF, hP⟩
  cases p with
  | none =>
    subst hP
    have HX := Lib.hid hX2
    have HF := Lib.hid hF
    clear hX2 hF
    go_wp2_with fail
    exact ⟨rfl, HF.out.mono (fun k hk => .inl hk), rfl, HX.out⟩
  | some xr =>
    obtain ⟨x, r⟩ := xr
    obtain ⟨v, rfl, hv, hR⟩ := hP
    have hb2 := HBX.out.fr hF hBX
    have HB2 := Lib.hid hb2
    have HF := Lib.hid hF
    have HR := Lib.hid hR
    have HV := Lib.hid hv
    obtain ⟨aA, ac, kA, kc, rfl⟩ := hv.open
    have y0 := hb2.cell 0
    have z0 := hb2.frozen 0
    have y1 := hb2.cell 1
    have z1 := hb2.frozen 1
    have y2 := hb2.cell 2
    have z2 := hb2.frozen 2
    have y3 := hb2.cell 3
    have z3 := hb2.frozen 3
    have y4 := hb2.cell 4
    have z4 := hb2.frozen 4
    have y5 := hb2.cell 5
    have z5 := hb2.frozen 5
    clear hX2 hF hb2 hR hv
    go_wp2_with fail
    go_end0
    have F2 := Fr.six W' X (.int .u64 x.id) (.bool x.leaf) (.string x.label) (.slice aA x.attrs.length ac) (.string x.text) (.slice kA x.kids.length kc)
    refine ⟨(HF.out.mono (fun k hk => .inl hk)).trans (F2.mono fun k hk => .inr hk), rfl, ⟨_, _, _, _, HB2.out.six _ _ _ _ _ _, HV.out.to F2 (fun i _ hh => hh.elim (fun h => by rw [show i = X from h]; exact hXlt) id)⟩, ?_⟩
    obtain ⟨rv2, hbx2, hrd2⟩ := HR.out.box
    exact ⟨Fr.ext HR.out.ext F2 (fun k hk => by rw [hk]; exact hX), HR.out.hB, rv2, hbx2.fr F2 (fun hh => hBX hh.symm), hrd2⟩
/-- All of bytes, if it is put as these. -/
def gotO {α : Type} (p : Option (α × List UInt8)) (putE : α → Option (List UInt8)) (bs : List UInt8) : Option α := match p with
  | some (x, []) => if bytesOf (putE x) = bs then some x else none
  | _ => none
/-- What GetNode tells. -/
def GotRN (w : World) (o : Option Nd) (e : Ending) (W' : World) : Prop :=
  Ext w W' ∧ match o with
  | none => e = .returned (.tuple #[.agg #[.int .u64 0, .bool false, .string ⟨#[]⟩, .slice none 0 0, .string ⟨#[]⟩, .slice none 0 0], .int .i64 170])
  | some x => ∃ v, e = .returned (.tuple #[v, .int .i64 0]) ∧ ndV w.heap.size x v W'
theorem results_nd {P : Program} {fn : Func} {p u : Tmp} {ty : TypeId} (h : fn.results = #[.cell p ty, .tmp u]) {tmps : Array Value} {w : World} {g : Nat} {cs : Array Value} {d : TypeDesc} {b : Value}
    (hp : tmps.getD p undef = .pointer (some ⟨g, 0, none⟩)) (hu' : tmps.getD u undef = b) (hg : NBox w g ty cs)
    (hu : P.underlying ty = some d) (hd : (match d with | .struct _ | .array _ _ => true | _ => false) = true) (hi : (P.info? ty).map (·.size) = some cs.size) :
    (results fn tmps).run P w = .ok (.tuple #[.agg cs, b]) w := by
  rw [results_cell_tmp h, hp, hu']
  simp [asAddr, run_loadVar_row w g ty ty cs (0, 0) d hg hu hd hi, Result.andThen]
theorem enters87 : ∀ args W, (callFunc 87 args).run Try.prog W = .ok (.enter 87 args) W := fun args W => by kernel_rfl
set_option maxRecDepth 100000 in
set_option maxHeartbeats 4000000 in
theorem gotn_any (fn pn : FuncId) (hfn : ∀ args W, (callFunc fn args).run Try.prog W = .ok (.enter fn args) W) (hpn : ∀ args W, (callFunc pn args).run Try.prog W = .ok (.enter pn args) W) (p : Option (Nd × List UInt8)) (putE : Nd → Option (List UInt8)) (bs : List UInt8) (bv : Value) (w : World) (h : RdS w 1 bs.length (u8s bs) bv)
    (hone : ∀ W B, RS w W B bs → Calls Try.prog fn #[.pointer (some ⟨B, 0, none⟩)] W (RdC w W B (ndV W.heap.size) p))
    (hput : ∀ W x v, x.rd W v → Calls Try.prog pn #[v] W (PutR W (putE x))) :
    Calls Try.prog 57 #[bv, .func (.func fn) #[] #[], .func (.func pn) #[] #[]] w (GotRN w (gotO p putE bs)) := by
  have hmf : ∀ (fn : Fn) (first cap : Array Value) (w : World), (Instr.makeFunc fn first cap).run Try.prog w = .ok (.func fn first cap) w := fun _ _ _ _ => rfl
  have hnot : ∀ (x : Bool) (w : World), (Op.unary .not (.bool x)).run Try.prog w = .ok (.bool (!x)) w := fun _ _ => rfl
  obtain ⟨w4, hw4⟩ : ∃ W, ((((((w.alloc (.cells #[.func (.func fn) #[] #[]] 101)).alloc (.cells #[.int .u64 0, .bool false, .string ⟨#[]⟩, .slice none 0 0, .string ⟨#[]⟩, .slice none 0 0] 32)).alloc (.cells #[.int .u64 0, .bool false, .string ⟨#[]⟩, .slice none 0 0, .string ⟨#[]⟩, .slice none 0 0] 32)).alloc (.cells #[.int .u64 0, .bool false, .string ⟨#[]⟩, .slice none 0 0, .string ⟨#[]⟩, .slice none 0 0] 32)).alloc (.cells #[bv] 85)).alloc (.cells #[.pointer (some ⟨w.heap.size + 1 + 1 + 1 + 1, 0, none⟩)] 83)) = W := ⟨_, rfl⟩
  obtain ⟨N, hN⟩ : ∃ N, w.heap.size = N := ⟨_, rfl⟩
  have s1 : (w.alloc (.cells #[.func (.func fn) #[] #[]] 101)).heap.size = N + 1 := by rw [World.size_alloc, hN]
  have s2 : ((w.alloc (.cells #[.func (.func fn) #[] #[]] 101)).alloc (.cells #[.int .u64 0, .bool false, .string ⟨#[]⟩, .slice none 0 0, .string ⟨#[]⟩, .slice none 0 0] 32)).heap.size = N + 1 + 1 := by rw [World.size_alloc, s1]
  have s3 : (((w.alloc (.cells #[.func (.func fn) #[] #[]] 101)).alloc (.cells #[.int .u64 0, .bool false, .string ⟨#[]⟩, .slice none 0 0, .string ⟨#[]⟩, .slice none 0 0] 32)).alloc (.cells #[.int .u64 0, .bool false, .string ⟨#[]⟩, .slice none 0 0, .string ⟨#[]⟩, .slice none 0 0] 32)).heap.size = N + 1 + 1 + 1 := by rw [World.size_alloc, s2]
  have s4 : ((((w.alloc (.cells #[.func (.func fn) #[] #[]] 101)).alloc (.cells #[.int .u64 0, .bool false, .string ⟨#[]⟩, .slice none 0 0, .string ⟨#[]⟩, .slice none 0 0] 32)).alloc (.cells #[.int .u64 0, .bool false, .string ⟨#[]⟩, .slice none 0 0, .string ⟨#[]⟩, .slice none 0 0] 32)).alloc (.cells #[.int .u64 0, .bool false, .string ⟨#[]⟩, .slice none 0 0, .string ⟨#[]⟩, .slice none 0 0] 32)).heap.size = N + 1 + 1 + 1 + 1 := by rw [World.size_alloc, s3]
  have s5 : (((((w.alloc (.cells #[.func (.func fn) #[] #[]] 101)).alloc (.cells #[.int .u64 0, .bool false, .string ⟨#[]⟩, .slice none 0 0, .string ⟨#[]⟩, .slice none 0 0] 32)).alloc (.cells #[.int .u64 0, .bool false, .string ⟨#[]⟩, .slice none 0 0, .string ⟨#[]⟩, .slice none 0 0] 32)).alloc (.cells #[.int .u64 0, .bool false, .string ⟨#[]⟩, .slice none 0 0, .string ⟨#[]⟩, .slice none 0 0] 32)).alloc (.cells #[bv] 85)).heap.size = N + 1 + 1 + 1 + 1 + 1 := by rw [World.size_alloc, s4]
  have E4 : Ext w w4 := by rw [← hw4]; exact (((((((Ext.refl _).alloc _).alloc _).alloc _).alloc _).alloc _).alloc _)
  have bF : NBox w4 (N) 101 #[.func (.func fn) #[] #[]] := by rw [← hw4, ← hN]; exact (NBox.new _ 101 _).ext ((((((Ext.refl _).alloc _).alloc _).alloc _).alloc _).alloc _)
  have bO : NBox w4 (N + 1) 32 #[.int .u64 0, .bool false, .string ⟨#[]⟩, .slice none 0 0, .string ⟨#[]⟩, .slice none 0 0] := by rw [← hw4, ← s1]; exact (NBox.new _ 32 _).ext (((((Ext.refl _).alloc _).alloc _).alloc _).alloc _)
  have bX : NBox w4 (N + 1 + 1) 32 #[.int .u64 0, .bool false, .string ⟨#[]⟩, .slice none 0 0, .string ⟨#[]⟩, .slice none 0 0] := by rw [← hw4, ← s2]; exact (NBox.new _ 32 _).ext ((((Ext.refl _).alloc _).alloc _).alloc _)
  have bE : NBox w4 (N + 1 + 1 + 1) 32 #[.int .u64 0, .bool false, .string ⟨#[]⟩, .slice none 0 0, .string ⟨#[]⟩, .slice none 0 0] := by rw [← hw4, ← s3]; exact (NBox.new _ 32 _).ext (((Ext.refl _).alloc _).alloc _)
  have bB : NBox w4 (N + 1 + 1 + 1 + 1) 85 #[bv] := by rw [← hw4, ← s4]; exact (NBox.new _ 85 _).ext ((Ext.refl _).alloc _)
  have bR : NBox w4 (N + 1 + 1 + 1 + 1 + 1) 83 #[.pointer (some ⟨N + 1 + 1 + 1 + 1, 0, none⟩)] := by rw [← hw4, ← s5, ← hN]; exact NBox.new _ 83 _
  rw [hN] at hw4
  have hlt := bR.lt
  have hRS : RS w w4 (N + 1 + 1 + 1 + 1) bs := ⟨E4, by omega, bv, bB, h⟩
  have hc := tried_any2 87 #[.pointer (some ⟨N, 0, none⟩), .pointer (some ⟨N + 1 + 1 + 1 + 1 + 1, 0, none⟩), .pointer (some ⟨N + 1 + 1, 0, none⟩)] enters87
    (fun b W' => match b with
      | true => ∃ x r, p = some (x, r) ∧ (∃ aA ac kA kc, NBox W' (N + 1 + 1) 32 #[.int .u64 x.id, .bool x.leaf, .string x.label, .slice aA x.attrs.length ac, .string x.text, .slice kA x.kids.length kc] ∧ ndV (w4.heap.size + 1) x (.agg #[.int .u64 x.id, .bool x.leaf, .string x.label, .slice aA x.attrs.length ac, .string x.text, .slice kA x.kids.length kc]) W') ∧ RS w W' (N + 1 + 1 + 1 + 1) r ∧ NBox W' (N + 1 + 1 + 1 + 1 + 1) 83 #[.pointer (some ⟨N + 1 + 1 + 1 + 1, 0, none⟩)] ∧ NBox W' (N + 1) 32 #[.int .u64 0, .bool false, .string ⟨#[]⟩, .slice none 0 0, .string ⟨#[]⟩, .slice none 0 0] ∧ NBox W' (N + 1 + 1 + 1) 32 #[.int .u64 0, .bool false, .string ⟨#[]⟩, .slice none 0 0, .string ⟨#[]⟩, .slice none 0 0]
      | false => p = none ∧ Ext w W' ∧ NBox W' (N + 1) 32 #[.int .u64 0, .bool false, .string ⟨#[]⟩, .slice none 0 0, .string ⟨#[]⟩, .slice none 0 0] ∧ NBox W' (N + 1 + 1 + 1) 32 #[.int .u64 0, .bool false, .string ⟨#[]⟩, .slice none 0 0, .string ⟨#[]⟩, .slice none 0 0]) (fun k => k = (N + 1 + 1 + 1 + 1) ∨ k = (N + 1 + 1)) w4 (fun k hk => by omega)
    (fun W0 hW0 hS0 => (gotn1_any fn hfn p bs w W0 (N + 1 + 1 + 1 + 1) N (N + 1 + 1 + 1 + 1 + 1) (N + 1 + 1) (hRS.more hW0) (bF.ext hW0) (bR.ext hW0) (bX.ext hW0) (by omega) (hone W0 (N + 1 + 1 + 1 + 1) (hRS.more hW0))).mono fun e W' ⟨hF, hP⟩ => by
      have bR2 := (bR.ext hW0).fr hF (by omega)
      have bO2 := (bO.ext hW0).fr hF (by omega)
      have bE2 := (bE.ext hW0).fr hF (by omega)
      cases p with
      | none => exact .inr ⟨hP.1, ⟨rfl, hP.2, bO2, bE2⟩, hF⟩
      | some xr =>
        obtain ⟨x, r⟩ := xr
        obtain ⟨h1, ⟨aA, ac, kA, kc, h2, h3⟩, h4⟩ := hP
        exact .inl ⟨h1, ⟨x, r, rfl, ⟨aA, ac, kA, kc, h2, h3.low hS0⟩, h4, bR2, bO2, bE2⟩, hF⟩)
  have HC := Lib.hid hc
  have HW := Lib.hid hw4
  have HN := Lib.hid hN
  have HRD := Lib.hid h
  have HE4 := Lib.hid E4
  have HPUT := Lib.hid hput
  obtain ⟨A, c, rfl, -⟩ := h
  clear hc hw4 hN s1 s2 s3 s4 s5 bF bO bX bE bB bR hRS hput hone E4
  go_enter Try.func57, Try.ntmps57
  go_wp2_with fail
  rw [HN.out, HW.out]
  refine HC.out.mono ?_
  clear HC HW
  rintro e W' ⟨b, W1, x0, rfl, hΦ, hok, hF⟩
  cases b with
  | false =>
    obtain ⟨rfl, hX, hbO, hbE⟩ := hΦ
    have HX := Lib.hid (show Ext w W' from Fr.ext hX hF (fun k hk => by have := HE4.out.size; omega))
    have HO := Lib.hid (hbO.fr hF (by omega))
    have HEE := Lib.hid (hbE.fr hF (by omega))
    have hNw := HN.out
    clear hok hF hX hbO hbE
    have y0 := HEE.out.cell 0
    have y1 := HEE.out.cell 1
    have y2 := HEE.out.cell 2
    have y3 := HEE.out.cell 3
    have y4 := HEE.out.cell 4
    have y5 := HEE.out.cell 5
    have f0 := HO.out.frozen 0
    have f1 := HO.out.frozen 1
    have f2 := HO.out.frozen 2
    have f3 := HO.out.frozen 3
    have f4 := HO.out.frozen 4
    have f5 := HO.out.frozen 5
    have g0 := HO.out.cell 0
    have g1 := HO.out.cell 1
    have g2 := HO.out.cell 2
    have g3 := HO.out.cell 3
    have g4 := HO.out.cell 4
    have g5 := HO.out.cell 5
    go_wp2_with fail
    refine bodyPost_ret (results_nd rfl rfl rfl (HO.out.six _ _ _ _ _ _) Try.underlying32 rfl info32) rfl ?_
    have F2 := Fr.six W' (N + 1) (.int .u64 0) (.bool false) (.string ⟨#[]⟩) (.slice none 0 0) (.string ⟨#[]⟩) (.slice none 0 0)
    exact ⟨Fr.ext HX.out F2 (fun k hk => by rw [hk]; omega), rfl⟩
  | true =>
    obtain ⟨x, r, rfl, ⟨aA, ac, kA, kc, hbX, hV⟩, hRS, hbR, hbO, hbE⟩ := hΦ
    have hX2 : Ext w W' := Fr.ext hRS.ext hF (fun k hk => by have := HE4.out.size; omega)
    have hbX2 := hbX.fr hF (by omega)
    have hbR2 := hbR.fr hF (by omega)
    have HO := Lib.hid (hbO.fr hF (by omega))
    have HEE := Lib.hid (hbE.fr hF (by omega))
    obtain ⟨rv, hbB, hrd⟩ := hRS.box
    have hbB2 := hbB.fr hF (by omega)
    have hnlt : N + 1 < w4.heap.size := by omega
    have hV2 : ndV (w4.heap.size + 1) x (.agg #[.int .u64 x.id, .bool x.leaf, .string x.label, .slice aA x.attrs.length ac, .string x.text, .slice kA x.kids.length kc]) W' := hV.to (S' := old (w4.heap.size + 1)) hF (fun i _ hh => hh.elim (fun h => by rw [show i = w4.heap.size from h]; exact Nat.lt_succ_self _) id)
    have HBX := Lib.hid hbX2
    have r0 := hbR2.cell 0
    have b0 := hbB2.cell 0
    have HX := Lib.hid hX2
    have HV := Lib.hid hV2
    have hNw := HN.out
    obtain ⟨rA, rc, rfl, -⟩ := hrd
    clear hbX hbR hbB hbX2 hbR2 hbB2 hF hok hRS hX2 hV hV2 hbO hbE
    cases r with
    | cons y r =>
      have t1 : decide (0 < (y :: r).length) = true := rfl
      have t1' : decide ((0 : Int) < ((y :: r).length : Int)) = true := decide_eq_true (by rw [List.length_cons]; omega)
      obtain ⟨m, hm⟩ : ∃ m, (y :: r).length = m := ⟨_, rfl⟩
      rw [hm] at t1 t1' b0
      clear hm
      have y0 := HEE.out.cell 0
      have y1 := HEE.out.cell 1
      have y2 := HEE.out.cell 2
      have y3 := HEE.out.cell 3
      have y4 := HEE.out.cell 4
      have y5 := HEE.out.cell 5
      have f0 := HO.out.frozen 0
      have f1 := HO.out.frozen 1
      have f2 := HO.out.frozen 2
      have f3 := HO.out.frozen 3
      have f4 := HO.out.frozen 4
      have f5 := HO.out.frozen 5
      have g0 := HO.out.cell 0
      have g1 := HO.out.cell 1
      have g2 := HO.out.cell 2
      have g3 := HO.out.cell 3
      have g4 := HO.out.cell 4
      have g5 := HO.out.cell 5
      go_wp2_with fail
      refine bodyPost_ret (results_nd rfl rfl rfl (HO.out.six _ _ _ _ _ _) Try.underlying32 rfl info32) rfl ?_
      have F2 := Fr.six W' (N + 1) (.int .u64 0) (.bool false) (.string ⟨#[]⟩) (.slice none 0 0) (.string ⟨#[]⟩) (.slice none 0 0)
      exact ⟨Fr.ext HX.out F2 (fun k hk => by rw [hk]; omega), rfl⟩
    | nil =>
      have hc := HPUT.out W' x _ HV.out.now
      have x0 := HBX.out.cell 0
      have x1 := HBX.out.cell 1
      have x2 := HBX.out.cell 2
      have x3 := HBX.out.cell 3
      have x4 := HBX.out.cell 4
      have x5 := HBX.out.cell 5
      go_wp2_with fail
      refine hc.mono ?_
      clear hc r0 b0 x0 x1 x2 x3 x4 x5
      rintro e W2 ⟨hX3, v2, rfl, hO⟩
      have hq := equal_any (bytesOf (putE x)) bs _ _ W2 (RdS.of_owns hO) (RdS.ext (HX.out.trans hX3) HRD.out)
      have HBX2 := Lib.hid (HBX.out.ext hX3)
      have HO2 := Lib.hid (HO.out.ext hX3)
      have HE2 := Lib.hid (HEE.out.ext hX3)
      have HV2 := Lib.hid (show ndV (w4.heap.size + 1) x _ W2 from HV.out.ext hX3)
      have HX3 := Lib.hid (HX.out.trans hX3)
      obtain ⟨uA, uC, rfl, -⟩ := RdS.of_owns hO
      clear hO hX3
      by_cases hb : bytesOf (putE x) = bs
      · rw [show decide (bytesOf (putE x) = bs) = true from decide_eq_true hb] at hq
        have HG : Hid (gotO (some (x, [])) putE bs = some x) := Lib.hid (if_pos hb)
        clear hb
        go_wp2_with fail
        refine hq.mono ?_
        clear hq
        rintro e W3 ⟨rfl, rfl⟩
        have x0 := HBX2.out.cell 0
        have x1 := HBX2.out.cell 1
        have x2 := HBX2.out.cell 2
        have x3 := HBX2.out.cell 3
        have x4 := HBX2.out.cell 4
        have x5 := HBX2.out.cell 5
        have g0 := HO2.out.cell 0
        have g1 := HO2.out.cell 1
        have g2 := HO2.out.cell 2
        have g3 := HO2.out.cell 3
        have g4 := HO2.out.cell 4
        have g5 := HO2.out.cell 5
        have f0 := HO2.out.frozen 0
        have f1 := HO2.out.frozen 1
        have f2 := HO2.out.frozen 2
        have f3 := HO2.out.frozen 3
        have f4 := HO2.out.frozen 4
        have f5 := HO2.out.frozen 5
        go_wp2_with fail
        refine bodyPost_ret (results_nd rfl rfl rfl (HO2.out.six _ _ _ _ _ _) Try.underlying32 rfl info32) rfl ?_
        have F2 := Fr.six W2 (N + 1) (.int .u64 x.id) (.bool x.leaf) (.string x.label) (.slice aA x.attrs.length ac) (.string x.text) (.slice kA x.kids.length kc)
        rw [HG.out]
        exact ⟨Fr.ext HX3.out F2 (fun k hk => by rw [hk]; omega), _, rfl, HV2.out.to (S' := old w.heap.size) F2 (fun k _ hh => hh.elim (fun h => by rw [show k = N + 1 from h]; show N + 1 < w4.heap.size + 1; omega) (fun h => by have h' : k < w.heap.size := h; show k < w4.heap.size + 1; omega))⟩
      · rw [show decide (bytesOf (putE x) = bs) = false from decide_eq_false hb] at hq
        have HG : Hid (gotO (some (x, [])) putE bs = none) := Lib.hid (if_neg hb)
        clear hb
        go_wp2_with fail
        refine hq.mono ?_
        clear hq
        rintro e W3 ⟨rfl, rfl⟩
        have y0 := HE2.out.cell 0
        have y1 := HE2.out.cell 1
        have y2 := HE2.out.cell 2
        have y3 := HE2.out.cell 3
        have y4 := HE2.out.cell 4
        have y5 := HE2.out.cell 5
        have f0 := HO2.out.frozen 0
        have f1 := HO2.out.frozen 1
        have f2 := HO2.out.frozen 2
        have f3 := HO2.out.frozen 3
        have f4 := HO2.out.frozen 4
        have f5 := HO2.out.frozen 5
        have g0 := HO2.out.cell 0
        have g1 := HO2.out.cell 1
        have g2 := HO2.out.cell 2
        have g3 := HO2.out.cell 3
        have g4 := HO2.out.cell 4
        have g5 := HO2.out.cell 5
        go_wp2_with fail
        refine bodyPost_ret (results_nd rfl rfl rfl (HO2.out.six _ _ _ _ _ _) Try.underlying32 rfl info32) rfl ?_
        have F2 := Fr.six W2 (N + 1) (.int .u64 0) (.bool false) (.string ⟨#[]⟩) (.slice none 0 0) (.string ⟨#[]⟩) (.slice none 0 0)
        rw [HG.out]
        exact ⟨Fr.ext HX3.out F2 (fun k hk => by rw [hk]; omega), rfl⟩
end Go.Proofs.Ytoplaokimahdiaa.Wi
