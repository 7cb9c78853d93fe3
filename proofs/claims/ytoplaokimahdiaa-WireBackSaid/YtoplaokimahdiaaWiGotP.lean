/- Chapter 17: reader.path; bytes.Equal; got at paths; GetPath. -/
import Derived.Test.YtoplaokimahdiaaWiRdPath
import Derived.Test.YtoplaokimahdiaaWiConv
import Derived.Test.YtoplaokimahdiaaWiPutPN
namespace Go.Proofs.Ytoplaokimahdiaa.Wi
open Go.RowKit Go.Proofs.Ytoplaokimahdiaa.Bw Go.Proofs.Ytoplaokimahdiaa.Bs

theorem RdC.from {α : Type} {w0 w w1 : World} {B : Nat} {enc enc' : α → Value → World → Prop} {p : Option (α × List UInt8)} {e : Ending} {W' : World} (hX : Ext w w1) (he : ∀ x v, enc x v W' → enc' x v W') (h : RdC w0 w1 B enc p e W') : RdC w0 w B enc' p e W' := by
  obtain ⟨h1, h2, h3⟩ := h
  refine ⟨h1, (Fr.of_ext hX _).trans h2, ?_⟩
  cases p with
  | none => exact h3
  | some xr =>
    obtain ⟨v, e1, e2, e3⟩ := h3
    exact ⟨v, e1, he _ _ e2, e3⟩
theorem rowV.from {w w1 : World} (hX : Ext w w1) {W' : World} (x : List Int) (v : Value) (h : rowV w1 x v W') : rowV w x v W' := owns_le h hX.size
set_option maxRecDepth 100000 in
set_option maxHeartbeats 1000000 in
theorem rpath_any (bs : List UInt8) (w0 w : World) (B : Nat) (h : RS w0 w B bs) : Calls Try.prog 53 #[.pointer (some ⟨B, 0, none⟩)] w (RdC w0 w B (rowV w) (pathP bs)) := by
  have hmf : ∀ (fn : Fn) (first cap : Array Value) (w : World), (Instr.makeFunc fn first cap).run Try.prog w = .ok (.func fn first cap) w := fun _ _ _ _ => rfl
  obtain ⟨w1, hw1⟩ : ∃ W, w.alloc (.cells #[.pointer (some ⟨B, 0, none⟩)] 83) = W := ⟨_, rfl⟩
  obtain ⟨R, hR⟩ : ∃ R, w.heap.size = R := ⟨_, rfl⟩
  have E1 : Ext w w1 := by rw [← hw1]; exact (Ext.refl w).alloc _
  have bR : NBox w1 R 83 #[.pointer (some ⟨B, 0, none⟩)] := by rw [← hw1, ← hR]; exact NBox.new _ _ _
  have r0 := bR.cell 0
  have hc := rgets_any bs w0 w1 B R (h.more E1) bR
  obtain ⟨p, hp⟩ : ∃ p, pathP bs = p := ⟨_, rfl⟩
  rw [hp] at hc ⊢
  have HW := Lib.hid hw1
  have HRR := Lib.hid hR
  have HE := Lib.hid E1
  clear hw1 hR E1 bR h hp
  go_enter Try.func53, Try.ntmps53
  go_wp2_with fail
  rw [HW.out, HRR.out]
  go_wp2_with fail
  refine hc.mono ?_
  clear hc
  intro e W' hP
  replace hP := RdC.from HE.out (rowV.from HE.out) hP
  cases p with
  | none =>
    obtain ⟨hX, hF, rfl⟩ := hP
    have HX := Lib.hid hX
    have HF := Lib.hid hF
    clear hX hF
    go_wp2_with fail
    exact ⟨rfl, RdC.no rfl HX.out HF.out⟩
  | some xr =>
    obtain ⟨x, r⟩ := xr
    obtain ⟨hX, hF, v, rfl, hv, hR⟩ := hP
    have HF := Lib.hid hF
    have HV := Lib.hid hv
    have HR := Lib.hid hR
    obtain ⟨vA, vC, rfl, -⟩ := RdS.of_owns hv
    clear hX hF hv hR
    go_wp2_with fail
    go_ret
    exact RdC.yes rfl HV.out HR.out HF.out
theorem Sb_eq (a b : List UInt8) : ((Sb a).toList == (Sb b).toList) = decide (a = b) := by
  rw [Sb_toList, Sb_toList]
  by_cases h : a = b
  · subst h; simp
  · simp [h]
set_option maxRecDepth 100000 in
set_option maxHeartbeats 1000000 in
theorem equal_any (a b : List UInt8) (u v : Value) (w : World) (ha : RdS w 1 a.length (u8s a) u) (hb : RdS w 1 b.length (u8s b) v) : Calls Try.prog 82 #[u, v] w fun e W' => e = .returned (.bool (decide (a = b))) ∧ w = W' := by
  have ka := conv_rd ha
  have kb := conv_rd hb
  have he := Sb_eq a b
  obtain ⟨aA, ac, rfl, -⟩ := ha
  obtain ⟨bA, bc, rfl, -⟩ := hb
  obtain ⟨sa, hsa⟩ : ∃ s, Sb a = s := ⟨_, rfl⟩
  obtain ⟨sb, hsb⟩ : ∃ s, Sb b = s := ⟨_, rfl⟩
  rw [hsa] at ka he
  rw [hsb] at kb he
  clear hsa hsb
  go_enter Try.func82, Try.ntmps82
  go_wp2_with fail
  go_ret
  exact ⟨rfl, rfl⟩
/-- What the closure of got does: what is read is stored. -/
def Got1 {α : Type} (T : TypeId) (V : α → Value → World → Prop) (w0 w : World) (B X : Nat) (p : Option (α × List UInt8)) (e : Ending) (W' : World) : Prop :=
  Fr w W' (fun k => k = B ∨ k = X) ∧ match p with
  | none => e = .panicked WR ∧ Ext w0 W'
  | some (x, r) => e = .returned (.tuple #[]) ∧ (∃ v, NBox W' X T #[v] ∧ V x v W') ∧ RS w0 W' B r
set_option maxRecDepth 100000 in
set_option maxHeartbeats 1000000 in
theorem gotp1_any (fn : FuncId) (hfn : ∀ args W, (callFunc fn args).run Try.prog W = .ok (.enter fn args) W) (p : Option (List Int × List UInt8)) (bs : List UInt8) (zv : Value) (w0 w : World) (B F R X : Nat) (h : RS w0 w B bs) (bF : NBox w F 92 #[.func (.func fn) #[] #[]]) (bR : NBox w R 83 #[.pointer (some ⟨B, 0, none⟩)]) (bX : NBox w X 33 #[zv]) (hX : w0.heap.size ≤ X)
    (hc : Calls Try.prog fn #[.pointer (some ⟨B, 0, none⟩)] w (RdC w0 w B (rowV w) p)) :
    Calls Try.prog 81 #[.pointer (some ⟨F, 0, none⟩), .pointer (some ⟨R, 0, none⟩), .pointer (some ⟨X, 0, none⟩)] w (Got1 33 (rowV w) w0 w B X p) := by
  obtain ⟨rv, hbx, -⟩ := h.box
  have hBX : X ≠ B := NBox.apart bX hbx (by decide)
  have f0 := bF.cell 0
  have r0 := bR.cell 0
  have HBX := Lib.hid bX
  have HC := Lib.hid hc
  clear bF bR bX h hbx hc
  go_enter Try.func81, Try.ntmps81
  go_wp2_with fail
  refine HC.out.mono ?_
  clear HC r0 f0
  rintro e W' ⟨hX2, hF, hP⟩
  cases p with
  | none =>
    subst hP
    have HX := Lib.hid hX2
    have HF := Lib.hid hF
    clear hX2 hF
    go_wp2_with fail
    exact ⟨rfl, HF.out.mono (fun k hk => .inl hk), rfl, HX.out⟩
  | some xr =>
    obtain ⟨x, r⟩ := xr
    obtain ⟨v, rfl, hv, hR⟩ := hP
    have hb2 := HBX.out.fr hF hBX
    have n0 := hb2.cell 0
    have n1 := hb2.frozen 0
    have HB2 := Lib.hid hb2
    have HF := Lib.hid hF
    have HR := Lib.hid hR
    have HV := Lib.hid hv
    obtain ⟨vA, vC, rfl, -⟩ := RdS.of_owns hv
    clear hX2 hF hb2 hR hv
    go_wp2_with fail
    go_end0
    have F2 := Fr.setCell W' X 0 (.slice vA x.length vC)
    refine ⟨(HF.out.mono (fun k hk => .inl hk)).trans (F2.mono fun k hk => .inr hk), rfl, ⟨_, HB2.out.set 0 _, owns_fr F2 HV.out (fun g hg hk => HB2.out.not_own HV.out (by decide) (by rw [hg, hk]))⟩, ?_⟩
    obtain ⟨rv2, hbx2, hrd2⟩ := HR.out.box
    exact ⟨Fr.ext HR.out.ext F2 (fun k hk => by rw [hk]; exact hX), HR.out.hB, rv2, hbx2.fr F2 (fun hh => hBX hh.symm), hrd2⟩
/-- What got tells. -/
def GotR {α : Type} (V : World → α → Value → World → Prop) (w : World) (zero : Value) (o : Option α) (e : Ending) (W' : World) : Prop :=
  Ext w W' ∧ match o with
  | none => e = .returned (.tuple #[zero, .int .i64 170])
  | some x => ∃ v, e = .returned (.tuple #[v, .int .i64 0]) ∧ V w x v W'
/-- All of bytes. -/
def whole {α : Type} : Option (α × List UInt8) → Option α
  | some (x, []) => some x
  | _ => none
theorem enters81 : ∀ args W, (callFunc 81 args).run Try.prog W = .ok (.enter 81 args) W := fun args W => by kernel_rfl
set_option maxRecDepth 100000 in
set_option maxHeartbeats 2000000 in
theorem gotp_any (fn pn : FuncId) (hfn : ∀ args W, (callFunc fn args).run Try.prog W = .ok (.enter fn args) W) (hpn : ∀ args W, (callFunc pn args).run Try.prog W = .ok (.enter pn args) W) (p : Option (List Int × List UInt8)) (bs : List UInt8) (bv : Value) (w : World) (h : RdS w 1 bs.length (u8s bs) bv)
    (hone : ∀ W B, RS w W B bs → Calls Try.prog fn #[.pointer (some ⟨B, 0, none⟩)] W (RdC w W B (rowV W) p))
    (hput : ∀ W W0 x v, p = some (x, []) → rowV W0 x v W → Calls Try.prog pn #[v] W (PutR W (some bs))) :
    Calls Try.prog 52 #[bv, .func (.func fn) #[] #[], .func (.func pn) #[] #[]] w (GotR rowV w (.slice none 0 0) (whole p)) := by
  have hmf : ∀ (fn : Fn) (first cap : Array Value) (w : World), (Instr.makeFunc fn first cap).run Try.prog w = .ok (.func fn first cap) w := fun _ _ _ _ => rfl
  have hnot : ∀ (x : Bool) (w : World), (Op.unary .not (.bool x)).run Try.prog w = .ok (.bool (!x)) w := fun _ _ => rfl
  obtain ⟨w4, hw4⟩ : ∃ W, (((w.alloc (.cells #[.func (.func fn) #[] #[]] 92)).alloc (.cells #[.slice none 0 0] 33)).alloc (.cells #[bv] 85)).alloc (.cells #[.pointer (some ⟨w.heap.size + 1 + 1, 0, none⟩)] 83) = W := ⟨_, rfl⟩
  obtain ⟨N, hN⟩ : ∃ N, w.heap.size = N := ⟨_, rfl⟩
  have s1 : (w.alloc (.cells #[.func (.func fn) #[] #[]] 92)).heap.size = N + 1 := by rw [World.size_alloc, hN]
  have s2 : ((w.alloc (.cells #[.func (.func fn) #[] #[]] 92)).alloc (.cells #[.slice none 0 0] 33)).heap.size = N + 1 + 1 := by rw [World.size_alloc, s1]
  have s3 : (((w.alloc (.cells #[.func (.func fn) #[] #[]] 92)).alloc (.cells #[.slice none 0 0] 33)).alloc (.cells #[bv] 85)).heap.size = N + 1 + 1 + 1 := by rw [World.size_alloc, s2]
  have E4 : Ext w w4 := by rw [← hw4]; exact ((((Ext.refl w).alloc _).alloc _).alloc _).alloc _
  have bF : NBox w4 N 92 #[.func (.func fn) #[] #[]] := by rw [← hw4, ← hN]; exact (NBox.new w 92 _).ext ((((Ext.refl _).alloc _).alloc _).alloc _)
  have bX : NBox w4 (N + 1) 33 #[.slice none 0 0] := by rw [← hw4, ← s1]; exact (NBox.new _ 33 _).ext (((Ext.refl _).alloc _).alloc _)
  have bB : NBox w4 (N + 1 + 1) 85 #[bv] := by rw [← hw4, ← s2]; exact (NBox.new _ 85 _).ext ((Ext.refl _).alloc _)
  have bR : NBox w4 (N + 1 + 1 + 1) 83 #[.pointer (some ⟨N + 1 + 1, 0, none⟩)] := by rw [← hw4, hN, ← s3]; exact NBox.new _ 83 _
  rw [hN] at hw4
  have hlt := bR.lt
  have hRS : RS w w4 (N + 1 + 1) bs := ⟨E4, by omega, bv, bB, h⟩
  have hc := tried_any 81 #[.pointer (some ⟨N, 0, none⟩), .pointer (some ⟨N + 1 + 1 + 1, 0, none⟩), .pointer (some ⟨N + 1, 0, none⟩)] enters81
    (fun b W' => match b with
      | true => ∃ x r, p = some (x, r) ∧ (∃ v, NBox W' (N + 1) 33 #[v] ∧ rowV w4 x v W') ∧ RS w W' (N + 1 + 1) r ∧ NBox W' (N + 1 + 1 + 1) 83 #[.pointer (some ⟨N + 1 + 1, 0, none⟩)]
      | false => p = none ∧ Ext w W') (fun k => k = N + 1 + 1 ∨ k = N + 1) w4 (fun k hk => by omega)
    (fun W0 hW0 => (gotp1_any fn hfn p bs (.slice none 0 0) w W0 (N + 1 + 1) N (N + 1 + 1 + 1) (N + 1) (hRS.more hW0) (bF.ext hW0) (bR.ext hW0) (bX.ext hW0) (by omega) (hone W0 (N + 1 + 1) (hRS.more hW0))).mono fun e W' ⟨hF, hP⟩ => by
      have bR2 := (bR.ext hW0).fr hF (by omega)
      cases p with
      | none => exact .inr ⟨hP.1, ⟨rfl, hP.2⟩, hF⟩
      | some xr =>
        obtain ⟨x, r⟩ := xr
        obtain ⟨h1, ⟨v, h2, h3⟩, h4⟩ := hP
        exact .inl ⟨h1, ⟨x, r, rfl, ⟨v, h2, rowV.from hW0 x v h3⟩, h4, bR2⟩, hF⟩)
  have HC := Lib.hid hc
  have HW := Lib.hid hw4
  have HN := Lib.hid hN
  have HRD := Lib.hid h
  have HE4 := Lib.hid E4
  have HPUT := Lib.hid hput
  obtain ⟨A, c, rfl, -⟩ := h
  clear hc hw4 hN s1 s2 s3 bF bX bB bR hRS hput hone E4
  go_enter Try.func52, Try.ntmps52
  go_wp2_with fail
  rw [HN.out, HW.out]
  refine HC.out.mono ?_
  clear HC HW
  rintro e W' ⟨b, W1, x0, rfl, hΦ, hok, hF⟩
  cases b with
  | false =>
    obtain ⟨rfl, hX⟩ := hΦ
    have HX := Lib.hid (show Ext w W' from Fr.ext hX hF (fun k hk => by have := HE4.out.size; omega))
    clear hok hF hX
    go_wp2_with fail
    go_ret2
    exact ⟨HX.out, rfl⟩
  | true =>
    obtain ⟨x, r, rfl, ⟨v, hbX, hV⟩, hRS, hbR⟩ := hΦ
    have hX2 : Ext w W' := Fr.ext hRS.ext hF (fun k hk => by have := HE4.out.size; omega)
    have hbX2 := hbX.fr hF (by omega)
    have hbR2 := hbR.fr hF (by omega)
    obtain ⟨rv, hbB, hrd⟩ := hRS.box
    have hbB2 := hbB.fr hF (by omega)
    have hV2 : rowV w4 x v W' := owns_fr hF hV (fun g hg hk => hok.not_own hV (by decide) (by rw [hg, hk]))
    have n0 := hbX2.cell 0
    have r0 := hbR2.cell 0
    have b0 := hbB2.cell 0
    have HX := Lib.hid hX2
    have HV := Lib.hid hV2
    obtain ⟨rA, rc, rfl, -⟩ := hrd
    obtain ⟨vA, vC, rfl, -⟩ := RdS.of_owns hV
    clear hbX hbR hbB hbX2 hbR2 hbB2 hF hok hRS hX2 hV hV2
    cases r with
    | cons y r =>
      have t1 : decide (0 < (y :: r).length) = true := rfl
      have t1' : decide ((0 : Int) < ((y :: r).length : Int)) = true := decide_eq_true (by rw [List.length_cons]; omega)
      obtain ⟨m, hm⟩ : ∃ m, (y :: r).length = m := ⟨_, rfl⟩
      rw [hm] at t1 t1' b0
      have HM : Hid (whole (some (x, y :: r)) = none) := Lib.hid rfl
      clear hm
      go_wp2_with fail
      go_ret2
      exact ⟨HX.out, rfl⟩
    | nil =>
      have hc := HPUT.out W' w4 x _ rfl HV.out
      go_wp2_with fail
      refine hc.mono ?_
      clear hc
      rintro e W2 ⟨hX3, v2, rfl, hO⟩
      have hq := equal_any bs bs _ _ W2 (RdS.of_owns hO) (RdS.ext (HX.out.trans hX3) HRD.out)
      have n1 := hX3.cell n0
      rw [show decide (bs = bs) = true from decide_eq_true rfl] at hq
      have HV2 := Lib.hid (owns_ext hX3 HV.out)
      have HX3 := Lib.hid (HX.out.trans hX3)
      obtain ⟨uA, uC, rfl, -⟩ := RdS.of_owns hO
      clear n0 r0 b0 hO hX3
      go_wp2_with fail
      refine hq.mono ?_
      clear hq
      rintro e W3 ⟨rfl, rfl⟩
      go_wp2_with fail
      go_ret2
      exact ⟨HX3.out, _, rfl, rowV.from HE4.out x _ HV2.out⟩
theorem enters53 : ∀ args W, (callFunc 53 args).run Try.prog W = .ok (.enter 53 args) W := fun args W => by kernel_rfl
theorem enters18 : ∀ args W, (callFunc 18 args).run Try.prog W = .ok (.enter 18 args) W := fun args W => by kernel_rfl
set_option maxRecDepth 100000 in
set_option maxHeartbeats 1000000 in
theorem getPath_any (bs : List UInt8) (bv : Value) (w : World) (h : RdS w 1 bs.length (u8s bs) bv) : Calls Try.prog 26 #[bv] w (GotR rowV w (.slice none 0 0) (whole (pathP bs))) := by
  have hc := gotp_any 53 18 enters53 enters18 (pathP bs) bs bv w h (fun W B hR => rpath_any bs w W B hR) (fun W W0 x v hp hv => by
    obtain ⟨l, h1, h2⟩ := (path_inv bs x []).1 hp
    rw [List.append_nil] at h2
    rw [h2, ← h1]
    exact putPath_any x v W (RdS.of_owns hv))
  obtain ⟨o, ho⟩ : ∃ o, whole (pathP bs) = o := ⟨_, rfl⟩
  rw [ho] at hc ⊢
  obtain ⟨A, c, rfl, -⟩ := h
  clear ho
  go_enter Try.func26, Try.ntmps26
  go_wp2_with fail
  refine hc.mono ?_
  clear hc
  rintro e W' ⟨hX, hP⟩
  have HX := Lib.hid hX
  clear hX
  cases o with
  | none =>
    subst hP
    go_wp2_with fail
    go_ret2
    exact ⟨HX.out, rfl⟩
  | some x =>
    obtain ⟨v, rfl, hv⟩ := hP
    have HV := Lib.hid hv
    obtain ⟨vA, vC, rfl, -⟩ := RdS.of_owns hv
    clear hv
    go_wp2_with fail
    go_ret2
    exact ⟨HX.out, _, rfl, HV.out⟩
end Go.Proofs.Ytoplaokimahdiaa.Wi
