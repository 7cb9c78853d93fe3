/- Chapter 17: rows that read late, and stay. -/
import Derived.Test.YtoplaokimahdiaaWiLate
import Derived.Test.YtoplaokimahdiaaWiRdr
import Derived.Test.YtoplaokimahdiaaWiRdOp
import Derived.Test.YtoplaokimahdiaaWiGotN
import Derived.Test.YtoplaokimahdiaaWiPutL
namespace Go.Proofs.Ytoplaokimahdiaa.Wi
open Go.RowKit Go.Proofs.Ytoplaokimahdiaa.Bw Go.Proofs.Ytoplaokimahdiaa.Bs

theorem rowV2.fr {α : Type} {R : World → α → Value → Prop} {t sz lo : Nat} {l : List α} {v : Value} {W W' : World} {Z : Nat} (h : rowV2 R t sz lo l v W) (F : Fr W W' (isB Z)) (hZ : Z < lo) : rowV2 R t sz lo l v W' := by
  obtain ⟨us, h1, h2⟩ := h
  exact ⟨us, owns_fr F h1 (fun g hg hk => by have := owns_base h1 g hg; rw [show g = Z from hk] at this; omega), h2.to F (fun k _ hh => hh.elim (fun hk => .inl (by rw [show k = Z from hk]; exact hZ)) id)⟩
theorem rowV2.ext {α : Type} {R : World → α → Value → Prop} {t sz lo : Nat} {l : List α} {v : Value} {W W' : World} (h : rowV2 R t sz lo l v W) (X : Ext W W') : rowV2 R t sz lo l v W' := by
  obtain ⟨us, h1, h2⟩ := h
  exact ⟨us, owns_ext X h1, h2.ext X⟩
end Go.Proofs.Ytoplaokimahdiaa.Wi
namespace Go.Proofs.Ytoplaokimahdiaa.Wi
open Go.RowKit Go.Proofs.Ytoplaokimahdiaa.Bw Go.Proofs.Ytoplaokimahdiaa.Bs

theorem rdOps_of {W : World} {b : Nat} : ∀ (l : List OpD) (us : List Value) (off : Nat), rowCells RdO 11 W l us → (∀ j u, us[j]? = some u → W.cell? ⟨b, off + j, none⟩ = some u) → rdOps W b off l
  | [], _, _, _, _ => trivial
  | x :: l, us, off, h, hc => by
    obtain ⟨cs, us', h1, h2, rfl, h5⟩ := h
    obtain ⟨pv, tv, cv, he, hr⟩ := h2
    simp only [Value.agg.injEq] at he
    have he' : cs = [.int .u8 x.kind, pv, .int .i64 x.at_, tv, .int .u64 x.id, .bool x.leaf, .string x.label, .string x.key, .string x.value, .bool x.gone, cv] := by
      have := congrArg Array.toList he
      simpa using this
    subst he'
    refine ⟨⟨pv, tv, cv, ?_, hc 1 _ rfl, hc 2 _ rfl, hc 3 _ rfl, hc 4 _ rfl, hc 5 _ rfl, hc 6 _ rfl, hc 7 _ rfl, hc 8 _ rfl, hc 9 _ rfl, hc 10 _ rfl, pv, tv, cv, rfl, hr⟩, rdOps_of l us' (off + 11) h5 (fun j u hj => ?_)⟩
    · have := hc 0 _ rfl
      simpa using this
    · have := hc (11 + j) u (by simpa [Nat.add_comm] using hj)
      rw [show off + 11 + j = off + (11 + j) by omega]
      exact this
theorem RdL.of_row {W : World} {base e : Nat} {v : Value} {l : List OpD} {us : List Value} (h : W.ownsRow base e 11 v l.length us) (hr : rowCells RdO 11 W l us) : RdL W l v := by
  obtain ⟨A, c, rfl, h1, h2, h3⟩ := owns_cells h
  refine ⟨A, c, rfl, h1, h2, fun hl => ?_⟩
  obtain ⟨g, rfl, hc⟩ := h3 hl
  exact ⟨g, 0, rfl, rdOps_of l us 0 hr hc⟩
/-- A list that was read. -/
def lsV (lo : Nat) (l : List OpD) (v : Value) (W : World) : Prop := rowV2 RdO 66 11 lo l v W
theorem lsV.rd {lo : Nat} {l : List OpD} {v : Value} {W : World} (h : lsV lo l v W) : RdL W l v := by
  obtain ⟨us, h1, h2⟩ := h
  exact RdL.of_row h1 h2.now
theorem lsV.slice {lo : Nat} {l : List OpD} {v : Value} {W : World} (h : lsV lo l v W) : ∃ A c, v = .slice A l.length c := by
  obtain ⟨us, h1, -⟩ := h
  obtain ⟨A, c, rfl, -⟩ := owns_cells h1
  exact ⟨A, c, rfl⟩
theorem enters64 : ∀ args W, (callFunc 64 args).run Try.prog W = .ok (.enter 64 args) W := fun args W => by kernel_rfl
theorem enters62 : ∀ args W, (callFunc 62 args).run Try.prog W = .ok (.enter 62 args) W := fun args W => by kernel_rfl
theorem enters12 : ∀ args W, (callFunc 12 args).run Try.prog W = .ok (.enter 12 args) W := fun args W => by kernel_rfl
theorem enters96 : ∀ args W, (callFunc 96 args).run Try.prog W = .ok (.enter 96 args) W := fun args W => by kernel_rfl
/-- What the closure of got does at a list. -/
def GotL1 (lo : Nat) (w0 w : World) (B X : Nat) (p : Option (List OpD × List UInt8)) (e : Ending) (W' : World) : Prop :=
  Fr w W' (fun k => k = B ∨ k = X) ∧ match p with
  | none => e = .panicked WR ∧ Ext w0 W'
  | some (x, r) => e = .returned (.tuple #[]) ∧ (∃ v, NBox W' X 22 #[v] ∧ lsV lo x v W') ∧ RS w0 W' B r
set_option maxRecDepth 100000 in
set_option maxHeartbeats 1000000 in
theorem gotl1_any (fn : FuncId) (hfn : ∀ args W, (callFunc fn args).run Try.prog W = .ok (.enter fn args) W) (p : Option (List OpD × List UInt8)) (bs : List UInt8) (zv : Value) (w0 w : World) (B F R X : Nat) (h : RS w0 w B bs) (bF : NBox w F 105 #[.func (.func fn) #[] #[]]) (bR : NBox w R 83 #[.pointer (some ⟨B, 0, none⟩)]) (bX : NBox w X 22 #[zv]) (hX : w0.heap.size ≤ X)
    (hc : Calls Try.prog fn #[.pointer (some ⟨B, 0, none⟩)] w (RdC w0 w B (lsV w.heap.size) p)) :
    Calls Try.prog 96 #[.pointer (some ⟨F, 0, none⟩), .pointer (some ⟨R, 0, none⟩), .pointer (some ⟨X, 0, none⟩)] w (GotL1 w.heap.size w0 w B X p) := by
  obtain ⟨rv, hbx, -⟩ := h.box
  have hBX : X ≠ B := NBox.apart bX hbx (by decide)
  have f0 := bF.cell 0
  have r0 := bR.cell 0
  have hXlt := bX.lt
  have HBX := Lib.hid bX
  have HC := Lib.hid hc
  clear bF bR bX h hbx hc
  go_enter Try.func96, Try.ntmps96
  go_wp2_with fail
  refine HC.out.mono ?_
  clear HC r0 f0
  rintro e W' ⟨hX2, hF, hP⟩
  cases p with
  | none =>
    subst hP
    have HX := Lib.hid hX2
    have HF := Lib.hid hF
    clear hX2 hF
    go_wp2_with fail
    exact ⟨rfl, HF.out.mono (fun k hk => .inl hk), rfl, HX.out⟩
  | some xr =>
    obtain ⟨x, r⟩ := xr
    obtain ⟨v, rfl, hv, hR⟩ := hP
    have hb2 := HBX.out.fr hF hBX
    have n0 := hb2.cell 0
    have n1 := hb2.frozen 0
    have HB2 := Lib.hid hb2
    have HF := Lib.hid hF
    have HR := Lib.hid hR
    have HV := Lib.hid hv
    obtain ⟨vA, vC, rfl⟩ := hv.slice
    clear hX2 hF hb2 hR hv
    go_wp2_with fail
    go_end0
    have F2 := Fr.setCell W' X 0 (.slice vA x.length vC)
    refine ⟨(HF.out.mono (fun k hk => .inl hk)).trans (F2.mono fun k hk => .inr hk), rfl, ⟨_, HB2.out.set 0 _, rowV2.fr HV.out F2 hXlt⟩, ?_⟩
    obtain ⟨rv2, hbx2, hrd2⟩ := HR.out.box
    exact ⟨Fr.ext HR.out.ext F2 (fun k hk => by rw [hk]; exact hX), HR.out.hB, rv2, hbx2.fr F2 (fun hh => hBX hh.symm), hrd2⟩
/-- What GetList tells. -/
def GotRL (w : World) (o : Option (List OpD)) (e : Ending) (W' : World) : Prop :=
  Ext w W' ∧ match o with
  | none => e = .returned (.tuple #[.slice none 0 0, .int .i64 170])
  | some x => ∃ v, e = .returned (.tuple #[v, .int .i64 0]) ∧ lsV w.heap.size x v W'
set_option maxRecDepth 100000 in
set_option maxHeartbeats 4000000 in
theorem gotl_any (fn pn : FuncId) (hfn : ∀ args W, (callFunc fn args).run Try.prog W = .ok (.enter fn args) W) (hpn : ∀ args W, (callFunc pn args).run Try.prog W = .ok (.enter pn args) W) (p : Option (List OpD × List UInt8)) (putE : List OpD → Option (List UInt8)) (bs : List UInt8) (bv : Value) (w : World) (h : RdS w 1 bs.length (u8s bs) bv)
    (hone : ∀ W B, RS w W B bs → Calls Try.prog fn #[.pointer (some ⟨B, 0, none⟩)] W (RdC w W B (lsV W.heap.size) p))
    (hput : ∀ W x v, RdL W x v → Calls Try.prog pn #[v] W (PutR W (putE x))) :
    Calls Try.prog 61 #[bv, .func (.func fn) #[] #[], .func (.func pn) #[] #[]] w (GotRL w (gotO p putE bs)) := by
  have hmf : ∀ (fn : Fn) (first cap : Array Value) (w : World), (Instr.makeFunc fn first cap).run Try.prog w = .ok (.func fn first cap) w := fun _ _ _ _ => rfl
  have hnot : ∀ (x : Bool) (w : World), (Op.unary .not (.bool x)).run Try.prog w = .ok (.bool (!x)) w := fun _ _ => rfl
  obtain ⟨w4, hw4⟩ : ∃ W, (((w.alloc (.cells #[.func (.func fn) #[] #[]] 105)).alloc (.cells #[.slice none 0 0] 22)).alloc (.cells #[bv] 85)).alloc (.cells #[.pointer (some ⟨w.heap.size + 1 + 1, 0, none⟩)] 83) = W := ⟨_, rfl⟩
  obtain ⟨N, hN⟩ : ∃ N, w.heap.size = N := ⟨_, rfl⟩
  have s1 : (w.alloc (.cells #[.func (.func fn) #[] #[]] 105)).heap.size = N + 1 := by rw [World.size_alloc, hN]
  have s2 : ((w.alloc (.cells #[.func (.func fn) #[] #[]] 105)).alloc (.cells #[.slice none 0 0] 22)).heap.size = N + 1 + 1 := by rw [World.size_alloc, s1]
  have s3 : (((w.alloc (.cells #[.func (.func fn) #[] #[]] 105)).alloc (.cells #[.slice none 0 0] 22)).alloc (.cells #[bv] 85)).heap.size = N + 1 + 1 + 1 := by rw [World.size_alloc, s2]
  have E4 : Ext w w4 := by rw [← hw4]; exact ((((Ext.refl w).alloc _).alloc _).alloc _).alloc _
  have bF : NBox w4 N 105 #[.func (.func fn) #[] #[]] := by rw [← hw4, ← hN]; exact (NBox.new w 105 _).ext ((((Ext.refl _).alloc _).alloc _).alloc _)
  have bX : NBox w4 (N + 1) 22 #[.slice none 0 0] := by rw [← hw4, ← s1]; exact (NBox.new _ 22 _).ext (((Ext.refl _).alloc _).alloc _)
  have bB : NBox w4 (N + 1 + 1) 85 #[bv] := by rw [← hw4, ← s2]; exact (NBox.new _ 85 _).ext ((Ext.refl _).alloc _)
  have bR : NBox w4 (N + 1 + 1 + 1) 83 #[.pointer (some ⟨N + 1 + 1, 0, none⟩)] := by rw [← hw4, hN, ← s3]; exact NBox.new _ 83 _
  rw [hN] at hw4
  have hlt := bR.lt
  have hRS : RS w w4 (N + 1 + 1) bs := ⟨E4, by omega, bv, bB, h⟩
  have hc := tried_any2 96 #[.pointer (some ⟨N, 0, none⟩), .pointer (some ⟨N + 1 + 1 + 1, 0, none⟩), .pointer (some ⟨N + 1, 0, none⟩)] enters96
    (fun b W' => match b with
      | true => ∃ x r, p = some (x, r) ∧ (∃ v, NBox W' (N + 1) 22 #[v] ∧ lsV (w4.heap.size + 1) x v W') ∧ RS w W' (N + 1 + 1) r ∧ NBox W' (N + 1 + 1 + 1) 83 #[.pointer (some ⟨N + 1 + 1, 0, none⟩)]
      | false => p = none ∧ Ext w W') (fun k => k = N + 1 + 1 ∨ k = N + 1) w4 (fun k hk => by omega)
    (fun W0 hW0 hS0 => (gotl1_any fn hfn p bs (.slice none 0 0) w W0 (N + 1 + 1) N (N + 1 + 1 + 1) (N + 1) (hRS.more hW0) (bF.ext hW0) (bR.ext hW0) (bX.ext hW0) (by omega) (hone W0 (N + 1 + 1) (hRS.more hW0))).mono fun e W' ⟨hF, hP⟩ => by
      have bR2 := (bR.ext hW0).fr hF (by omega)
      cases p with
      | none => exact .inr ⟨hP.1, ⟨rfl, hP.2⟩, hF⟩
      | some xr =>
        obtain ⟨x, r⟩ := xr
        obtain ⟨h1, ⟨v, h2, h3⟩, h4⟩ := hP
        exact .inl ⟨h1, ⟨x, r, rfl, ⟨v, h2, rowV2.low h3 hS0⟩, h4, bR2⟩, hF⟩)
  have HC := Lib.hid hc
  have HW := Lib.hid hw4
  have HN := Lib.hid hN
  have HRD := Lib.hid h
  have HE4 := Lib.hid E4
  have HPUT := Lib.hid hput
  obtain ⟨A, c, rfl, -⟩ := h
  clear hc hw4 hN s1 s2 s3 bF bX bB bR hRS hput hone E4
  go_enter Try.func61, Try.ntmps61
  go_wp2_with fail
  rw [HN.out, HW.out]
  refine HC.out.mono ?_
  clear HC HW
  rintro e W' ⟨b, W1, x0, rfl, hΦ, hok, hF⟩
  cases b with
  | false =>
    obtain ⟨rfl, hX⟩ := hΦ
    have HX := Lib.hid (show Ext w W' from Fr.ext hX hF (fun k hk => by have := HE4.out.size; omega))
    clear hok hF hX
    go_wp2_with fail
    go_ret2
    exact ⟨HX.out, rfl⟩
  | true =>
    obtain ⟨x, r, rfl, ⟨v, hbX, hV⟩, hRS, hbR⟩ := hΦ
    have hX2 : Ext w W' := Fr.ext hRS.ext hF (fun k hk => by have := HE4.out.size; omega)
    have hbX2 := hbX.fr hF (by omega)
    have hbR2 := hbR.fr hF (by omega)
    obtain ⟨rv, hbB, hrd⟩ := hRS.box
    have hbB2 := hbB.fr hF (by omega)
    have hV2 : lsV (w4.heap.size + 1) x v W' := rowV2.fr hV hF (Nat.lt_succ_self _)
    have n0 := hbX2.cell 0
    have r0 := hbR2.cell 0
    have b0 := hbB2.cell 0
    have HX := Lib.hid hX2
    have HV := Lib.hid hV2
    have hNw : w.heap.size ≤ w4.heap.size + 1 := Nat.le_succ_of_le HE4.out.size
    obtain ⟨rA, rc, rfl, -⟩ := hrd
    obtain ⟨vA, vC, rfl⟩ := hV.slice
    clear hbX hbR hbB hbX2 hbR2 hbB2 hF hok hRS hX2 hV hV2
    cases r with
    | cons y r =>
      have t1 : decide (0 < (y :: r).length) = true := rfl
      have t1' : decide ((0 : Int) < ((y :: r).length : Int)) = true := decide_eq_true (by rw [List.length_cons]; omega)
      obtain ⟨m, hm⟩ : ∃ m, (y :: r).length = m := ⟨_, rfl⟩
      rw [hm] at t1 t1' b0
      have HM : Hid (gotO (some (x, y :: r)) putE bs = none) := Lib.hid rfl
      clear hm
      go_wp2_with fail
      go_ret2
      exact ⟨HX.out, rfl⟩
    | nil =>
      have hc := HPUT.out W' x _ (lsV.rd HV.out)
      go_wp2_with fail
      refine hc.mono ?_
      clear hc
      rintro e W2 ⟨hX3, v2, rfl, hO⟩
      have hq := equal_any (bytesOf (putE x)) bs _ _ W2 (RdS.of_owns hO) (RdS.ext (HX.out.trans hX3) HRD.out)
      have n1 := hX3.cell n0
      have HV2 := Lib.hid (show lsV (w4.heap.size + 1) x _ W2 from rowV2.ext HV.out hX3)
      have HX3 := Lib.hid (HX.out.trans hX3)
      obtain ⟨uA, uC, rfl, -⟩ := RdS.of_owns hO
      clear n0 r0 b0 hO hX3
      by_cases hb : bytesOf (putE x) = bs
      · rw [show decide (bytesOf (putE x) = bs) = true from decide_eq_true hb] at hq
        have HG : Hid (gotO (some (x, [])) putE bs = some x) := Lib.hid (if_pos hb)
        clear hb
        go_wp2_with fail
        refine hq.mono ?_
        clear hq
        rintro e W3 ⟨rfl, rfl⟩
        go_wp2_with fail
        go_ret2
        rw [HG.out]
        exact ⟨HX3.out, _, rfl, rowV2.low HV2.out hNw⟩
      · rw [show decide (bytesOf (putE x) = bs) = false from decide_eq_false hb] at hq
        have HG : Hid (gotO (some (x, [])) putE bs = none) := Lib.hid (if_neg hb)
        clear hb
        go_wp2_with fail
        refine hq.mono ?_
        clear hq
        rintro e W3 ⟨rfl, rfl⟩
        go_wp2_with fail
        go_ret2
        rw [HG.out]
        exact ⟨HX3.out, rfl⟩
theorem listP_eq (bs : List UInt8) : listP bs = rowP 4096 opP bs := rfl
set_option maxRecDepth 100000 in
set_option maxHeartbeats 1000000 in
theorem glist1_any (bs : List UInt8) (w0 w : World) (B : Nat) (h : RS w0 w B bs) : Calls Try.prog 62 #[.pointer (some ⟨B, 0, none⟩)] w (RdC w0 w B (lsV w.heap.size) (listP bs)) := by
  have hmf : ∀ (fn : Fn) (first cap : Array Value) (w : World), (Instr.makeFunc fn first cap).run Try.prog w = .ok (.func fn first cap) w := fun _ _ _ _ => rfl
  have hc : Calls Try.prog 63 #[.pointer (some ⟨B, 0, none⟩), .int .i64 4096, .func (.func 64) #[.pointer (some ⟨B, 0, none⟩)] #[]] w (RdC w0 w B (lsV w.heap.size) (rowP 4096 opP bs)) :=
    gets63_any RdO opV opP 64 #[.pointer (some ⟨B, 0, none⟩)] enters64 4096 (by decide) bs w0 w B h (fun _ => True) trivial (fun _ _ _ _ _ _ => trivial) opV_gets (fun b W hb _ _ => rop_any b w0 W B hb)
  rw [listP_eq]
  obtain ⟨p, hp⟩ : ∃ p, rowP 4096 opP bs = p := ⟨_, rfl⟩
  rw [hp] at hc ⊢
  clear h hp
  go_enter Try.func62, Try.ntmps62
  go_wp2_with fail
  refine hc.mono ?_
  clear hc
  intro e W' hP
  cases p with
  | none =>
    obtain ⟨hX, hF, rfl⟩ := hP
    have HX := Lib.hid hX
    have HF := Lib.hid hF
    clear hX hF
    go_wp2_with fail
    exact ⟨rfl, RdC.no rfl HX.out HF.out⟩
  | some xr =>
    obtain ⟨x, r⟩ := xr
    obtain ⟨hX, hF, v, rfl, hv, hR⟩ := hP
    have HF := Lib.hid hF
    have HV := Lib.hid hv
    have HR := Lib.hid hR
    obtain ⟨vA, vC, rfl⟩ := hv.slice
    clear hX hF hv hR
    go_wp2_with fail
    go_ret
    exact RdC.yes rfl HV.out HR.out HF.out
set_option maxRecDepth 100000 in
set_option maxHeartbeats 1000000 in
theorem getList_any (bs : List UInt8) (bv : Value) (w : World) (h : RdS w 1 bs.length (u8s bs) bv) : Calls Try.prog 32 #[bv] w (GotRL w (gotO (listP bs) listE bs)) := by
  have hc := gotl_any 62 12 enters62 enters12 (listP bs) listE bs bv w h (fun W B hR => glist1_any bs w W B hR) (fun W x v hv => putList_any x v W hv)
  obtain ⟨o, ho⟩ : ∃ o, gotO (listP bs) listE bs = o := ⟨_, rfl⟩
  rw [ho] at hc ⊢
  obtain ⟨A, c, rfl, -⟩ := h
  clear ho
  go_enter Try.func32, Try.ntmps32
  go_wp2_with fail
  refine hc.mono ?_
  clear hc
  rintro e W' ⟨hX, hP⟩
  have HX := Lib.hid hX
  clear hX
  cases o with
  | none =>
    subst hP
    go_wp2_with fail
    go_ret2
    exact ⟨HX.out, rfl⟩
  | some x =>
    obtain ⟨v, rfl, hv⟩ := hP
    have HV := Lib.hid hv
    obtain ⟨vA, vC, rfl⟩ := hv.slice
    clear hv
    go_wp2_with fail
    go_ret2
    exact ⟨HX.out, _, rfl, HV.out⟩
end Go.Proofs.Ytoplaokimahdiaa.Wi
