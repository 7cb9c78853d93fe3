/- Chapter 05: Transform. -/
import Derived.Test.YtmncjknfkkedmaaLxDone
namespace Go.Proofs.Ytmncjknfkkedmaa.Lx
open Go.RowKit Go.Proofs.Ytmncjknfkkedmaa.Bw Go.Proofs.Ytmncjknfkkedmaa.Bs

def trS (prior : Bool) (a b : List Pc) : St := tRun prior ((St.mk (normL a) (normL b) ⟨[], 0⟩ ⟨[], 0⟩).phi + 1) ⟨normL a, normL b, ⟨[], 0⟩, ⟨[], 0⟩⟩
def trE (prior : Bool) (a b : List Pc) : Int := if pcsRight a && pcsRight b then (if pcsRight (trS prior a b).x.l && pcsRight (trS prior a b).y.l then 0 else 3) else 2
def trX (prior : Bool) (a b : List Pc) : List Pc := if trE prior a b = 0 then (trS prior a b).x.l else []
def trY (prior : Bool) (a b : List Pc) : List Pc := if trE prior a b = 0 then (trS prior a b).y.l else []

/-! ### The measure, read out of memory -/
def posV : Option Value → Nat
  | some (.int _ k) => if 0 < k then 1 else 0
  | _ => 0
def phiAt (w : World) (g : Nat) : Nat → Nat → Nat
  | _, 0 => 0
  | off, n + 1 => posV (w.cell? ⟨g, off, none⟩) + posV (w.cell? ⟨g, off + 1, none⟩) + phiAt w g (off + 3) n
def phiBox (w : World) (B : Nat) : Nat := match w.cell? ⟨B, 0, none⟩ with
  | some (.slice (some a) n _) => phiAt w a.block a.off n
  | _ => 0
theorem phiAt_eq {w : World} {g : Nat} : ∀ {l : List Pc} {off : Nat}, rdPcs w g off l → phiAt w g off l.length = phi l
  | [], _, _ => rfl
  | p :: r, off, ⟨h1, h2, _, _, h5⟩ => by
    show posV _ + posV _ + phiAt w g (off + 3) r.length = phi1 p + phi r
    rw [h1, h2, phiAt_eq h5]
    rfl
theorem phiBox_eq {w : World} {B : Nat} {G : Option Nat} {l : List Pc} (h : RowAt w B G l) : phiBox w B = phi l := by
  obtain ⟨v, hN, A, c, rfl, h1, h2, h3⟩ := h
  have c0 := hN.cell 0
  unfold phiBox
  rw [c0]
  cases l with
  | nil => cases A <;> rfl
  | cons p r =>
    obtain ⟨g, off, cur, _, rfl, _, hr⟩ := h3 (by simp)
    exact phiAt_eq hr

set_option maxRecDepth 100000 in
set_option maxHeartbeats 4000000 in
theorem transform_any (a b : List Pc) (va vb : Value) (prior : Bool) (w : World) (ha : RdP w a va) (hb : RdP w b vb) : Calls Try.prog 20 #[va, vb, .bool prior] w fun e w' => ∃ vx vy, e = .returned (.tuple #[vx, vy, .int .i64 (trE prior a b)]) ∧ RdP w' (trX prior a b) vx ∧ RdP w' (trY prior a b) vy ∧ Ext w w' := by
  have hmf : ∀ (fn : Fn) (first cap : Array Value) (w : World), (Instr.makeFunc fn first cap).run Try.prog w = .ok (.func fn first cap) w := fun _ _ _ _ => rfl
  have hca := right_any a va _ (ha.ext ((Ext.refl w).alloc (.cells #[.bool prior] 4)))
  obtain ⟨Aa, ca, rfl, _⟩ := id ha
  obtain ⟨Ab, cb, rfl, _⟩ := id hb
  obtain ⟨ra, hra⟩ : ∃ r, pcsRight a = r := ⟨_, rfl⟩
  obtain ⟨rb, hrb⟩ : ∃ r, pcsRight b = r := ⟨_, rfl⟩
  rw [hra] at hca
  have HA := Lib.hid hra
  have HB := Lib.hid hrb
  clear hra hrb
  go_enter Try.func20, Try.ntmps20
  go_wp2_with fail
  obtain ⟨w1, hw1⟩ : ∃ W, w.alloc (.cells #[.bool prior] 4) = W := ⟨_, rfl⟩
  have E1 : Ext w w1 := by rw [← hw1]; exact (Ext.refl w).alloc _
  have N1 : NBox w1 w.heap.size 4 #[.bool prior] := by rw [← hw1]; exact NBox.new w 4 _
  rw [hw1] at hca ⊢
  clear hw1
  refine hca.mono ?_
  clear hca
  rintro e w2 ⟨r, rfl, rfl, hE2⟩
  have E2 := E1.trans hE2
  have N2 := N1.ext hE2
  clear E1 N1 hE2
  cases ra
  · go_wp2_with fail
    go_ret3
    have e0 : trE prior a b = 2 := by unfold trE; rw [HA.out]; rfl
    rw [show trX prior a b = [] by unfold trX; rw [e0]; rfl, show trY prior a b = [] by unfold trY; rw [e0]; rfl, e0]
    exact ⟨_, _, rfl, RdP.nil _, RdP.nil _, E2⟩
  have hcb := right_any b _ _ (hb.ext E2)
  rw [HB.out] at hcb
  go_wp2_with fail
  refine hcb.mono ?_
  clear hcb
  rintro e w3 ⟨r, rfl, rfl, hE3⟩
  have E3 := E2.trans hE3
  have N3 := N2.ext hE3
  clear E2 N2 hE3
  cases rb
  · go_wp2_with fail
    go_ret3
    have e0 : trE prior a b = 2 := by unfold trE; rw [HA.out, HB.out]; rfl
    rw [show trX prior a b = [] by unfold trX; rw [e0]; rfl, show trY prior a b = [] by unfold trY; rw [e0]; rfl, e0]
    exact ⟨_, _, rfl, RdP.nil _, RdP.nil _, E3⟩
  have hna := norm_any a _ _ (ha.ext E3) HA.out
  go_wp2_with fail
  refine hna.mono ?_
  clear hna
  rintro e w4 ⟨v4, rfl, O4, hE4⟩
  have E4 := E3.trans hE4
  have N4 := N3.ext hE4
  have z3 := N3.lt
  have z4 := N4.lt
  clear E3 N3
  have hnb := norm_any b _ _ (hb.ext E4) HB.out
  go_wp2_with fail
  refine hnb.mono ?_
  clear hnb
  rintro e w5 ⟨v5, rfl, O5, hE5⟩
  have E5 := E4.trans hE5
  have N5 := N4.ext hE5
  have z5 := hE5.size
  clear E4 N4
  have f4 := O4.lt
  replace O4 := owns_ext hE5 O4
  have f5 := O5.lt
  clear hE5
  have ra1 := right_nn HA.out
  have rb1 := right_nn HB.out
  have n1 := normL_nn ra1.1
  have n2 := normL_nn rb1.1
  have q1 := normL_wt ra1.1
  have q2 := normL_wt rb1.1
  have m1 := normL_len a
  have m2 := normL_len b
  have i1 := phi_le (normL a)
  have i2 := phi_le (normL b)
  obtain ⟨FIN, hFIN⟩ : ∃ F, trS prior a b = F := ⟨_, rfl⟩
  have HFI : Hid (tRun prior ((St.mk (normL a) (normL b) ⟨[], 0⟩ ⟨[], 0⟩).phi + 1) ⟨normL a, normL b, ⟨[], 0⟩, ⟨[], 0⟩⟩ = FIN) := Lib.hid hFIN
  have ok0 : (St.mk (normL a) (normL b) ⟨[], 0⟩ ⟨[], 0⟩).Ok 20000000000 100000 := by
    refine ⟨n1, n2, NnM.zero, NnM.zero, ?_, ?_, ?_, ?_⟩
    · show wtM ⟨[], 0⟩ + wt (normL a) + wt (normL b) ≤ _
      rw [show wtM ⟨[], 0⟩ = 0 from rfl]; omega
    · show wtM ⟨[], 0⟩ + wt (normL a) + wt (normL b) ≤ _
      rw [show wtM ⟨[], 0⟩ = 0 from rfl]; omega
    · show 0 + 2 * (phi (normL a) + phi (normL b)) ≤ _
      omega
    · show 0 + 2 * (phi (normL a) + phi (normL b)) ≤ _
      omega
  have HFIN := Lib.hid hFIN
  generalize normL a = la at *
  generalize normL b = lb at *
  clear hFIN ra1 rb1 q1 q2 m1 m2 i1 i2
  have sa : ∀ p ∈ la, okStr p.put := fun p hp => by
    have h1 := wt_mem n1 hp
    have h2 := n1 p hp
    have h3 := ok0.tx
    have h4 := wt_nn n2
    simp only at h3
    rw [show wtM ⟨[], 0⟩ = 0 from rfl] at h3
    unfold okStr maxLen; omega
  have sb : ∀ p ∈ lb, okStr p.put := fun p hp => by
    have h1 := wt_mem n2 hp
    have h2 := n2 p hp
    have h3 := ok0.tx
    have h4 := wt_nn n1
    simp only at h3
    rw [show wtM ⟨[], 0⟩ = 0 from rfl] at h3
    unfold okStr maxLen; omega
  have V4 := RowV.of_owns O4 sa
  have V5 := RowV.of_owns O5 sb
  have D : TD w w.heap.size w5.heap.size v4.ownBlock v5.ownBlock := ⟨Nat.le_refl _, N5.lt, fun g hg => by have := f4 g hg; omega, fun g hg => by have := f5 g hg; omega, fun g h1 h2 => by have := f4 g h1; have := f5 g h2; omega⟩
  obtain ⟨Gp, hGp⟩ : ∃ G, v4.ownBlock = G := ⟨_, rfl⟩
  obtain ⟨Gq, hGq⟩ : ∃ G, v5.ownBlock = G := ⟨_, rfl⟩
  rw [hGp] at V4 D
  rw [hGq] at V5 D
  obtain ⟨A4, c4, rfl, _⟩ := RdS.of_owns O4
  obtain ⟨A5, c5, rfl, _⟩ := RdS.of_owns O5
  clear O4 O5 f4 f5 hGp hGq
  go_wp2_with fail
  obtain ⟨N, hN⟩ : ∃ N, w5.heap.size = N := ⟨_, rfl⟩
  obtain ⟨w6, hw6⟩ : ∃ W, (((w5.alloc (.cells #[.slice A4 la.length c4] 55)).alloc (.cells #[.slice A5 lb.length c5] 55)).alloc (.cells #[.slice none 0 0, .int .i64 0] 57)).alloc (.cells #[.slice none 0 0, .int .i64 0] 57) = W := ⟨_, rfl⟩
  have TA : TAt w6 w w.heap.size N Gp Gq prior ⟨la, lb, ⟨[], 0⟩, ⟨[], 0⟩⟩ (.slice none 0 0) (.slice none 0 0) := by
    obtain ⟨u1, hu1⟩ : ∃ W, w5.alloc (.cells #[.slice A4 la.length c4] 55) = W := ⟨_, rfl⟩
    have b1 : NBox u1 N 55 #[.slice A4 la.length c4] := by rw [← hu1, ← hN]; exact NBox.new _ _ _
    have x1 : Ext w5 u1 := by rw [← hu1]; exact (Ext.refl _).alloc _
    have s1 : u1.heap.size = N + 1 := by rw [← hu1, ← hN]; simp
    rw [hu1] at hw6
    obtain ⟨u2, hu2⟩ : ∃ W, u1.alloc (.cells #[.slice A5 lb.length c5] 55) = W := ⟨_, rfl⟩
    have b2 : NBox u2 (N + 1) 55 #[.slice A5 lb.length c5] := by rw [← hu2, ← s1]; exact NBox.new _ _ _
    have x2 : Ext u1 u2 := by rw [← hu2]; exact (Ext.refl _).alloc _
    have s2 : u2.heap.size = N + 2 := by rw [← hu2]; simp [s1]
    rw [hu2] at hw6
    obtain ⟨u3, hu3⟩ : ∃ W, u2.alloc (.cells #[.slice none 0 0, .int .i64 0] 57) = W := ⟨_, rfl⟩
    have b3 : NBox u3 (N + 2) 57 #[.slice none 0 0, .int .i64 0] := by rw [← hu3, ← s2]; exact NBox.new _ _ _
    have x3 : Ext u2 u3 := by rw [← hu3]; exact (Ext.refl _).alloc _
    have s3 : u3.heap.size = N + 3 := by rw [← hu3]; simp [s2]
    rw [hu3] at hw6
    have b4 : NBox w6 (N + 3) 57 #[.slice none 0 0, .int .i64 0] := by rw [← hw6, ← s3]; exact NBox.new _ _ _
    have x4 : Ext u3 w6 := by rw [← hw6]; exact (Ext.refl _).alloc _
    have s4 : w6.heap.size = N + 4 := by rw [← hw6]; simp [s3]
    have x56 := ((x1.trans x2).trans x3).trans x4
    have own0 : ∀ base, w6.ownsRow base 29 3 (.slice none 0 0) 0 (pcVals []) := fun base => ⟨rfl, .inl ⟨rfl, rfl⟩⟩
    refine ⟨⟨_, b1.ext ((x2.trans x3).trans x4), V4.fr (Fr.of_ext x56 (fun _ => False)) (by simp)⟩, ⟨_, b2.ext (x3.trans x4), V5.fr (Fr.of_ext x56 (fun _ => False)) (by simp)⟩, N5.ext x56, ⟨b3.ext x4, own0 _, by omega, by omega⟩, ⟨b4, own0 _, by omega, by omega⟩, fun k hk => by simp [Value.ownBlock] at hk, E5.trans x56⟩
  rw [hw6, hN, show N + 1 + 1 = N + 2 from rfl, show N + 2 + 1 = N + 3 from rfl]
  rw [hN] at D
  clear hw6 V4 V5 N5 hN
  go_loopw [] (fun wr => ∃ s lx ly, TAt wr w w.heap.size N Gp Gq prior s lx ly ∧ s.Ok 20000000000 100000 ∧ Hid (∃ k, s.phi < k ∧ tRun prior k s = FIN)) (fun wr => phiBox wr N + phiBox wr (N + 1))
  case atStart => exact ⟨_, _, _, TA, ok0, Lib.hid ⟨_, Nat.lt_succ_self _, HFI.out⟩⟩
  case round =>
    clear TA ok0 HFI
    obtain ⟨s, lx, ly, hT, ok, HF⟩ := hrel
    have hc := puts_any w w.heap.size N Gp Gq prior s lx ly D wr hT (T := 20000000000) (by decide) (L := 100000) (by decide) ok
    have ok1 := ok.puts prior
    have HE : Hid (∃ k, s.phi < k + 1 ∧ tRun prior (k + 1) s = FIN) := Lib.hid (by
      obtain ⟨k, h1, h2⟩ := HF.out
      cases k with
      | zero => omega
      | succ k => exact ⟨k, h1, h2⟩)
    have hph : phiBox wr N + phiBox wr (N + 1) = (s.puts prior).phi := by
      rw [phiBox_eq hT.rp, phiBox_eq hT.rq]
      show _ = phi (rPut s.p) + phi (rPut s.q)
      rw [phi_put, phi_put]
    have hph2 : (s.puts prior).phi = s.phi := by
      show phi (rPut s.p) + phi (rPut s.q) = _
      rw [phi_put, phi_put]; rfl
    clear HF
    go_wp2_with fail
    refine hc.mono ?_
    clear hc
    rintro e w7 ⟨lx7, ly7, rfl, hT7⟩
    obtain ⟨s1, hs1⟩ : ∃ s1, s.puts prior = s1 := ⟨_, rfl⟩
    have HE2 : Hid (∃ k, s1.phi < k + 1 ∧ (if s1.more then tRun prior k s1.go else s1) = FIN) := Lib.hid (by
      obtain ⟨k, h1, h2⟩ := HE.out
      refine ⟨k, by rw [← hs1, hph2]; exact h1, ?_⟩
      rw [← hs1]; exact h2)
    rw [hs1] at ok1 hT7 hph
    clear HE hs1 hph2 hT ok s
    obtain ⟨nn0, nn1, nn2⟩ := St.n_le ok1
    have rp : RB 1000000000000 s1.p := RB.of_wt ok1.np (by have := ok1.tx; have h2 := wt_nn ok1.nq; have h3 := wt_nn ok1.nx.1; have h4 := ok1.nx.2; unfold wtM at this; omega)
    have rq : RB 1000000000000 s1.q := RB.of_wt ok1.nq (by have := ok1.tx; have h2 := wt_nn ok1.np; have h3 := wt_nn ok1.nx.1; have h4 := ok1.nx.2; unfold wtM at this; omega)
    have nbd : s1.n ≤ 1000000000000 := (bN_le rp.skip rq.skip).2.1
    have hb := both_any 1000000000000 (by decide) N (N + 1) Gp Gq s1.p s1.q w7 hT7.rp hT7.rq rp rq (by omega) (fun e => by have := D.gp _ e; omega) (fun e => by have := D.gp _ e; omega) (fun e => by have := D.gq _ e; omega) (fun e => by have := D.gq _ e; omega) (fun g h1 h2 => D.pq g h1 h2)
    clear rp rq
    go_wp2_with fail
    refine hb.mono ?_
    clear hb
    rintro e w8 ⟨rfl, R8, S8, F8⟩
    have hT8 := hT7.rows D R8 S8 F8
    clear R8 S8 F8 hT7
    rw [show bN (rSkip s1.p) (rSkip s1.q) = s1.n from rfl] at hT8 ⊢
    rw [show bSome (rSkip s1.p) (rSkip s1.q) = s1.more from rfl]
    cases hm : s1.more with
    | false =>
      have HF2 : Hid (s1 = FIN) := Lib.hid (by
        obtain ⟨k, h1, h2⟩ := HE2.out
        rw [hm] at h2; exact h2)
      have kx := okStr_of (MB.of_wt (n := 900000) (C := 1000000000000) ok1.nx (by have := ok1.tx; have := wt_nn ok1.np; have := wt_nn ok1.nq; omega) (by have := ok1.lx; omega)) (by decide)
      have ky := okStr_of (MB.of_wt (n := 900000) (C := 1000000000000) ok1.ny (by have := ok1.ty; have := wt_nn ok1.np; have := wt_nn ok1.nq; omega) (by have := ok1.ly; omega)) (by decide)
      have mx : MkAt w8 (N + 2) (N + 4) s1.x lx7 := hT8.mx
      have my : MkAt w8 (N + 3) (N + 4) s1.y ly7 := hT8.my
      have e8 := hT8.ext
      have rx := RdP.of_owns mx.2.1 kx
      have ry := RdP.of_owns my.2.1 ky
      have hcx := done_any s1.x (N + 2) (N + 4) lx7 w8 mx kx
      go_wp2_with fail
      refine hcx.mono ?_
      clear hcx
      rintro e w9 ⟨rfl, E9⟩
      have F9 := Fr.of_ext E9 (fun _ => False)
      have hcy := done_any s1.y (N + 3) (N + 4) ly7 w9 (my.fr F9 (by simp) (by simp)) ky
      go_wp2_with fail
      refine hcy.mono ?_
      clear hcy
      rintro e w10 ⟨rfl, E10⟩
      have EE := (e8.trans E9).trans E10
      have rx := rx.ext (E9.trans E10)
      have ry := ry.ext (E9.trans E10)
      obtain ⟨tx, htx⟩ : ∃ t, pcsRight s1.x.l = t := ⟨_, rfl⟩
      obtain ⟨ty, hty⟩ : ∃ t, pcsRight s1.y.l = t := ⟨_, rfl⟩
      rw [htx, hty]
      have eS := HFIN.out.trans HF2.out.symm
      have eE : trE prior a b = if tx && ty then 0 else 3 := by unfold trE; rw [HA.out, HB.out, eS, htx, hty]; rfl
      clear htx hty
      cases tx with
      | false =>
        have eE' : trE prior a b = 3 := eE
        have HE := Lib.hid eE'
        clear eE eE' eS hT8 mx my rx ry kx ky e8
        go_wp2_with fail
        go_ret3
        rw [show trX prior a b = [] by unfold trX; rw [HE.out]; rfl, show trY prior a b = [] by unfold trY; rw [HE.out]; rfl, HE.out]
        exact ⟨_, _, rfl, RdP.nil _, RdP.nil _, EE⟩
      | true =>
        cases ty with
        | false =>
          have eE' : trE prior a b = 3 := eE
          have HE := Lib.hid eE'
          clear eE eE' eS hT8 mx my rx ry kx ky e8
          go_wp2_with fail
          go_ret3
          rw [show trX prior a b = [] by unfold trX; rw [HE.out]; rfl, show trY prior a b = [] by unfold trY; rw [HE.out]; rfl, HE.out]
          exact ⟨_, _, rfl, RdP.nil _, RdP.nil _, EE⟩
        | true =>
          have eE' : trE prior a b = 0 := eE
          have HE := Lib.hid eE'
          have HS := Lib.hid eS
          clear eE eE' eS hT8 mx my kx ky e8
          go_wp2_with fail
          go_ret3
          rw [show trX prior a b = s1.x.l by unfold trX; rw [HE.out, HS.out]; rfl, show trY prior a b = s1.y.l by unfold trY; rw [HE.out, HS.out]; rfl, HE.out]
          exact ⟨_, _, rfl, rx, ry, EE⟩
    | true =>
      have ok2 := St.Ok.go ok1 hm
      have hlt := St.go_phi ok1 hm
      have HF2 : Hid (∃ k, s1.go.phi < k ∧ tRun prior k s1.go = FIN) := Lib.hid (by
        obtain ⟨k, h1, h2⟩ := HE2.out
        rw [hm] at h2
        exact ⟨k, by omega, h2⟩)
      clear HE2
      cases ha' : rD (rSkip s1.p) with
      | true =>
        cases hb' : rD (rSkip s1.q) with
        | true =>
          have ex : goX (rD (rSkip s1.p)) (rD (rSkip s1.q)) s1.n s1.x = s1.x := by rw [ha', hb']; rfl
          have ey : goX (rD (rSkip s1.q)) (rD (rSkip s1.p)) s1.n s1.y = s1.y := by rw [ha', hb']; rfl
          have HX := Lib.hid ex
          have HY := Lib.hid ey
          clear ex ey
          go_wp2_with fail
          have hT9 : TAt w8 w w.heap.size N Gp Gq prior s1.go lx7 ly7 := by
            unfold St.go
            rw [HX.out, HY.out]
            exact hT8
          go_roundw
          case rel => exact ⟨_, _, _, hT9, ok2, HF2⟩
          case measure =>
            rw [hph, phiBox_eq hT9.rp, phiBox_eq hT9.rq]
            exact hlt
        | false =>
          have ex : goX (rD (rSkip s1.p)) (rD (rSkip s1.q)) s1.n s1.x = s1.x.drop s1.n := by rw [ha', hb']; rfl
          have ey : goX (rD (rSkip s1.q)) (rD (rSkip s1.p)) s1.n s1.y = s1.y := by rw [ha', hb']; rfl
          have HX := Lib.hid ex
          have HY := Lib.hid ey
          clear ex ey
          have bx := MB.of_wt (n := 900000) (C := 1000000000000) ok1.nx (by have := ok1.tx; have := wt_nn ok1.np; have := wt_nn ok1.nq; omega) (by have := ok1.lx; omega)
          have by' := MB.of_wt (n := 900000) (C := 1000000000000) ok1.ny (by have := ok1.ty; have := wt_nn ok1.np; have := wt_nn ok1.nq; omega) (by have := ok1.ly; omega)
          have hc := drop_any s1.x (N + 2) (N + 4) lx7 s1.n w8 hT8.mx (by have := bx.len; omega) (fun q hq => (bx.bnd q hq).2) nbd
          go_wp2_with fail
          refine hc.mono ?_
          clear hc
          rintro e w9 ⟨l9, rfl, M, F, G⟩
          have h9 := hT8.onX D M F G
          clear M F G
          go_wp2_with fail
          have hT9 : TAt w9 w w.heap.size N Gp Gq prior s1.go l9 ly7 := by
            unfold St.go
            rw [HX.out, HY.out]
            exact h9
          go_roundw
          case rel => exact ⟨_, _, _, hT9, ok2, HF2⟩
          case measure =>
            rw [hph, phiBox_eq hT9.rp, phiBox_eq hT9.rq]
            exact hlt
      | false =>
        cases hb' : rD (rSkip s1.q) with
        | true =>
          have ex : goX (rD (rSkip s1.p)) (rD (rSkip s1.q)) s1.n s1.x = s1.x := by rw [ha', hb']; rfl
          have ey : goX (rD (rSkip s1.q)) (rD (rSkip s1.p)) s1.n s1.y = s1.y.drop s1.n := by rw [ha', hb']; rfl
          have HX := Lib.hid ex
          have HY := Lib.hid ey
          clear ex ey
          have bx := MB.of_wt (n := 900000) (C := 1000000000000) ok1.nx (by have := ok1.tx; have := wt_nn ok1.np; have := wt_nn ok1.nq; omega) (by have := ok1.lx; omega)
          have by' := MB.of_wt (n := 900000) (C := 1000000000000) ok1.ny (by have := ok1.ty; have := wt_nn ok1.np; have := wt_nn ok1.nq; omega) (by have := ok1.ly; omega)
          have hc := drop_any s1.y (N + 3) (N + 4) ly7 s1.n w8 hT8.my (by have := by'.len; omega) (fun q hq => (by'.bnd q hq).2) nbd
          go_wp2_with fail
          refine hc.mono ?_
          clear hc
          rintro e w9 ⟨l9, rfl, M, F, G⟩
          have h9 := hT8.onY D M F G
          clear M F G
          go_wp2_with fail
          have hT9 : TAt w9 w w.heap.size N Gp Gq prior s1.go lx7 l9 := by
            unfold St.go
            rw [HX.out, HY.out]
            exact h9
          go_roundw
          case rel => exact ⟨_, _, _, hT9, ok2, HF2⟩
          case measure =>
            rw [hph, phiBox_eq hT9.rp, phiBox_eq hT9.rq]
            exact hlt
        | false =>
          have ex : goX (rD (rSkip s1.p)) (rD (rSkip s1.q)) s1.n s1.x = s1.x.more s1.n := by rw [ha', hb']; rfl
          have ey : goX (rD (rSkip s1.q)) (rD (rSkip s1.p)) s1.n s1.y = s1.y.more s1.n := by rw [ha', hb']; rfl
          have HX := Lib.hid ex
          have HY := Lib.hid ey
          clear ex ey
          have bx := MB.of_wt (n := 900000) (C := 1000000000000) ok1.nx (by have := ok1.tx; have := wt_nn ok1.np; have := wt_nn ok1.nq; omega) (by have := ok1.lx; omega)
          have by' := MB.of_wt (n := 900000) (C := 1000000000000) ok1.ny (by have := ok1.ty; have := wt_nn ok1.np; have := wt_nn ok1.nq; omega) (by have := ok1.ly; omega)
          have h9 := hT8.moreX D s1.n
          have h10 := h9.moreY D s1.n
          have ca := hT8.mx.1.cell 1
          have fa := hT8.mx.1.frozen 1
          have cb := hT8.my.1.cell 1
          have fb := hT8.my.1.frozen 1
          have k1 := bx.k0
          have k2 := bx.k1
          have k3 := by'.k0
          have k4 := by'.k1
          have ne1 : ¬ (N + 2 = N + 3) := by omega
          have ne2 : ¬ (N + 3 = N + 2) := by omega
          have HT9 : Hid (TAt _ w w.heap.size N Gp Gq prior _ lx7 ly7) := Lib.hid h10
          clear h9 h10 hT8
          go_wp2_with fail
          have h10 := HT9.out
          have hT9 : TAt ((w8.setCell ⟨N + 2, 1, none⟩ (.int .i64 (s1.x.keep + s1.n))).setCell ⟨N + 3, 1, none⟩ (.int .i64 (s1.y.keep + s1.n))) w w.heap.size N Gp Gq prior s1.go lx7 ly7 := by
            unfold St.go
            rw [HX.out, HY.out]
            exact h10
          go_roundw
          case rel => exact ⟨_, _, _, hT9, ok2, HF2⟩
          case measure =>
            rw [hph, phiBox_eq hT9.rp, phiBox_eq hT9.rq]
            exact hlt
end Go.Proofs.Ytmncjknfkkedmaa.Lx
