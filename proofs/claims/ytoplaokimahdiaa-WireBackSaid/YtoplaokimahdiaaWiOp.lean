/- Chapter 17: op: an operation is put. (Printed by gwop.py.) -/
import Derived.Test.YtoplaokimahdiaaWiBareAll
import Derived.Test.YtoplaokimahdiaaWiNodeP
import Derived.WalkKit
namespace Go.Proofs.Ytoplaokimahdiaa.Wi
open Go.RowKit Go.Proofs.Ytoplaokimahdiaa.Bw Go.Proofs.Ytoplaokimahdiaa.Bs

theorem wp_append_rd {P : Program} {w : World} {o : Oper} {a : Act} {K : Act → World → Prop} {Q : Exit → Act → World → Prop} {s x : Operand} {t : TypeId}
    (ho : o.op = .call { callee := .builtin .append, args := #[s, x], argTypes := #[t, t] }) {e : TypeId} {z : Value} {size bytes : Nat} (T : SliceT P t e z size bytes) {base : Nat} {v : Value} {n : Nat} {xs : List Value} (hs : a.eval s = v) (hown : w.ownsRow base e size v n xs)
    {m : Nat} {news : List Value} {y : Value} (hx : a.eval x = y) (hr : RdS w size m news y) (h1 : ∀ u ∈ news, u.oneCell' = true) (hb : (n + m) * bytes ≤ 140737488355328) (hm : n + m ≤ maxLen) (hbase : base ≤ w.heap.size)
    (h : ∀ v' w', w'.ownsRow base e size v' (n + m) (xs ++ news) → w.grownBy w' v.ownBlock → (v'.ownBlock = v.ownBlock ∨ v'.ownBlock = some w.heap.size) → K (a.put o.dst v') w') : o.wp P a w K Q := by
  obtain ⟨v', w', hrun, h2, h3, h4⟩ := run_append_rd T o.type hown hr h1 hb hm hbase
  unfold Oper.wp execOp
  simp only [ho, resolve, invoke, builtin, Sem.run_bind, Sem.run_pure, Result.andThen_ok, List.map_toArray, List.map_cons, List.map_nil, hs, hx, hrun]
  exact h v' w' h2 h3 h4
theorem PutC.bad {w0 w w1 : World} {B : Nat} {v : Value} {bs : List UInt8} {E : Nat → Prop} (h : St w0 w B v bs) (X : Ext w w1) : PutC w0 w B v bs E none (.panicked WR) w1 :=
  ⟨rfl, h.ext.trans X, Fr.of_ext X _⟩
/-- A box that no writer turns. -/
theorem NBox.puts {w0 W W' : World} {B : Nat} {v : Value} {bs : List UInt8} {C : Nat} {t : TypeId} {cs : Array Value} (h : NBox W C t cs) (hS : St w0 W B v bs) (hF : Fr W W' (Chg B v none_)) (h1 : t ≠ 106) (h2 : t ≠ 5) : NBox W' C t cs :=
  (keepsBox w0 B C t cs h1 h2).fr 0 W W' v bs h hS hF

set_option maxRecDepth 100000 in
set_option maxHeartbeats 4000000 in
/-- An operation of a kind that may be put, and bare: its kind's byte; then the rest. -/
theorem op_head (k : Int) (p : List Int) (a : Int) (t : List Int) (i : Int) (lf : Bool) (lb ky vv : ByteArray) (g : Bool) (c : List Pc) (xv : Value) (w0 w : World) (B : Nat) (v : Value) (bs : List UInt8) (h : St w0 w B v bs)
    (ho : (⟨k, p, a, t, i, lf, lb, ky, vv, g, c⟩ : OpD).rd w0 xv) (hl : bs.length + 4295200000 ≤ 100000000000000) :
    Calls Try.prog 39 #[.pointer (some ⟨B, 0, none⟩), xv] w (PutC w0 w B v bs none_ (opE ⟨k, p, a, t, i, lf, lb, ky, vv, g, c⟩)) := by
  have hxr := OpD.rd_ext h.ext ho
  obtain ⟨pv, tv, cv, rfl, hP, hT, hC, hlb, hky, hvv, hid, hkd⟩ := ho
  simp only at hP hT hC hlb hky hvv hid hkd
  have hP' := hP
  have hT' := hT
  have hC' := hC
  obtain ⟨pA, pc, rfl, -⟩ := hP'
  obtain ⟨tA, tc, rfl, -⟩ := hT'
  obtain ⟨cA, cc, rfl, -⟩ := hC'
  show Calls Try.prog 39 #[.pointer (some ⟨B, 0, none⟩), .agg #[.int .u8 k, .slice pA p.length pc, .int .i64 a, .slice tA t.length tc, .int .u64 i, .bool lf, .string lb, .string ky, .string vv, .bool g, .slice cA c.length cc]] w _
  obtain ⟨w1, hw1⟩ : ∃ W, (w.alloc (.cells #[.pointer (some ⟨B, 0, none⟩)] 73)).alloc (.cells #[.int .u8 k, .slice pA p.length pc, .int .i64 a, .slice tA t.length tc, .int .u64 i, .bool lf, .string lb, .string ky, .string vv, .bool g, .slice cA c.length cc] 66) = W := ⟨_, rfl⟩
  obtain ⟨C, hCC⟩ : ∃ C, w.heap.size = C := ⟨_, rfl⟩
  have s1 : (w.alloc (.cells #[.pointer (some ⟨B, 0, none⟩)] 73)).heap.size = C + 1 := by rw [World.size_alloc, hCC]
  have E1 : Ext w w1 := by rw [← hw1]; exact ((Ext.refl w).alloc _).alloc _
  have bC : NBox w1 C 73 #[.pointer (some ⟨B, 0, none⟩)] := by rw [← hw1, ← hCC]; exact (NBox.new w 73 _).ext ((Ext.refl _).alloc _)
  have bD : NBox w1 (C + 1) 66 #[.int .u8 k, .slice pA p.length pc, .int .i64 a, .slice tA t.length tc, .int .u64 i, .bool lf, .string lb, .string ky, .string vv, .bool g, .slice cA c.length cc] := by rw [← hw1, ← s1]; exact NBox.new _ _ _
  have S1 := h.more E1
  have HW := Lib.hid hw1
  have HC0 := Lib.hid hCC
  have hbd := bD.lt
  clear hw1 s1 hCC
  obtain ⟨D, hD⟩ : ∃ D, C + 1 = D := ⟨_, rfl⟩
  rw [hD] at bD hbd
  have HD := Lib.hid hD
  have HE1 := Lib.hid E1
  have HS := Lib.hid h
  clear hD
  by_cases hk1 : 1 ≤ k
  · by_cases hk2 : k ≤ 6
    · have hb := bare_any _ _ w0 w1 (show (⟨k, p, a, t, i, lf, lb, ky, vv, g, c⟩ : OpD).rd w0 _ from ⟨_, _, _, rfl, hP, hT, hC, hlb, hky, hvv, hid, hkd⟩) hk1 hk2
      have t1 : decide ((1 : Int) ≤ k) = true := decide_eq_true hk1
      have t2 : decide (k ≤ 6) = true := decide_eq_true hk2
      have c0 := bC.cell 0
      have d0 := bD.cell 0
      have d1 := bD.cell 1
      have d2 := bD.cell 2
      have d3 := bD.cell 3
      have d4 := bD.cell 4
      have d5 := bD.cell 5
      have d6 := bD.cell 6
      have d7 := bD.cell 7
      have d8 := bD.cell 8
      have d9 := bD.cell 9
      have d10 := bD.cell 10

      cases hbo : bareO ⟨k, p, a, t, i, lf, lb, ky, vv, g, c⟩ with
      | false =>
        rw [hbo] at hb
        have HR : Hid (opE ⟨k, p, a, t, i, lf, lb, ky, vv, g, c⟩ = none) := Lib.hid (if_neg (fun hh => by rw [hbo] at hh; exact absurd hh.2.2 (by decide)))
        clear hP hT hC hlb hky hvv hid hkd hbo h bC bD hxr hk1 hk2
        go_enter Try.func39, Try.ntmps39
        go_upto_region 1 with fail
        rw [HW.out, HC0.out]
        clear HW
        try rw [HD.out]
        go_wp2_with fail
        refine hb.mono ?_
        clear hb
        rintro e w2 ⟨rfl, hX⟩
        have hw := want_no w2
        go_wp2_with fail
        refine hw.mono ?_
        rintro e w3 ⟨rfl, rfl⟩
        go_wp2_with fail
        refine ⟨rfl, ?_⟩
        rw [HR.out]
        exact PutC.bad HS.out (HE1.out.trans hX)
      | true =>
        rw [hbo] at hb
        obtain ⟨kb, hkb⟩ : ∃ kb : UInt8, (kb.toNat : Int) = k := ⟨UInt8.ofNat k.toNat, by rw [toNat_ofNat (by omega)]; omega⟩
        have HKB : Hid (UInt8.ofNat k.toNat = kb) := Lib.hid (by rw [← hkb, Int.toNat_natCast]; exact UInt8.ofNat_toNat)
        have HRR : Hid (opE ⟨k, p, a, t, i, lf, lb, ky, vv, g, c⟩ = seqE (some [kb] :: pathE p :: restE ⟨k, p, a, t, i, lf, lb, ky, vv, g, c⟩)) := Lib.hid (by unfold opE; rw [if_pos ⟨hk1, hk2, hbo⟩, HKB.out])
        clear hbo h hxr
        go_enter Try.func39, Try.ntmps39
        go_upto_region 1 with fail
        rw [HW.out, HC0.out]
        clear HW
        try rw [HD.out]
        go_wp2_with fail
        refine hb.mono ?_
        clear hb
        rintro e w2 ⟨rfl, hX⟩
        have hw := want_yes w2
        go_wp2_with fail
        refine hw.mono ?_
        clear hw
        rintro e w2' ⟨rfl, rfl⟩
        have S2 := S1.more hX
        have bC2 := bC.ext hX
        have bD2 := bD.ext hX
        have HE2 := Lib.hid (HE1.out.trans hX)
        clear c0 d0 d1 d2 d3 d4 d5 d6 d7 d8 d9 d10 bC bD S1 hX
        go_upto_region 2 with fail
        go_cut [] from 17 to 97 (fun wx => ∃ v1, PutOk w0 w2 B v bs none_ [kb] wx v1)
        case first =>
          obtain ⟨c0, hc0⟩ : ∃ c0, w2.drew = c0 := ⟨_, rfl⟩
          have Xd : Ext w2 c0 := by rw [← hc0]; exact (Ext.refl _).drew
          have S3 := S2.more Xd
          have hO := S3.own
          obtain ⟨N, hN⟩ : ∃ N, bs.length = N := ⟨_, rfl⟩
          rw [hN] at hO
          have HN := Lib.hid hN
          have hNl : N ≤ 99995704800000 := by omega
          obtain ⟨vA, vC, rfl, -⟩ := RdS.of_owns hO
          obtain ⟨c1, hc1⟩ : ∃ W, c0.alloc (.cells #[.int .u8 kb.toNat] 5) = W := ⟨_, rfl⟩
          have XA : Ext c0 c1 := by rw [← hc1]; exact (Ext.refl _).alloc _
          have HRD : Hid (RdS c1 1 1 (u8s [kb]) (.slice (some ⟨c0.heap.size, 0, none⟩) 1 1)) := Lib.hid (by rw [← hc1]; exact rd_byte c0 kb)
          have HOO := Lib.hid (owns_ext XA hO)
          have HEC := Lib.hid (Xd.trans XA)
          have HSZ := Lib.hid (Nat.le_trans S3.ext.size XA.size)
          have HSZ2 := Lib.hid (Xd.trans XA).size
          have HST := Lib.hid S2
          have hbB := S3.box
          have HBB := Lib.hid (hbB.ext XA)
          have bC3 := bC2.ext Xd
          have bD3 := bD2.ext Xd
          have HBC := Lib.hid (bC3.ext XA)
          have HBD := Lib.hid (bD3.ext XA)
          have HNB := Lib.hid (hbB.not_own hO (by decide))
          have HNC := Lib.hid (bC3.not_own hO (by decide))
          have HND := Lib.hid (bD3.not_own hO (by decide))
          have HCB := Lib.hid (NBox.apart bC3 hbB (by decide))
          have HDB := Lib.hid (NBox.apart bD3 hbB (by decide))
          have HK : Hid ((kb.toNat : Int) = k) := Lib.hid hkb
          have f0 := hbB.cell 0
          have e1 := HBB.out.cell 0
          have hHC : c0.cell? ⟨C, 0, none⟩ = some (.pointer (some ⟨B, 0, none⟩)) := bC3.cell 0
          have hHD : c0.cell? ⟨D, 0, none⟩ = some (.int .u8 kb.toNat) := by rw [hkb]; exact bD3.cell 0
          rw [hkb] at hc1 hHD
          have HC1 := Lib.hid hc1
          clear hc1 hkb hO hbB S3 S2 bC3 bD3 bC2 bD2
          refine wp_region_held_drew (S := fun W => W.cell? ⟨C, 0, none⟩ = some (.pointer (some ⟨B, 0, none⟩)) ∧ W.cell? ⟨D, 0, none⟩ = some (.int .u8 k)) (by kernel_rfl) (by rw [hc0]; exact ⟨hHC, hHD⟩) (fun hHeld => ?_)
          rw [hc0] at hHeld ⊢
          clear hc0 hHC hHD
          refine wpAnyH_take (i := 0) (oi := ⟨_, _, _, _, _, _⟩) (v := ?_) rfl (by kernel_rfl) (by kernel_rfl) (by kernel_rfl) (fun _ _ _ h => h) (Or.inl ⟨by rfl, ?_⟩) hHeld ?_
          rotate_left
          · intro w hSw
            obtain ⟨hs1, hs2⟩ := hSw
            go_simp
            all_goals (first | with_reducible rfl | rw [if_pos (by omega)])
          try simp only [Act.put, List.setIfInBounds_toArray, List.set_cons_zero, List.set_cons_succ]
          refine wpAnyH_take (i := 1) (oi := ⟨_, _, _, _, _, _⟩) (v := ?_) rfl (by kernel_rfl) (by kernel_rfl) (by kernel_rfl) (fun _ _ _ h => h) (Or.inl ⟨by rfl, ?_⟩) hHeld ?_
          rotate_left
          · intro w hSw
            obtain ⟨hs1, hs2⟩ := hSw
            go_simp
            all_goals (first | with_reducible rfl | rw [if_pos (by omega)])
          try simp only [Act.put, List.setIfInBounds_toArray, List.set_cons_zero, List.set_cons_succ]
          refine wpAnyH_take (i := 2) (oi := ⟨_, _, _, _, _, _⟩) (v := ?_) rfl (by kernel_rfl) (by kernel_rfl) (by kernel_rfl) (fun _ _ _ h => h) (Or.inl ⟨by rfl, ?_⟩) hHeld ?_
          rotate_left
          · intro w hSw
            obtain ⟨hs1, hs2⟩ := hSw
            go_simp
            all_goals (first | with_reducible rfl | rw [if_pos (by omega)])
          try simp only [Act.put, List.setIfInBounds_toArray, List.set_cons_zero, List.set_cons_succ]
          refine wpAnyH_take (i := 3) (oi := ⟨_, _, _, _, _, _⟩) (v := ?_) rfl (by kernel_rfl) (by kernel_rfl) (by kernel_rfl) (fun _ _ _ h => h) (Or.inl ⟨by rfl, ?_⟩) hHeld ?_
          rotate_left
          · intro w hSw
            obtain ⟨hs1, hs2⟩ := hSw
            go_simp
            all_goals (first | with_reducible rfl | rw [if_pos (by omega)])
          try simp only [Act.put, List.setIfInBounds_toArray, List.set_cons_zero, List.set_cons_succ]
          refine wpAnyH_take (i := 5) (oi := ⟨_, _, _, _, _, _⟩) (v := ?_) rfl (by kernel_rfl) (by kernel_rfl) (by kernel_rfl) (fun _ _ _ h => h) (Or.inl ⟨by rfl, ?_⟩) hHeld ?_
          rotate_left
          · intro w hSw
            obtain ⟨hs1, hs2⟩ := hSw
            go_simp
            all_goals (first | with_reducible rfl | rw [if_pos (by omega)])
          try simp only [Act.put, List.setIfInBounds_toArray, List.set_cons_zero, List.set_cons_succ]
          refine wpAnyH_take (i := 6) (oi := ⟨_, _, _, _, _, _⟩) (v := ?_) rfl (by kernel_rfl) (by kernel_rfl) (by kernel_rfl) (fun _ _ _ h => h) (Or.inl ⟨by rfl, ?_⟩) hHeld ?_
          rotate_left
          · intro w hSw
            obtain ⟨hs1, hs2⟩ := hSw
            go_simp
            all_goals (first | with_reducible rfl | rw [if_pos (by omega)])
          try simp only [Act.put, List.setIfInBounds_toArray, List.set_cons_zero, List.set_cons_succ]
          refine wpAnyH_ready (rs := [4, 7]) (by kernel_rfl) (by simp) ?_
          refine AllReadyH.cons (o := ⟨_, _, _, _, _, _⟩) rfl (fun K' hK => ?_) (AllReadyH.cons (o := ⟨_, _, _, _, _, _⟩) rfl (fun K' hK => ?_) (AllReadyH.nil))
          · go_simp
            refine hK.out _ _ hHeld (fun hHeld => ?_)
            clear hK K'
            try simp only [Act.put, List.setIfInBounds_toArray, List.set_cons_zero, List.set_cons_succ]
            refine wpAnyH_ready (rs := [7]) (by kernel_rfl) (by simp) ?_
            refine AllReadyH.cons (o := ⟨_, _, _, _, _, _⟩) rfl (fun K' hK => ?_) (AllReadyH.nil)
            go_simp
            refine hK.out _ _ (show ((c0.alloc (.cells #[.int .u8 k] 5)).cell? ⟨C, 0, none⟩ = _ ∧ (c0.alloc (.cells #[.int .u8 k] 5)).cell? ⟨D, 0, none⟩ = _) from by rw [HC1.out]; exact ⟨XA.cell hHeld.1, XA.cell hHeld.2⟩) (fun hHeld => ?_)
            clear hK K'
            try simp only [Act.put, List.setIfInBounds_toArray, List.set_cons_zero, List.set_cons_succ]
            rw [HC1.out] at hHeld ⊢
            refine wpAnyH_ready (rs := [8]) (by kernel_rfl) (by simp) ?_
            refine AllReadyH.cons (o := ⟨_, _, _, _, _, _⟩) rfl (fun K' hK => ?_) (AllReadyH.nil)
            refine wp_append_rd rfl T25 (by rfl) HOO.out (by rfl) HRD.out (u8s_one _) (by omega) (by simp only [maxLen]; omega) HSZ.out ?_
            intro v3 w3 O3 hg3 hat3
            have HPK := Lib.hid (HST.out.put none_ HEC.out HN.out (n := 1) (b := [kb]) rfl rfl O3 hg3 (ow_of hat3 HSZ2.out))
            have bB3 := HBB.out.fr (Fr.grown hg3) HNB.out
            have bC3 := HBC.out.fr (Fr.grown hg3) HNC.out
            have bD3 := HBD.out.fr (Fr.grown hg3) HND.out
            obtain ⟨vA3, vC3, rfl, -⟩ := RdS.of_owns O3
            refine hK.out _ _ (show _ ∧ _ from ⟨bC3.cell 0, bD3.cell 0⟩) (fun hHeld => ?_)
            clear hK K'
            try simp only [Act.put, List.setIfInBounds_toArray, List.set_cons_zero, List.set_cons_succ]
            refine wpAnyH_take (i := 9) (oi := ⟨_, _, _, _, _, _⟩) (v := ?_) rfl (by kernel_rfl) (by kernel_rfl) (by kernel_rfl) (fun _ _ _ h => h) (Or.inl ⟨by rfl, ?_⟩) hHeld ?_
            rotate_left
            · intro w hSw
              obtain ⟨hs1, hs2⟩ := hSw
              go_simp
              all_goals (first | with_reducible rfl | rw [if_pos (by omega)])
            try simp only [Act.put, List.setIfInBounds_toArray, List.set_cons_zero, List.set_cons_succ]
            refine wpAnyH_take (i := 10) (oi := ⟨_, _, _, _, _, _⟩) (v := ?_) rfl (by kernel_rfl) (by kernel_rfl) (by kernel_rfl) (fun _ _ _ h => h) (Or.inl ⟨by rfl, ?_⟩) hHeld ?_
            rotate_left
            · intro w hSw
              obtain ⟨hs1, hs2⟩ := hSw
              go_simp
              all_goals (first | with_reducible rfl | rw [if_pos (by omega)])
            try simp only [Act.put, List.setIfInBounds_toArray, List.set_cons_zero, List.set_cons_succ]
            have f0 := bB3.cell 0
            have f1 := bB3.frozen 0
            refine wpAnyH_ready (rs := [11]) (by kernel_rfl) (by simp) ?_
            refine AllReadyH.cons (o := ⟨_, _, _, _, _, _⟩) rfl (fun K' hK => ?_) (AllReadyH.nil)
            go_simp
            refine hK.out _ _ (show _ ∧ _ from ⟨(bC3.fr (Fr.setCell _ _ _ _) HCB.out).cell 0, (bD3.fr (Fr.setCell _ _ _ _) HDB.out).cell 0⟩) (fun hHeld => ?_)
            clear hK K'
            try simp only [Act.put, List.setIfInBounds_toArray, List.set_cons_zero, List.set_cons_succ]
            refine wpAnyH_done (by kernel_rfl) ?_ _
            clear hHeld f0 f1 O3 hg3 hat3 bB3 bC3 bD3
            go_wp2_with fail
            go_meet
            case rel => exact ⟨_, HPK.out⟩
          · go_simp
            refine hK.out _ _ (show ((c0.alloc (.cells #[.int .u8 k] 5)).cell? ⟨C, 0, none⟩ = _ ∧ (c0.alloc (.cells #[.int .u8 k] 5)).cell? ⟨D, 0, none⟩ = _) from by rw [HC1.out]; exact ⟨XA.cell hHeld.1, XA.cell hHeld.2⟩) (fun hHeld => ?_)
            clear hK K'
            try simp only [Act.put, List.setIfInBounds_toArray, List.set_cons_zero, List.set_cons_succ]
            rw [HC1.out] at hHeld ⊢
            have e0 := e1
            refine wpAnyH_ready (rs := [4]) (by kernel_rfl) (by simp) ?_
            refine AllReadyH.cons (o := ⟨_, _, _, _, _, _⟩) rfl (fun K' hK => ?_) (AllReadyH.nil)
            go_simp
            refine hK.out _ _ hHeld (fun hHeld => ?_)
            clear hK K'
            try simp only [Act.put, List.setIfInBounds_toArray, List.set_cons_zero, List.set_cons_succ]
            refine wpAnyH_ready (rs := [8]) (by kernel_rfl) (by simp) ?_
            refine AllReadyH.cons (o := ⟨_, _, _, _, _, _⟩) rfl (fun K' hK => ?_) (AllReadyH.nil)
            refine wp_append_rd rfl T25 (by rfl) HOO.out (by rfl) HRD.out (u8s_one _) (by omega) (by simp only [maxLen]; omega) HSZ.out ?_
            intro v3 w3 O3 hg3 hat3
            have HPK := Lib.hid (HST.out.put none_ HEC.out HN.out (n := 1) (b := [kb]) rfl rfl O3 hg3 (ow_of hat3 HSZ2.out))
            have bB3 := HBB.out.fr (Fr.grown hg3) HNB.out
            have bC3 := HBC.out.fr (Fr.grown hg3) HNC.out
            have bD3 := HBD.out.fr (Fr.grown hg3) HND.out
            obtain ⟨vA3, vC3, rfl, -⟩ := RdS.of_owns O3
            refine hK.out _ _ (show _ ∧ _ from ⟨bC3.cell 0, bD3.cell 0⟩) (fun hHeld => ?_)
            clear hK K'
            try simp only [Act.put, List.setIfInBounds_toArray, List.set_cons_zero, List.set_cons_succ]
            refine wpAnyH_take (i := 9) (oi := ⟨_, _, _, _, _, _⟩) (v := ?_) rfl (by kernel_rfl) (by kernel_rfl) (by kernel_rfl) (fun _ _ _ h => h) (Or.inl ⟨by rfl, ?_⟩) hHeld ?_
            rotate_left
            · intro w hSw
              obtain ⟨hs1, hs2⟩ := hSw
              go_simp
              all_goals (first | with_reducible rfl | rw [if_pos (by omega)])
            try simp only [Act.put, List.setIfInBounds_toArray, List.set_cons_zero, List.set_cons_succ]
            refine wpAnyH_take (i := 10) (oi := ⟨_, _, _, _, _, _⟩) (v := ?_) rfl (by kernel_rfl) (by kernel_rfl) (by kernel_rfl) (fun _ _ _ h => h) (Or.inl ⟨by rfl, ?_⟩) hHeld ?_
            rotate_left
            · intro w hSw
              obtain ⟨hs1, hs2⟩ := hSw
              go_simp
              all_goals (first | with_reducible rfl | rw [if_pos (by omega)])
            try simp only [Act.put, List.setIfInBounds_toArray, List.set_cons_zero, List.set_cons_succ]
            have f0 := bB3.cell 0
            have f1 := bB3.frozen 0
            refine wpAnyH_ready (rs := [11]) (by kernel_rfl) (by simp) ?_
            refine AllReadyH.cons (o := ⟨_, _, _, _, _, _⟩) rfl (fun K' hK => ?_) (AllReadyH.nil)
            go_simp
            refine hK.out _ _ (show _ ∧ _ from ⟨(bC3.fr (Fr.setCell _ _ _ _) HCB.out).cell 0, (bD3.fr (Fr.setCell _ _ _ _) HDB.out).cell 0⟩) (fun hHeld => ?_)
            clear hK K'
            try simp only [Act.put, List.setIfInBounds_toArray, List.set_cons_zero, List.set_cons_succ]
            refine wpAnyH_done (by kernel_rfl) ?_ _
            clear hHeld f0 f1 O3 hg3 hat3 bB3 bC3 bD3
            go_wp2_with fail
            go_meet
            case rel => exact ⟨_, HPK.out⟩
        case rest =>
          obtain ⟨v_1, hP1⟩ := hcut
          have HP1 := Lib.hid hP1
          have HC1 := Lib.hid (bC2.puts S2 hP1.fr (by decide) (by decide))
          have HD1 := Lib.hid (bD2.puts S2 hP1.fr (by decide) (by decide))
          have HPP := Lib.hid hP
          have HTT := Lib.hid hT
          have HCC := Lib.hid hC
          have HLB : Hid (lb.size ≤ maxLen) := Lib.hid hlb
          have HKY : Hid (ky.size ≤ maxLen) := Lib.hid hky
          have HVV : Hid (vv.size ≤ maxLen) := Lib.hid hvv
          have HCX : Hid (∀ (i : Nat) (x : Pc), c[i]? = some x → x.put.size ≤ maxLen) := Lib.hid (fun i x hx => by
            obtain ⟨A, cp, -, -, -, hcell⟩ := hC
            obtain ⟨b0, off, -, hrd⟩ := hcell (by have := (List.getElem?_eq_some_iff.1 hx).1; omega)
            exact (rdPcs_at hrd hx).2.2.2)
          have HNU : Hid (∀ (w0 w : World) (B : Nat) (v : Value) (bs : List UInt8), St w0 w B v bs → bs.length ≤ 100000000000000 → Calls Try.prog 50 #[.pointer (some ⟨B, 0, none⟩), .int .u64 i] w (PutC w0 w B v bs none_ (some (num i.toNat)))) := Lib.hid (fun w0 w B v bs h hl => by
            have := number_any i.toNat (by omega) w0 w B v bs h hl
            rw [Int.toNat_of_nonneg hid.1] at this
            exact this)
          have HNL := Lib.hid (num_len (n := i.toNat) (by omega))
          obtain ⟨w_1, hw1⟩ : ∃ W, wc = W := ⟨_, rfl⟩
          rw [hw1] at HP1 HC1 HD1 ⊢
          clear hw1 hP hT hC hlb hky hvv hid hkd hkb bC2 bD2 S2 hP1
          have hk3 : k = 1 ∨ k = 2 ∨ k = 3 ∨ k = 4 ∨ k = 5 ∨ k = 6 := by omega
          clear hk1 hk2 t1 t2
          rcases hk3 with rfl | rfl | rfl | rfl | rfl | rfl
          · skip
            have HRK : Hid (opE ⟨1, p, a, t, i, lf, lb, ky, vv, g, c⟩ = seqE (some [kb] :: pathE p :: [smallE a 1048577, some (num i.toNat), some (flagE lf), textE lb 64])) := Lib.hid (HRR.out.trans rfl)
            have hb1 := HP1.out.st
            have d1 := (HD1.out).cell 1
            have x0 := (HC1.out).cell 0
            have hc := path_any p _ w0 w_1 B v_1 (bs ++ ([kb])) HPP.out hb1 (by simp only [List.length_append, List.length_cons, List.length_nil]; omega)
            clear hb1
            obtain ⟨r, hr⟩ : ∃ r, pathE p = r := ⟨_, rfl⟩
            rw [hr] at hc
            have HR := Lib.hid hr
            clear hr
            go_wp2_with fail
            refine hc.mono ?_
            clear hc
            clear x0 d1
            rintro e w_2 hC
            cases r with
            | none =>
              obtain ⟨rfl, hN⟩ := hC
              have hP := Lib.hid (PutC.from HE2.out (show PutC w0 w2 B v bs none_ none (.panicked WR) w_2 from ⟨rfl, HP1.out.no hN⟩))
              have HRN : Hid (opE ⟨1, p, a, t, i, lf, lb, ky, vv, g, c⟩ = none) := Lib.hid (by rw [HRK.out, HR.out]; rfl)
              clear hN
              go_wp2_with fail
              refine ⟨rfl, ?_⟩
              rw [HRN.out]
              exact hP.out
            | some b2 =>
              obtain ⟨v_2, rfl, hP⟩ := hC
              have l2 := pathE_len HR.out
              have R2 := HR
              clear HR
              have HP2 := Lib.hid (HP1.out.trans hP)
              have HC2 := Lib.hid (HC1.out.puts HP1.out.st hP.fr (by decide) (by decide))
              have HD2 := Lib.hid (HD1.out.puts HP1.out.st hP.fr (by decide) (by decide))
              clear hP
              have hb2 := HP2.out.st
              have d0 := (HD2.out).cell 0
              have d2 := (HD2.out).cell 2
              have x0 := (HC2.out).cell 0
              have hc := small_any a 1048577 (by decide) w0 w_2 B v_2 (bs ++ (([kb]) ++ b2)) hb2 (by simp only [List.length_append, List.length_cons, List.length_nil]; omega)
              clear hb2
              obtain ⟨r, hr⟩ : ∃ r, smallE a 1048577 = r := ⟨_, rfl⟩
              rw [hr] at hc
              have HR := Lib.hid hr
              clear hr
              go_wp2_with fail
              refine hc.mono ?_
              clear hc
              clear x0 d0 d2
              rintro e w_3 hC
              cases r with
              | none =>
                obtain ⟨rfl, hN⟩ := hC
                have hP := Lib.hid (PutC.from HE2.out (show PutC w0 w2 B v bs none_ none (.panicked WR) w_3 from ⟨rfl, HP2.out.no hN⟩))
                have HRN : Hid (opE ⟨1, p, a, t, i, lf, lb, ky, vv, g, c⟩ = none) := Lib.hid (by rw [HRK.out, R2.out, HR.out]; rfl)
                clear hN
                go_wp2_with fail
                refine ⟨rfl, ?_⟩
                rw [HRN.out]
                exact hP.out
              | some b3 =>
                obtain ⟨v_3, rfl, hP⟩ := hC
                have l3 := smallE_len (by decide) HR.out
                have R3 := HR
                clear HR
                have HP3 := Lib.hid (HP2.out.trans hP)
                have HC3 := Lib.hid (HC2.out.puts HP2.out.st hP.fr (by decide) (by decide))
                have HD3 := Lib.hid (HD2.out.puts HP2.out.st hP.fr (by decide) (by decide))
                clear hP
                have hb3 := HP3.out.st
                have d4 := (HD3.out).cell 4
                have x0 := (HC3.out).cell 0
                have hc := HNU.out w0 w_3 B v_3 (bs ++ ((([kb]) ++ b2) ++ b3)) hb3 (by simp only [List.length_append, List.length_cons, List.length_nil]; omega)
                clear hb3
                go_wp2_with fail
                refine hc.mono ?_
                clear hc
                clear x0 d4
                rintro e w_4 ⟨v_4, rfl, hP⟩
                have l4 := HNL.out
                have HP4 := Lib.hid (HP3.out.trans hP)
                have HC4 := Lib.hid (HC3.out.puts HP3.out.st hP.fr (by decide) (by decide))
                have HD4 := Lib.hid (HD3.out.puts HP3.out.st hP.fr (by decide) (by decide))
                clear hP
                have hb4 := HP4.out.st
                have d5 := (HD4.out).cell 5
                have x0 := (HC4.out).cell 0
                have hc := flag_any lf w0 w_4 B v_4 (bs ++ (((([kb]) ++ b2) ++ b3) ++ (num i.toNat))) hb4 (by simp only [List.length_append, List.length_cons, List.length_nil]; omega)
                clear hb4
                go_wp2_with fail
                refine hc.mono ?_
                clear hc
                clear x0 d5
                rintro e w_5 ⟨v_5, rfl, hP⟩
                have l5 := show (flagE lf).length = 1 from rfl
                have HP5 := Lib.hid (HP4.out.trans hP)
                have HC5 := Lib.hid (HC4.out.puts HP4.out.st hP.fr (by decide) (by decide))
                have HD5 := Lib.hid (HD4.out.puts HP4.out.st hP.fr (by decide) (by decide))
                clear hP
                have hb5 := HP5.out.st
                have d6 := (HD5.out).cell 6
                have x0 := (HC5.out).cell 0
                have hc := text_any lb 64 (by decide) HLB.out w0 w_5 B v_5 (bs ++ ((((([kb]) ++ b2) ++ b3) ++ (num i.toNat)) ++ (flagE lf))) hb5 (by simp only [List.length_append, List.length_cons, List.length_nil]; omega)
                clear hb5
                obtain ⟨r, hr⟩ : ∃ r, textE lb 64 = r := ⟨_, rfl⟩
                rw [hr] at hc
                have HR := Lib.hid hr
                clear hr
                go_wp2_with fail
                refine hc.mono ?_
                clear hc
                clear x0 d6
                rintro e w_6 hC
                cases r with
                | none =>
                  obtain ⟨rfl, hN⟩ := hC
                  have hP := Lib.hid (PutC.from HE2.out (show PutC w0 w2 B v bs none_ none (.panicked WR) w_6 from ⟨rfl, HP5.out.no hN⟩))
                  have HRN : Hid (opE ⟨1, p, a, t, i, lf, lb, ky, vv, g, c⟩ = none) := Lib.hid (by rw [HRK.out, R2.out, R3.out, HR.out]; rfl)
                  clear hN
                  go_wp2_with fail
                  refine ⟨rfl, ?_⟩
                  rw [HRN.out]
                  exact hP.out
                | some b6 =>
                  obtain ⟨v_6, rfl, hP⟩ := hC
                  have l6 := textE_len (by decide) HR.out
                  have R6 := HR
                  clear HR
                  have HP6 := Lib.hid (HP5.out.trans hP)
                  have HC6 := Lib.hid (HC5.out.puts HP5.out.st hP.fr (by decide) (by decide))
                  have HD6 := Lib.hid (HD5.out.puts HP5.out.st hP.fr (by decide) (by decide))
                  clear hP
                  have d0 := HD6.out.cell 0
                  go_wp2_with fail
                  go_end0
                  have HF : Hid (opE ⟨1, p, a, t, i, lf, lb, ky, vv, g, c⟩ = some (((((([kb]) ++ b2) ++ b3) ++ (num i.toNat)) ++ (flagE lf)) ++ b6)) := Lib.hid (by rw [HRK.out, R2.out, R3.out, R6.out]; simp [seqE])
                  rw [HF.out]
                  exact PutC.from HE2.out (show PutC w0 w2 B v bs none_ (some (((((([kb]) ++ b2) ++ b3) ++ (num i.toNat)) ++ (flagE lf)) ++ b6)) _ _ from ⟨_, rfl, HP6.out⟩)
          · skip
            have HRK : Hid (opE ⟨2, p, a, t, i, lf, lb, ky, vv, g, c⟩ = seqE (some [kb] :: pathE p :: [])) := Lib.hid (HRR.out.trans rfl)
            have hb1 := HP1.out.st
            have d1 := (HD1.out).cell 1
            have x0 := (HC1.out).cell 0
            have hc := path_any p _ w0 w_1 B v_1 (bs ++ ([kb])) HPP.out hb1 (by simp only [List.length_append, List.length_cons, List.length_nil]; omega)
            clear hb1
            obtain ⟨r, hr⟩ : ∃ r, pathE p = r := ⟨_, rfl⟩
            rw [hr] at hc
            have HR := Lib.hid hr
            clear hr
            go_wp2_with fail
            refine hc.mono ?_
            clear hc
            clear x0 d1
            rintro e w_2 hC
            cases r with
            | none =>
              obtain ⟨rfl, hN⟩ := hC
              have hP := Lib.hid (PutC.from HE2.out (show PutC w0 w2 B v bs none_ none (.panicked WR) w_2 from ⟨rfl, HP1.out.no hN⟩))
              have HRN : Hid (opE ⟨2, p, a, t, i, lf, lb, ky, vv, g, c⟩ = none) := Lib.hid (by rw [HRK.out, HR.out]; rfl)
              clear hN
              go_wp2_with fail
              refine ⟨rfl, ?_⟩
              rw [HRN.out]
              exact hP.out
            | some b2 =>
              obtain ⟨v_2, rfl, hP⟩ := hC
              have l2 := pathE_len HR.out
              have R2 := HR
              clear HR
              have HP2 := Lib.hid (HP1.out.trans hP)
              have HC2 := Lib.hid (HC1.out.puts HP1.out.st hP.fr (by decide) (by decide))
              have HD2 := Lib.hid (HD1.out.puts HP1.out.st hP.fr (by decide) (by decide))
              clear hP
              have d0 := HD2.out.cell 0
              go_wp2_with fail
              go_end0
              have HF : Hid (opE ⟨2, p, a, t, i, lf, lb, ky, vv, g, c⟩ = some (([kb]) ++ b2)) := Lib.hid (by rw [HRK.out, R2.out]; simp [seqE])
              rw [HF.out]
              exact PutC.from HE2.out (show PutC w0 w2 B v bs none_ (some (([kb]) ++ b2)) _ _ from ⟨_, rfl, HP2.out⟩)
          · skip
            have HRK : Hid (opE ⟨3, p, a, t, i, lf, lb, ky, vv, g, c⟩ = seqE (some [kb] :: pathE p :: [pathE t, smallE a 1048577])) := Lib.hid (HRR.out.trans rfl)
            have hb1 := HP1.out.st
            have d1 := (HD1.out).cell 1
            have x0 := (HC1.out).cell 0
            have hc := path_any p _ w0 w_1 B v_1 (bs ++ ([kb])) HPP.out hb1 (by simp only [List.length_append, List.length_cons, List.length_nil]; omega)
            clear hb1
            obtain ⟨r, hr⟩ : ∃ r, pathE p = r := ⟨_, rfl⟩
            rw [hr] at hc
            have HR := Lib.hid hr
            clear hr
            go_wp2_with fail
            refine hc.mono ?_
            clear hc
            clear x0 d1
            rintro e w_2 hC
            cases r with
            | none =>
              obtain ⟨rfl, hN⟩ := hC
              have hP := Lib.hid (PutC.from HE2.out (show PutC w0 w2 B v bs none_ none (.panicked WR) w_2 from ⟨rfl, HP1.out.no hN⟩))
              have HRN : Hid (opE ⟨3, p, a, t, i, lf, lb, ky, vv, g, c⟩ = none) := Lib.hid (by rw [HRK.out, HR.out]; rfl)
              clear hN
              go_wp2_with fail
              refine ⟨rfl, ?_⟩
              rw [HRN.out]
              exact hP.out
            | some b2 =>
              obtain ⟨v_2, rfl, hP⟩ := hC
              have l2 := pathE_len HR.out
              have R2 := HR
              clear HR
              have HP2 := Lib.hid (HP1.out.trans hP)
              have HC2 := Lib.hid (HC1.out.puts HP1.out.st hP.fr (by decide) (by decide))
              have HD2 := Lib.hid (HD1.out.puts HP1.out.st hP.fr (by decide) (by decide))
              clear hP
              have hb2 := HP2.out.st
              have d0 := (HD2.out).cell 0
              have d3 := (HD2.out).cell 3
              have x0 := (HC2.out).cell 0
              have hc := path_any t _ w0 w_2 B v_2 (bs ++ (([kb]) ++ b2)) HTT.out hb2 (by simp only [List.length_append, List.length_cons, List.length_nil]; omega)
              clear hb2
              obtain ⟨r, hr⟩ : ∃ r, pathE t = r := ⟨_, rfl⟩
              rw [hr] at hc
              have HR := Lib.hid hr
              clear hr
              go_wp2_with fail
              refine hc.mono ?_
              clear hc
              clear x0 d0 d3
              rintro e w_3 hC
              cases r with
              | none =>
                obtain ⟨rfl, hN⟩ := hC
                have hP := Lib.hid (PutC.from HE2.out (show PutC w0 w2 B v bs none_ none (.panicked WR) w_3 from ⟨rfl, HP2.out.no hN⟩))
                have HRN : Hid (opE ⟨3, p, a, t, i, lf, lb, ky, vv, g, c⟩ = none) := Lib.hid (by rw [HRK.out, R2.out, HR.out]; rfl)
                clear hN
                go_wp2_with fail
                refine ⟨rfl, ?_⟩
                rw [HRN.out]
                exact hP.out
              | some b3 =>
                obtain ⟨v_3, rfl, hP⟩ := hC
                have l3 := pathE_len HR.out
                have R3 := HR
                clear HR
                have HP3 := Lib.hid (HP2.out.trans hP)
                have HC3 := Lib.hid (HC2.out.puts HP2.out.st hP.fr (by decide) (by decide))
                have HD3 := Lib.hid (HD2.out.puts HP2.out.st hP.fr (by decide) (by decide))
                clear hP
                have hb3 := HP3.out.st
                have d2 := (HD3.out).cell 2
                have x0 := (HC3.out).cell 0
                have hc := small_any a 1048577 (by decide) w0 w_3 B v_3 (bs ++ ((([kb]) ++ b2) ++ b3)) hb3 (by simp only [List.length_append, List.length_cons, List.length_nil]; omega)
                clear hb3
                obtain ⟨r, hr⟩ : ∃ r, smallE a 1048577 = r := ⟨_, rfl⟩
                rw [hr] at hc
                have HR := Lib.hid hr
                clear hr
                go_wp2_with fail
                refine hc.mono ?_
                clear hc
                clear x0 d2
                rintro e w_4 hC
                cases r with
                | none =>
                  obtain ⟨rfl, hN⟩ := hC
                  have hP := Lib.hid (PutC.from HE2.out (show PutC w0 w2 B v bs none_ none (.panicked WR) w_4 from ⟨rfl, HP3.out.no hN⟩))
                  have HRN : Hid (opE ⟨3, p, a, t, i, lf, lb, ky, vv, g, c⟩ = none) := Lib.hid (by rw [HRK.out, R2.out, R3.out, HR.out]; rfl)
                  clear hN
                  go_wp2_with fail
                  refine ⟨rfl, ?_⟩
                  rw [HRN.out]
                  exact hP.out
                | some b4 =>
                  obtain ⟨v_4, rfl, hP⟩ := hC
                  have l4 := smallE_len (by decide) HR.out
                  have R4 := HR
                  clear HR
                  have HP4 := Lib.hid (HP3.out.trans hP)
                  have HC4 := Lib.hid (HC3.out.puts HP3.out.st hP.fr (by decide) (by decide))
                  have HD4 := Lib.hid (HD3.out.puts HP3.out.st hP.fr (by decide) (by decide))
                  clear hP
                  have d0 := HD4.out.cell 0
                  go_wp2_with fail
                  go_end0
                  have HF : Hid (opE ⟨3, p, a, t, i, lf, lb, ky, vv, g, c⟩ = some (((([kb]) ++ b2) ++ b3) ++ b4)) := Lib.hid (by rw [HRK.out, R2.out, R3.out, R4.out]; simp [seqE])
                  rw [HF.out]
                  exact PutC.from HE2.out (show PutC w0 w2 B v bs none_ (some (((([kb]) ++ b2) ++ b3) ++ b4)) _ _ from ⟨_, rfl, HP4.out⟩)
          · skip
            cases g with
            | false =>
              have HRK : Hid (opE ⟨4, p, a, t, i, lf, lb, ky, vv, false, c⟩ = seqE (some [kb] :: pathE p :: [some [], textE ky 64, some (flagE false), textE vv 256])) := Lib.hid (HRR.out.trans rfl)
              have hb1 := HP1.out.st
              have d1 := (HD1.out).cell 1
              have x0 := (HC1.out).cell 0
              have hc := path_any p _ w0 w_1 B v_1 (bs ++ ([kb])) HPP.out hb1 (by simp only [List.length_append, List.length_cons, List.length_nil]; omega)
              clear hb1
              obtain ⟨r, hr⟩ : ∃ r, pathE p = r := ⟨_, rfl⟩
              rw [hr] at hc
              have HR := Lib.hid hr
              clear hr
              go_wp2_with fail
              refine hc.mono ?_
              clear hc
              clear x0 d1
              rintro e w_2 hC
              cases r with
              | none =>
                obtain ⟨rfl, hN⟩ := hC
                have hP := Lib.hid (PutC.from HE2.out (show PutC w0 w2 B v bs none_ none (.panicked WR) w_2 from ⟨rfl, HP1.out.no hN⟩))
                have HRN : Hid (opE ⟨4, p, a, t, i, lf, lb, ky, vv, false, c⟩ = none) := Lib.hid (by rw [HRK.out, HR.out]; rfl)
                clear hN
                go_wp2_with fail
                refine ⟨rfl, ?_⟩
                rw [HRN.out]
                exact hP.out
              | some b2 =>
                obtain ⟨v_2, rfl, hP⟩ := hC
                have l2 := pathE_len HR.out
                have R2 := HR
                clear HR
                have HP2 := Lib.hid (HP1.out.trans hP)
                have HC2 := Lib.hid (HC1.out.puts HP1.out.st hP.fr (by decide) (by decide))
                have HD2 := Lib.hid (HD1.out.puts HP1.out.st hP.fr (by decide) (by decide))
                clear hP
                have d0 := (HD2.out).cell 0
                have d9 := (HD2.out).cell 9
                have hw := want_yes w_2
                go_wp2_with fail
                refine hw.mono ?_
                clear hw d0 d9
                rintro e w' ⟨rfl, rfl⟩
                have hb2 := HP2.out.st
                have d7 := (HD2.out).cell 7
                have x0 := (HC2.out).cell 0
                have hc := text_any ky 64 (by decide) HKY.out w0 w_2 B v_2 (bs ++ (([kb]) ++ b2)) hb2 (by simp only [List.length_append, List.length_cons, List.length_nil]; omega)
                clear hb2
                obtain ⟨r, hr⟩ : ∃ r, textE ky 64 = r := ⟨_, rfl⟩
                rw [hr] at hc
                have HR := Lib.hid hr
                clear hr
                go_wp2_with fail
                refine hc.mono ?_
                clear hc
                clear x0 d7
                rintro e w_3 hC
                cases r with
                | none =>
                  obtain ⟨rfl, hN⟩ := hC
                  have hP := Lib.hid (PutC.from HE2.out (show PutC w0 w2 B v bs none_ none (.panicked WR) w_3 from ⟨rfl, HP2.out.no hN⟩))
                  have HRN : Hid (opE ⟨4, p, a, t, i, lf, lb, ky, vv, false, c⟩ = none) := Lib.hid (by rw [HRK.out, R2.out, HR.out]; rfl)
                  clear hN
                  go_wp2_with fail
                  refine ⟨rfl, ?_⟩
                  rw [HRN.out]
                  exact hP.out
                | some b3 =>
                  obtain ⟨v_3, rfl, hP⟩ := hC
                  have l3 := textE_len (by decide) HR.out
                  have R3 := HR
                  clear HR
                  have HP3 := Lib.hid (HP2.out.trans hP)
                  have HC3 := Lib.hid (HC2.out.puts HP2.out.st hP.fr (by decide) (by decide))
                  have HD3 := Lib.hid (HD2.out.puts HP2.out.st hP.fr (by decide) (by decide))
                  clear hP
                  have hb3 := HP3.out.st
                  have d9 := (HD3.out).cell 9
                  have x0 := (HC3.out).cell 0
                  have hc := flag_any false w0 w_3 B v_3 (bs ++ ((([kb]) ++ b2) ++ b3)) hb3 (by simp only [List.length_append, List.length_cons, List.length_nil]; omega)
                  clear hb3
                  go_wp2_with fail
                  refine hc.mono ?_
                  clear hc
                  clear x0 d9
                  rintro e w_4 ⟨v_4, rfl, hP⟩
                  have l4 := show (flagE false).length = 1 from rfl
                  have HP4 := Lib.hid (HP3.out.trans hP)
                  have HC4 := Lib.hid (HC3.out.puts HP3.out.st hP.fr (by decide) (by decide))
                  have HD4 := Lib.hid (HD3.out.puts HP3.out.st hP.fr (by decide) (by decide))
                  clear hP
                  have hb4 := HP4.out.st
                  have d8 := (HD4.out).cell 8
                  have x0 := (HC4.out).cell 0
                  have hc := text_any vv 256 (by decide) HVV.out w0 w_4 B v_4 (bs ++ (((([kb]) ++ b2) ++ b3) ++ (flagE false))) hb4 (by simp only [List.length_append, List.length_cons, List.length_nil]; omega)
                  clear hb4
                  obtain ⟨r, hr⟩ : ∃ r, textE vv 256 = r := ⟨_, rfl⟩
                  rw [hr] at hc
                  have HR := Lib.hid hr
                  clear hr
                  go_wp2_with fail
                  refine hc.mono ?_
                  clear hc
                  clear x0 d8
                  rintro e w_5 hC
                  cases r with
                  | none =>
                    obtain ⟨rfl, hN⟩ := hC
                    have hP := Lib.hid (PutC.from HE2.out (show PutC w0 w2 B v bs none_ none (.panicked WR) w_5 from ⟨rfl, HP4.out.no hN⟩))
                    have HRN : Hid (opE ⟨4, p, a, t, i, lf, lb, ky, vv, false, c⟩ = none) := Lib.hid (by rw [HRK.out, R2.out, R3.out, HR.out]; rfl)
                    clear hN
                    go_wp2_with fail
                    refine ⟨rfl, ?_⟩
                    rw [HRN.out]
                    exact hP.out
                  | some b5 =>
                    obtain ⟨v_5, rfl, hP⟩ := hC
                    have l5 := textE_len (by decide) HR.out
                    have R5 := HR
                    clear HR
                    have HP5 := Lib.hid (HP4.out.trans hP)
                    have HC5 := Lib.hid (HC4.out.puts HP4.out.st hP.fr (by decide) (by decide))
                    have HD5 := Lib.hid (HD4.out.puts HP4.out.st hP.fr (by decide) (by decide))
                    clear hP
                    have d0 := HD5.out.cell 0
                    go_wp2_with fail
                    go_end0
                    have HF : Hid (opE ⟨4, p, a, t, i, lf, lb, ky, vv, false, c⟩ = some ((((([kb]) ++ b2) ++ b3) ++ (flagE false)) ++ b5)) := Lib.hid (by rw [HRK.out, R2.out, R3.out, R5.out]; simp [seqE])
                    rw [HF.out]
                    exact PutC.from HE2.out (show PutC w0 w2 B v bs none_ (some ((((([kb]) ++ b2) ++ b3) ++ (flagE false)) ++ b5)) _ _ from ⟨_, rfl, HP5.out⟩)
            | true =>
              have x3 := isEmpty_size vv
              cases hz : (vv.size == 0) with
              | true =>
                rw [hz] at x3
                have HRK : Hid (opE ⟨4, p, a, t, i, lf, lb, ky, vv, true, c⟩ = seqE (some [kb] :: pathE p :: [some [], textE ky 64, some (flagE true), textE vv 256])) := Lib.hid (HRR.out.trans (by unfold restE; simp [hz]))
                clear hz
                have hb1 := HP1.out.st
                have d1 := (HD1.out).cell 1
                have x0 := (HC1.out).cell 0
                have hc := path_any p _ w0 w_1 B v_1 (bs ++ ([kb])) HPP.out hb1 (by simp only [List.length_append, List.length_cons, List.length_nil]; omega)
                clear hb1
                obtain ⟨r, hr⟩ : ∃ r, pathE p = r := ⟨_, rfl⟩
                rw [hr] at hc
                have HR := Lib.hid hr
                clear hr
                go_wp2_with fail
                refine hc.mono ?_
                clear hc
                clear x0 d1
                rintro e w_2 hC
                cases r with
                | none =>
                  obtain ⟨rfl, hN⟩ := hC
                  have hP := Lib.hid (PutC.from HE2.out (show PutC w0 w2 B v bs none_ none (.panicked WR) w_2 from ⟨rfl, HP1.out.no hN⟩))
                  have HRN : Hid (opE ⟨4, p, a, t, i, lf, lb, ky, vv, true, c⟩ = none) := Lib.hid (by rw [HRK.out, HR.out]; rfl)
                  clear hN
                  go_wp2_with fail
                  refine ⟨rfl, ?_⟩
                  rw [HRN.out]
                  exact hP.out
                | some b2 =>
                  obtain ⟨v_2, rfl, hP⟩ := hC
                  have l2 := pathE_len HR.out
                  have R2 := HR
                  clear HR
                  have HP2 := Lib.hid (HP1.out.trans hP)
                  have HC2 := Lib.hid (HC1.out.puts HP1.out.st hP.fr (by decide) (by decide))
                  have HD2 := Lib.hid (HD1.out.puts HP1.out.st hP.fr (by decide) (by decide))
                  clear hP
                  have d0 := (HD2.out).cell 0
                  have d8 := (HD2.out).cell 8
                  have d9 := (HD2.out).cell 9
                  have hw := want_yes w_2
                  go_wp2_with fail
                  refine hw.mono ?_
                  clear hw d0 d8 d9
                  rintro e w' ⟨rfl, rfl⟩
                  have hb2 := HP2.out.st
                  have d7 := (HD2.out).cell 7
                  have x0 := (HC2.out).cell 0
                  have hc := text_any ky 64 (by decide) HKY.out w0 w_2 B v_2 (bs ++ (([kb]) ++ b2)) hb2 (by simp only [List.length_append, List.length_cons, List.length_nil]; omega)
                  clear hb2
                  obtain ⟨r, hr⟩ : ∃ r, textE ky 64 = r := ⟨_, rfl⟩
                  rw [hr] at hc
                  have HR := Lib.hid hr
                  clear hr
                  go_wp2_with fail
                  refine hc.mono ?_
                  clear hc
                  clear x0 d7
                  rintro e w_3 hC
                  cases r with
                  | none =>
                    obtain ⟨rfl, hN⟩ := hC
                    have hP := Lib.hid (PutC.from HE2.out (show PutC w0 w2 B v bs none_ none (.panicked WR) w_3 from ⟨rfl, HP2.out.no hN⟩))
                    have HRN : Hid (opE ⟨4, p, a, t, i, lf, lb, ky, vv, true, c⟩ = none) := Lib.hid (by rw [HRK.out, R2.out, HR.out]; rfl)
                    clear hN
                    go_wp2_with fail
                    refine ⟨rfl, ?_⟩
                    rw [HRN.out]
                    exact hP.out
                  | some b3 =>
                    obtain ⟨v_3, rfl, hP⟩ := hC
                    have l3 := textE_len (by decide) HR.out
                    have R3 := HR
                    clear HR
                    have HP3 := Lib.hid (HP2.out.trans hP)
                    have HC3 := Lib.hid (HC2.out.puts HP2.out.st hP.fr (by decide) (by decide))
                    have HD3 := Lib.hid (HD2.out.puts HP2.out.st hP.fr (by decide) (by decide))
                    clear hP
                    have hb3 := HP3.out.st
                    have d9 := (HD3.out).cell 9
                    have x0 := (HC3.out).cell 0
                    have hc := flag_any true w0 w_3 B v_3 (bs ++ ((([kb]) ++ b2) ++ b3)) hb3 (by simp only [List.length_append, List.length_cons, List.length_nil]; omega)
                    clear hb3
                    go_wp2_with fail
                    refine hc.mono ?_
                    clear hc
                    clear x0 d9
                    rintro e w_4 ⟨v_4, rfl, hP⟩
                    have l4 := show (flagE true).length = 1 from rfl
                    have HP4 := Lib.hid (HP3.out.trans hP)
                    have HC4 := Lib.hid (HC3.out.puts HP3.out.st hP.fr (by decide) (by decide))
                    have HD4 := Lib.hid (HD3.out.puts HP3.out.st hP.fr (by decide) (by decide))
                    clear hP
                    have hb4 := HP4.out.st
                    have d8 := (HD4.out).cell 8
                    have x0 := (HC4.out).cell 0
                    have hc := text_any vv 256 (by decide) HVV.out w0 w_4 B v_4 (bs ++ (((([kb]) ++ b2) ++ b3) ++ (flagE true))) hb4 (by simp only [List.length_append, List.length_cons, List.length_nil]; omega)
                    clear hb4
                    obtain ⟨r, hr⟩ : ∃ r, textE vv 256 = r := ⟨_, rfl⟩
                    rw [hr] at hc
                    have HR := Lib.hid hr
                    clear hr
                    go_wp2_with fail
                    refine hc.mono ?_
                    clear hc
                    clear x0 d8
                    rintro e w_5 hC
                    cases r with
                    | none =>
                      obtain ⟨rfl, hN⟩ := hC
                      have hP := Lib.hid (PutC.from HE2.out (show PutC w0 w2 B v bs none_ none (.panicked WR) w_5 from ⟨rfl, HP4.out.no hN⟩))
                      have HRN : Hid (opE ⟨4, p, a, t, i, lf, lb, ky, vv, true, c⟩ = none) := Lib.hid (by rw [HRK.out, R2.out, R3.out, HR.out]; rfl)
                      clear hN
                      go_wp2_with fail
                      refine ⟨rfl, ?_⟩
                      rw [HRN.out]
                      exact hP.out
                    | some b5 =>
                      obtain ⟨v_5, rfl, hP⟩ := hC
                      have l5 := textE_len (by decide) HR.out
                      have R5 := HR
                      clear HR
                      have HP5 := Lib.hid (HP4.out.trans hP)
                      have HC5 := Lib.hid (HC4.out.puts HP4.out.st hP.fr (by decide) (by decide))
                      have HD5 := Lib.hid (HD4.out.puts HP4.out.st hP.fr (by decide) (by decide))
                      clear hP
                      have d0 := HD5.out.cell 0
                      go_wp2_with fail
                      go_end0
                      have HF : Hid (opE ⟨4, p, a, t, i, lf, lb, ky, vv, true, c⟩ = some ((((([kb]) ++ b2) ++ b3) ++ (flagE true)) ++ b5)) := Lib.hid (by rw [HRK.out, R2.out, R3.out, R5.out]; simp [seqE])
                      rw [HF.out]
                      exact PutC.from HE2.out (show PutC w0 w2 B v bs none_ (some ((((([kb]) ++ b2) ++ b3) ++ (flagE true)) ++ b5)) _ _ from ⟨_, rfl, HP5.out⟩)
              | false =>
                rw [hz] at x3
                have HRK : Hid (opE ⟨4, p, a, t, i, lf, lb, ky, vv, true, c⟩ = seqE (some [kb] :: pathE p :: [none, textE ky 64, some (flagE true), textE vv 256])) := Lib.hid (HRR.out.trans (by unfold restE; simp [hz]))
                clear hz
                have hb1 := HP1.out.st
                have d1 := (HD1.out).cell 1
                have x0 := (HC1.out).cell 0
                have hc := path_any p _ w0 w_1 B v_1 (bs ++ ([kb])) HPP.out hb1 (by simp only [List.length_append, List.length_cons, List.length_nil]; omega)
                clear hb1
                obtain ⟨r, hr⟩ : ∃ r, pathE p = r := ⟨_, rfl⟩
                rw [hr] at hc
                have HR := Lib.hid hr
                clear hr
                go_wp2_with fail
                refine hc.mono ?_
                clear hc
                clear x0 d1
                rintro e w_2 hC
                cases r with
                | none =>
                  obtain ⟨rfl, hN⟩ := hC
                  have hP := Lib.hid (PutC.from HE2.out (show PutC w0 w2 B v bs none_ none (.panicked WR) w_2 from ⟨rfl, HP1.out.no hN⟩))
                  have HRN : Hid (opE ⟨4, p, a, t, i, lf, lb, ky, vv, true, c⟩ = none) := Lib.hid (by rw [HRK.out, HR.out]; rfl)
                  clear hN
                  go_wp2_with fail
                  refine ⟨rfl, ?_⟩
                  rw [HRN.out]
                  exact hP.out
                | some b2 =>
                  obtain ⟨v_2, rfl, hP⟩ := hC
                  have l2 := pathE_len HR.out
                  have R2 := HR
                  clear HR
                  have HP2 := Lib.hid (HP1.out.trans hP)
                  have HC2 := Lib.hid (HC1.out.puts HP1.out.st hP.fr (by decide) (by decide))
                  have HD2 := Lib.hid (HD1.out.puts HP1.out.st hP.fr (by decide) (by decide))
                  clear hP
                  have d0 := (HD2.out).cell 0
                  have d8 := (HD2.out).cell 8
                  have d9 := (HD2.out).cell 9
                  have hw := want_no w_2
                  go_wp2_with fail
                  refine hw.mono ?_
                  clear hw d0 d8 d9
                  rintro e w' ⟨rfl, rfl⟩
                  go_wp2_with fail
                  refine ⟨rfl, ?_⟩
                  have HRN : Hid (opE ⟨4, p, a, t, i, lf, lb, ky, vv, true, c⟩ = none) := Lib.hid (by rw [HRK.out, R2.out]; rfl)
                  rw [HRN.out]
                  exact PutC.from HE2.out (show PutC w0 w2 B v bs none_ none (.panicked WR) _ from ⟨rfl, HP2.out.no ⟨HP2.out.st.ext, Fr.refl _ _⟩⟩)
          · skip
            have HRK : Hid (opE ⟨5, p, a, t, i, lf, lb, ky, vv, g, c⟩ = seqE (some [kb] :: pathE p :: [textE lb 64])) := Lib.hid (HRR.out.trans rfl)
            have hb1 := HP1.out.st
            have d1 := (HD1.out).cell 1
            have x0 := (HC1.out).cell 0
            have hc := path_any p _ w0 w_1 B v_1 (bs ++ ([kb])) HPP.out hb1 (by simp only [List.length_append, List.length_cons, List.length_nil]; omega)
            clear hb1
            obtain ⟨r, hr⟩ : ∃ r, pathE p = r := ⟨_, rfl⟩
            rw [hr] at hc
            have HR := Lib.hid hr
            clear hr
            go_wp2_with fail
            refine hc.mono ?_
            clear hc
            clear x0 d1
            rintro e w_2 hC
            cases r with
            | none =>
              obtain ⟨rfl, hN⟩ := hC
              have hP := Lib.hid (PutC.from HE2.out (show PutC w0 w2 B v bs none_ none (.panicked WR) w_2 from ⟨rfl, HP1.out.no hN⟩))
              have HRN : Hid (opE ⟨5, p, a, t, i, lf, lb, ky, vv, g, c⟩ = none) := Lib.hid (by rw [HRK.out, HR.out]; rfl)
              clear hN
              go_wp2_with fail
              refine ⟨rfl, ?_⟩
              rw [HRN.out]
              exact hP.out
            | some b2 =>
              obtain ⟨v_2, rfl, hP⟩ := hC
              have l2 := pathE_len HR.out
              have R2 := HR
              clear HR
              have HP2 := Lib.hid (HP1.out.trans hP)
              have HC2 := Lib.hid (HC1.out.puts HP1.out.st hP.fr (by decide) (by decide))
              have HD2 := Lib.hid (HD1.out.puts HP1.out.st hP.fr (by decide) (by decide))
              clear hP
              have hb2 := HP2.out.st
              have d0 := (HD2.out).cell 0
              have d6 := (HD2.out).cell 6
              have x0 := (HC2.out).cell 0
              have hc := text_any lb 64 (by decide) HLB.out w0 w_2 B v_2 (bs ++ (([kb]) ++ b2)) hb2 (by simp only [List.length_append, List.length_cons, List.length_nil]; omega)
              clear hb2
              obtain ⟨r, hr⟩ : ∃ r, textE lb 64 = r := ⟨_, rfl⟩
              rw [hr] at hc
              have HR := Lib.hid hr
              clear hr
              go_wp2_with fail
              refine hc.mono ?_
              clear hc
              clear x0 d0 d6
              rintro e w_3 hC
              cases r with
              | none =>
                obtain ⟨rfl, hN⟩ := hC
                have hP := Lib.hid (PutC.from HE2.out (show PutC w0 w2 B v bs none_ none (.panicked WR) w_3 from ⟨rfl, HP2.out.no hN⟩))
                have HRN : Hid (opE ⟨5, p, a, t, i, lf, lb, ky, vv, g, c⟩ = none) := Lib.hid (by rw [HRK.out, R2.out, HR.out]; rfl)
                clear hN
                go_wp2_with fail
                refine ⟨rfl, ?_⟩
                rw [HRN.out]
                exact hP.out
              | some b3 =>
                obtain ⟨v_3, rfl, hP⟩ := hC
                have l3 := textE_len (by decide) HR.out
                have R3 := HR
                clear HR
                have HP3 := Lib.hid (HP2.out.trans hP)
                have HC3 := Lib.hid (HC2.out.puts HP2.out.st hP.fr (by decide) (by decide))
                have HD3 := Lib.hid (HD2.out.puts HP2.out.st hP.fr (by decide) (by decide))
                clear hP
                have d0 := HD3.out.cell 0
                go_wp2_with fail
                go_end0
                have HF : Hid (opE ⟨5, p, a, t, i, lf, lb, ky, vv, g, c⟩ = some ((([kb]) ++ b2) ++ b3)) := Lib.hid (by rw [HRK.out, R2.out, R3.out]; simp [seqE])
                rw [HF.out]
                exact PutC.from HE2.out (show PutC w0 w2 B v bs none_ (some ((([kb]) ++ b2) ++ b3)) _ _ from ⟨_, rfl, HP3.out⟩)
          · skip
            have HRK : Hid (opE ⟨6, p, a, t, i, lf, lb, ky, vv, g, c⟩ = seqE (some [kb] :: pathE p :: [rowE c 4096 pieceE])) := Lib.hid (HRR.out.trans rfl)
            have hb1 := HP1.out.st
            have d1 := (HD1.out).cell 1
            have x0 := (HC1.out).cell 0
            have hc := path_any p _ w0 w_1 B v_1 (bs ++ ([kb])) HPP.out hb1 (by simp only [List.length_append, List.length_cons, List.length_nil]; omega)
            clear hb1
            obtain ⟨r, hr⟩ : ∃ r, pathE p = r := ⟨_, rfl⟩
            rw [hr] at hc
            have HR := Lib.hid hr
            clear hr
            go_wp2_with fail
            refine hc.mono ?_
            clear hc
            clear x0 d1
            rintro e w_2 hC
            cases r with
            | none =>
              obtain ⟨rfl, hN⟩ := hC
              have hP := Lib.hid (PutC.from HE2.out (show PutC w0 w2 B v bs none_ none (.panicked WR) w_2 from ⟨rfl, HP1.out.no hN⟩))
              have HRN : Hid (opE ⟨6, p, a, t, i, lf, lb, ky, vv, g, c⟩ = none) := Lib.hid (by rw [HRK.out, HR.out]; rfl)
              clear hN
              go_wp2_with fail
              refine ⟨rfl, ?_⟩
              rw [HRN.out]
              exact hP.out
            | some b2 =>
              obtain ⟨v_2, rfl, hP⟩ := hC
              have l2 := pathE_len HR.out
              have R2 := HR
              clear HR
              have HP2 := Lib.hid (HP1.out.trans hP)
              have HC2 := Lib.hid (HC1.out.puts HP1.out.st hP.fr (by decide) (by decide))
              have HD2 := Lib.hid (HD1.out.puts HP1.out.st hP.fr (by decide) (by decide))
              clear hP
              have hb2 := HP2.out.st
              have d0 := (HD2.out).cell 0
              have d10 := (HD2.out).cell 10
              have x0 := (HC2.out).cell 0
              have hc := (puts71 72 #[.pointer (some ⟨C, 0, none⟩)] pieceE c 4096 1048606 (by decide) none_ (fun _ W => NBox W C 73 #[.pointer (some ⟨B, 0, none⟩)]) w0 w_2 B v_2 _ (bs ++ (([kb]) ++ b2)) HCC.out hb2 (by simp only [List.length_append, List.length_cons, List.length_nil]; omega) (keepsBox w0 B C 73 _ (by decide) (by decide)) HC2.out enters72 (fun i x W v1 b1 hx hJ hS hlen => (op1_any x (HCX.out i x hx) C w0 W B v1 b1 hS hJ (by have := hlen; simp only [List.length_append, List.length_cons, List.length_nil] at this; omega)).mono fun e W' hC => ⟨hC, fun b hb => ⟨pieceE_len hb, by rw [hb] at hC; obtain ⟨v', -, hP⟩ := hC; exact hJ.puts hS hP.fr (by decide) (by decide)⟩⟩)).mono (fun e W' h => h.1)
              clear hb2
              obtain ⟨r, hr⟩ : ∃ r, rowE c 4096 pieceE = r := ⟨_, rfl⟩
              rw [hr] at hc
              have HR := Lib.hid hr
              clear hr
              go_wp2_with fail
              refine hc.mono ?_
              clear hc
              clear x0 d0 d10
              rintro e w_3 hC
              cases r with
              | none =>
                obtain ⟨rfl, hN⟩ := hC
                have hP := Lib.hid (PutC.from HE2.out (show PutC w0 w2 B v bs none_ none (.panicked WR) w_3 from ⟨rfl, HP2.out.no hN⟩))
                have HRN : Hid (opE ⟨6, p, a, t, i, lf, lb, ky, vv, g, c⟩ = none) := Lib.hid (by rw [HRK.out, R2.out, HR.out]; rfl)
                clear hN
                go_wp2_with fail
                refine ⟨rfl, ?_⟩
                rw [HRN.out]
                exact hP.out
              | some b3 =>
                obtain ⟨v_3, rfl, hP⟩ := hC
                have l3 := pcs_len HR.out
                have R3 := HR
                clear HR
                have HP3 := Lib.hid (HP2.out.trans hP)
                have HC3 := Lib.hid (HC2.out.puts HP2.out.st hP.fr (by decide) (by decide))
                have HD3 := Lib.hid (HD2.out.puts HP2.out.st hP.fr (by decide) (by decide))
                clear hP
                have d0 := HD3.out.cell 0
                go_wp2_with fail
                go_end0
                have HF : Hid (opE ⟨6, p, a, t, i, lf, lb, ky, vv, g, c⟩ = some ((([kb]) ++ b2) ++ b3)) := Lib.hid (by rw [HRK.out, R2.out, R3.out]; simp [seqE])
                rw [HF.out]
                exact PutC.from HE2.out (show PutC w0 w2 B v bs none_ (some ((([kb]) ++ b2) ++ b3)) _ _ from ⟨_, rfl, HP3.out⟩)
    · have c0 := bC.cell 0
      have t1 : decide ((1 : Int) ≤ k) = true := decide_eq_true hk1
      have t2 : decide (k ≤ 6) = false := decide_eq_false hk2
      have d0 := bD.cell 0
      have HR : Hid (opE ⟨k, p, a, t, i, lf, lb, ky, vv, g, c⟩ = none) := Lib.hid (if_neg (fun hh => hk2 hh.2.1))
      have hw := want_no w1
      clear hP hT hC hlb hky hvv hid hkd h bC bD hxr hk1 hk2
      go_enter Try.func39, Try.ntmps39
      go_upto_region 1 with fail
      rw [HW.out, HC0.out]
      clear HW
      try rw [HD.out]
      go_wp2_with fail
      refine hw.mono ?_
      rintro e w3 ⟨rfl, rfl⟩
      go_wp2_with fail
      refine ⟨rfl, ?_⟩
      rw [HR.out]
      exact PutC.bad HS.out HE1.out
  · have c0 := bC.cell 0
    have t1 : decide ((1 : Int) ≤ k) = false := decide_eq_false hk1
    have d0 := bD.cell 0
    have HR : Hid (opE ⟨k, p, a, t, i, lf, lb, ky, vv, g, c⟩ = none) := Lib.hid (if_neg (fun hh => hk1 hh.1))
    have hw := want_no w1
    clear hP hT hC hlb hky hvv hid hkd h bC bD hxr hk1
    go_enter Try.func39, Try.ntmps39
    go_upto_region 1 with fail
    rw [HW.out, HC0.out]
    clear HW
    try rw [HD.out]
    go_wp2_with fail
    refine hw.mono ?_
    rintro e w3 ⟨rfl, rfl⟩
    go_wp2_with fail
    refine ⟨rfl, ?_⟩
    rw [HR.out]
    exact PutC.bad HS.out HE1.out
end Go.Proofs.Ytoplaokimahdiaa.Wi
