/- Chapter 17: a tree is put: the closure at a child (76), node (42). (Printed by gwnode.py.) -/
import Derived.Test.YtoplaokimahdiaaWiAttr1
namespace Go.Proofs.Ytoplaokimahdiaa.Wi
open Go.RowKit Go.Proofs.Ytoplaokimahdiaa.Bw Go.Proofs.Ytoplaokimahdiaa.Bs

def NodeK (t : Nd) : Prop := ∀ (xv : Value) (d : Nat) (c : Int) (LB : Nat) (w0 w : World) (B : Nat) (v : Value) (bs : List UInt8), t.rd w0 xv → d ≤ 65 → 0 ≤ c → c ≤ 512 → St w0 w B v bs → NBox w LB 3 #[.int .i64 c] → w0.heap.size ≤ LB → bs.length + (66 - d) * 186200000000 ≤ 100000000000000 →
  Calls Try.prog 42 #[.pointer (some ⟨B, 0, none⟩), xv, .int .i64 (d : Int), .pointer (some ⟨LB, 0, none⟩)] w fun e W' => PutC w0 w B v bs (fun k => k = LB) (nodeC c d t) e W' ∧ ∀ b, nodeC c d t = some b → NBox W' LB 3 #[.int .i64 (c - t.cnt)]
theorem enters76 : ∀ args W, (callFunc 76 args).run Try.prog W = .ok (.enter 76 args) W := fun args W => by kernel_rfl
set_option maxRecDepth 100000 in
set_option maxHeartbeats 2000000 in
theorem kid1_any (x : Nd) (ih : NodeK x) (xv : Value) (d : Nat) (c : Int) (LB C P Q : Nat) (w0 w : World) (B : Nat) (v : Value) (bs : List UInt8) (hx : x.rd w0 xv) (hd : d ≤ 64) (h0 : 0 ≤ c) (h1 : c ≤ 512) (h : St w0 w B v bs) (bL : NBox w LB 3 #[.int .i64 c]) (hL : w0.heap.size ≤ LB)
    (bC : NBox w C 73 #[.pointer (some ⟨B, 0, none⟩)]) (bP : NBox w P 3 #[.int .i64 (d : Int)]) (bQ : NBox w Q 81 #[.pointer (some ⟨LB, 0, none⟩)]) (hl : bs.length + (66 - (d + 1)) * 186200000000 ≤ 100000000000000) :
    Calls Try.prog 76 #[xv, .pointer (some ⟨C, 0, none⟩), .pointer (some ⟨P, 0, none⟩), .pointer (some ⟨Q, 0, none⟩)] w fun e W' => PutC w0 w B v bs (fun k => k = LB) (nodeC c (d + 1) x) e W' ∧ ∀ b, nodeC c (d + 1) x = some b → NBox W' LB 3 #[.int .i64 (c - x.cnt)] := by
  obtain ⟨id, leaf, lb, ats, tx, ks⟩ := x
  have hx' := hx
  unfold Nd.rd at hx'
  obtain ⟨av, A, cc, rfl, -, -, -, ⟨aA, ac, rfl, -⟩, -⟩ := hx'
  obtain ⟨w1, hw1⟩ : ∃ W, w.alloc (.cells #[.int .u64 id, .bool leaf, .string lb, .slice aA ats.length ac, .string tx, .slice A ks.length cc] 32) = W := ⟨_, rfl⟩
  have E1 : Ext w w1 := by rw [← hw1]; exact (Ext.refl w).alloc _
  obtain ⟨D, hDD⟩ : ∃ D, w.heap.size = D := ⟨_, rfl⟩
  have bD : NBox w1 D 32 #[.int .u64 id, .bool leaf, .string lb, .slice aA ats.length ac, .string tx, .slice A ks.length cc] := by rw [← hw1, ← hDD]; exact NBox.new _ _ _
  have hc := ih _ (d + 1) c LB w0 w1 B v bs hx (by omega) h0 h1 (h.more E1) (bL.ext E1) hL hl
  rw [show ((d + 1 : Nat) : Int) = (d : Int) + 1 from by omega] at hc
  have HE1 := Lib.hid E1
  have HW := Lib.hid hw1
  have HD := Lib.hid hDD
  have c0 := (bC.ext E1).cell 0
  have p0 := (bP.ext E1).cell 0
  have q0 := (bQ.ext E1).cell 0
  have d0 := bD.cell 0
  have d1 := bD.cell 1
  have d2 := bD.cell 2
  have d3 := bD.cell 3
  have d4 := bD.cell 4
  have d5 := bD.cell 5
  obtain ⟨r, hr⟩ : ∃ r, nodeC c (d + 1) (.mk id leaf lb ats tx ks) = r := ⟨_, rfl⟩
  rw [hr] at hc ⊢
  clear hr hw1 hDD ih hx bD bC bP bQ bL h E1
  go_enter Try.func76, Try.ntmps76
  go_upto_region 1 with fail
  rw [HW.out, HD.out]
  go_wp2_with fail
  refine hc.mono ?_
  clear hc c0 p0 q0 d0 d1 d2 d3 d4 d5
  rintro e W' ⟨hC, hB⟩
  have HB := Lib.hid hB
  clear hB
  cases r with
  | none =>
    obtain ⟨rfl, hN⟩ := hC
    have hP := Lib.hid (PutC.from HE1.out (show PutC w0 w1 B v bs (fun k => k = LB) none (.panicked WR) W' from ⟨rfl, hN⟩))
    clear hN
    go_wp2_with fail
    first | exact ⟨rfl, hP.out⟩ | exact ⟨rfl, hP.out, HB.out⟩
  | some b =>
    obtain ⟨v', rfl, hP⟩ := hC
    have hP := Lib.hid (PutC.from HE1.out (show PutC w0 w1 B v bs (fun k => k = LB) (some b) (.returned (.tuple #[])) W' from ⟨v', rfl, hP⟩))
    go_wp2_with fail
    go_end0
    exact ⟨hP.out, HB.out⟩

set_option maxRecDepth 100000 in
set_option maxHeartbeats 4000000 in
theorem node_true (id : Int) (lb : ByteArray) (ats : List (ByteArray × ByteArray)) (tx : ByteArray) (ks : List Nd) (_ih : ∀ x ∈ ks, NodeK x) : NodeK (.mk id true lb ats tx ks) := by
  intro xv d c LB w0 w B v bs hx hd h0 h1 h bL hL hl
  have hid2 := rd_idLt hx
  have hx' := hx
  unfold Nd.rd at hx'
  obtain ⟨av, A, cc, rfl, hid, hlb, htx, hAv, hk1, hk2, hk3⟩ := hx'
  have hAv' := hAv
  obtain ⟨aA, ac, rfl, -⟩ := hAv'
  have hKs : RdK w0 ks (.slice A ks.length cc) := ⟨A, cc, rfl, hk1, hk2, hk3⟩
  clear hk1 hk2 hk3
  obtain ⟨C, hCC⟩ : ∃ C, w.heap.size = C := ⟨_, rfl⟩
  obtain ⟨w1, hw1⟩ : ∃ W, (((w.alloc (.cells #[.pointer (some ⟨B, 0, none⟩)] 73)).alloc (.cells #[.int .u64 id, .bool true, .string lb, .slice aA ats.length ac, .string tx, .slice A ks.length cc] 32)).alloc (.cells #[.int .i64 (d : Int)] 3)).alloc (.cells #[.pointer (some ⟨LB, 0, none⟩)] 81) = W := ⟨_, rfl⟩
  obtain ⟨D, hD⟩ : ∃ D, C + 1 = D := ⟨_, rfl⟩
  obtain ⟨P, hP⟩ : ∃ P, D + 1 = P := ⟨_, rfl⟩
  obtain ⟨Q, hQ⟩ : ∃ Q, P + 1 = Q := ⟨_, rfl⟩
  have s1 : (w.alloc (.cells #[.pointer (some ⟨B, 0, none⟩)] 73)).heap.size = D := by rw [World.size_alloc, hCC, hD]
  have s2 : ((w.alloc (.cells #[.pointer (some ⟨B, 0, none⟩)] 73)).alloc (.cells #[.int .u64 id, .bool true, .string lb, .slice aA ats.length ac, .string tx, .slice A ks.length cc] 32)).heap.size = P := by rw [World.size_alloc, s1, hP]
  have s3 : (((w.alloc (.cells #[.pointer (some ⟨B, 0, none⟩)] 73)).alloc (.cells #[.int .u64 id, .bool true, .string lb, .slice aA ats.length ac, .string tx, .slice A ks.length cc] 32)).alloc (.cells #[.int .i64 (d : Int)] 3)).heap.size = Q := by rw [World.size_alloc, s2, hQ]
  have E1 : Ext w w1 := by rw [← hw1]; exact ((((Ext.refl w).alloc _).alloc _).alloc _).alloc _
  have bC : NBox w1 C 73 #[.pointer (some ⟨B, 0, none⟩)] := by rw [← hw1, ← hCC]; exact (NBox.new w 73 _).ext ((((Ext.refl _).alloc _).alloc _).alloc _)
  have bD : NBox w1 D 32 #[.int .u64 id, .bool true, .string lb, .slice aA ats.length ac, .string tx, .slice A ks.length cc] := by rw [← hw1, ← s1]; exact (NBox.new _ 32 _).ext (((Ext.refl _).alloc _).alloc _)
  have bP : NBox w1 P 3 #[.int .i64 (d : Int)] := by rw [← hw1, ← s2]; exact (NBox.new _ 3 _).ext ((Ext.refl _).alloc _)
  have bQ : NBox w1 Q 81 #[.pointer (some ⟨LB, 0, none⟩)] := by rw [← hw1, ← s3]; exact NBox.new _ 81 _
  have hLw := bL.lt
  have hPL : P ≠ LB := by omega
  have bL1 := bL.ext E1
  obtain ⟨w2, hw2⟩ : ∃ W, w1.setCell ⟨LB, 0, none⟩ (.int .i64 (c - 1)) = W := ⟨_, rfl⟩
  have F2 : Fr w1 w2 (fun k => k = LB) := by rw [← hw2]; exact Fr.setCell _ _ _ _
  have HC2 := Lib.hid (bC.fr F2 (NBox.apart bC bL1 (by decide)))
  have HD2 := Lib.hid (bD.fr F2 (NBox.apart bD bL1 (by decide)))
  have HP2 := Lib.hid (bP.fr F2 hPL)
  have HQ2 := Lib.hid (bQ.fr F2 (NBox.apart bQ bL1 (by decide)))
  have HL2 : Hid (NBox w2 LB 3 #[.int .i64 (c - 1)]) := Lib.hid (by rw [← hw2]; exact bL1.set 0 _)
  have S1 := h.more E1
  have HS2 : Hid (St w0 w2 B v bs) := Lib.hid (S1.fr F2 (fun k hk => by rw [hk]; exact hL) (NBox.apart S1.box bL1 (by decide)) (fun k hk he => bL1.not_own S1.own (by decide) (by rw [← he]; exact hk)))
  have HFR : Hid (∀ {enc : Option (List UInt8)} {e : Ending} {W' : World}, PutC w0 w2 B v bs (fun k => k = LB ∨ w2.heap.size ≤ k) enc e W' → PutC w0 w B v bs (fun k => k = LB) enc e W') := Lib.hid (fun hP => PutC.from E1 (PutC.after F2 (hP.new (F := fun k => k = LB) (fun k hk => hk))))
  have q0 := bQ.cell 0
  have l0 := bL1.cell 0
  have l1 := bL1.frozen 0
  have HE1 := Lib.hid E1
  have HW := Lib.hid hw1
  have HW2 := Lib.hid hw2
  have HCC := Lib.hid hCC
  have HDD := Lib.hid hD
  have HPP := Lib.hid hP
  have HQQ := Lib.hid hQ
  clear hw1 hw2 hCC hD hP hQ s1 s2 s3 bC bD bP bQ bL bL1 S1 h F2 E1 hLw hx
  have x1 := isEmpty_size tx
  have x2 := len_zero ks
  have HLBL : Hid (lb.size ≤ maxLen) := Lib.hid hlb
  have HTX : Hid (tx.size ≤ maxLen) := Lib.hid htx
  have HAV := Lib.hid hAv
  have HKS := Lib.hid hKs
  have HNU : Hid (∀ (w0 w : World) (B : Nat) (v : Value) (bs : List UInt8), St w0 w B v bs → bs.length ≤ 100000000000000 → Calls Try.prog 50 #[.pointer (some ⟨B, 0, none⟩), .int .u64 id] w (PutC w0 w B v bs none_ (some (num id.toNat)))) := Lib.hid (fun w0 w B v bs h hl => by
    have := number_any id.toNat (by omega) w0 w B v bs h hl
    rw [Int.toNat_of_nonneg hid.1] at this
    exact this)
  have HNL := Lib.hid (num_len (n := id.toNat) (by omega))
  clear hlb htx hAv hKs hid
  have hmf : ∀ (fn : Fn) (first cap : Array Value) (w : World), (Instr.makeFunc fn first cap).run Try.prog w = .ok (.func fn first cap) w := fun _ _ _ _ => rfl
  go_enter Try.func42, Try.ntmps42
  go_upto_region 1 with fail
  rw [HW.out, HCC.out, HDD.out, HPP.out, HQQ.out]
  clear HW HCC HDD HPP HQQ
  go_upto_region 2 with fail
  rw [HW2.out]
  clear HW2 q0 l0 l1
  have p0 := HP2.out.cell 0
  have q0 := HQ2.out.cell 0
  have l0 := HL2.out.cell 0
  have d1 := HD2.out.cell 1
  have d4 := HD2.out.cell 4
  have d5 := HD2.out.cell 5
  by_cases hd4 : d ≤ 64
  · have t1 : decide ((d : Int) ≤ 64) = true := decide_eq_true (by omega)
    by_cases hc1 : 1 ≤ c
    · have t2 : decide (0 ≤ c - 1) = true := decide_eq_true (by omega)
      cases hz : (ks.length == 0) with
      | false =>
        rw [hz] at x2
        have hz2 := Lib.hid hz
        clear hz
        have hw := want_no w2
        go_wp2_with fail
        refine hw.mono ?_
        rintro e w' ⟨rfl, rfl⟩
        have HRN : Hid (nodeC c d (.mk id true lb ats tx ks) = none) := Lib.hid (nodeC_no c d id true lb ats tx ks (fun hh => absurd (hh.2.2.1 rfl) (by simpa using hz2.out)))
        have hP := Lib.hid (HFR.out (show PutC w0 w2 B v bs (fun k => k = LB ∨ w2.heap.size ≤ k) none (.panicked WR) w2 from ⟨rfl, HS2.out.ext, Fr.refl _ _⟩))
        go_wp2_with fail
        refine ⟨rfl, ?_⟩
        rw [HRN.out]
        exact ⟨hP.out, fun b hb => by cases hb⟩
      | true =>
        rw [hz] at x2
        have hw := want_yes w2
        go_wp2_with fail
        refine hw.mono ?_
        clear hw p0 q0 l0 d1 d4 d5 t1 t2
        rintro e w' ⟨rfl, rfl⟩
        have HRK : Hid (nodeC c d (.mk id true lb ats tx ks) = seqE [some (num id.toNat), some (flagE true), textE lb 64, rowL ats.length (attrsL none ats) 2048, textE tx 2048]) := Lib.hid (nodeC_eq c d id true lb ats tx ks hc1 hd4 (fun _ => (beq_iff_eq.1 hz)) (fun h => by cases h))
        have HZ := Lib.hid hz
        clear hz x1 x2
        have hy : (66 - d) * 186200000000 = (66 - (d + 1)) * 186200000000 + 186200000000 := by rw [show 66 - d = (66 - (d + 1)) + 1 by omega, Nat.succ_mul]
        obtain ⟨Y, hYY⟩ : ∃ Y, (66 - (d + 1)) * 186200000000 = Y := ⟨_, rfl⟩
        have HY := Lib.hid hYY
        rw [hy, hYY] at hl
        clear hy hYY
        have hl2 : bs.length + 186200000000 + Y ≤ 100000000000000 := by have hq := hl; rw [Nat.add_comm Y, ← Nat.add_assoc] at hq; exact hq
        have hl3 : bs.length + 186200000000 ≤ 100000000000000 := Nat.le_trans (Nat.le_add_right _ _) hl2
        have HL22 := Lib.hid hl2
        clear hl hl2
        have c0 := HC2.out.cell 0
        have d0 := HD2.out.cell 0
        have hc := HNU.out w0 w2 B v bs HS2.out (by omega)
        go_wp2_with fail
        refine hc.mono ?_
        clear hc c0 d0
        rintro e w_3 ⟨v_3, rfl, hP⟩
        have HO3 := Lib.hid hP
        have HC3 := Lib.hid (HC2.out.puts HS2.out hP.fr (by decide) (by decide))
        have HD3 := Lib.hid (HD2.out.puts HS2.out hP.fr (by decide) (by decide))
        have HP3 := Lib.hid (HP2.out.puts HS2.out hP.fr (by decide) (by decide))
        have HQ3 := Lib.hid (HQ2.out.puts HS2.out hP.fr (by decide) (by decide))
        have HL3 := Lib.hid (HL2.out.puts HS2.out hP.fr (by decide) (by decide))
        clear hP
        have l3 := HNL.out
        have c0 := HC3.out.cell 0
        have d1 := HD3.out.cell 1
        have hc := flag_any true w0 w_3 B v_3 (bs ++ num id.toNat) HO3.out.st (by simp only [List.length_append]; omega)
        go_wp2_with fail
        refine hc.mono ?_
        clear hc c0 d1
        rintro e w_4 ⟨v_4, rfl, hP⟩
        have HO4 := Lib.hid (HO3.out.trans hP)
        have HC4 := Lib.hid (HC3.out.puts HO3.out.st hP.fr (by decide) (by decide))
        have HD4 := Lib.hid (HD3.out.puts HO3.out.st hP.fr (by decide) (by decide))
        have HP4 := Lib.hid (HP3.out.puts HO3.out.st hP.fr (by decide) (by decide))
        have HQ4 := Lib.hid (HQ3.out.puts HO3.out.st hP.fr (by decide) (by decide))
        have HL4 := Lib.hid (HL3.out.puts HO3.out.st hP.fr (by decide) (by decide))
        clear hP
        have l4 : (flagE true).length = 1 := rfl
        have c0 := HC4.out.cell 0
        have d2 := HD4.out.cell 2
        have hc := text_any lb 64 (by decide) HLBL.out w0 w_4 B v_4 (bs ++ (num id.toNat ++ flagE true)) HO4.out.st (by simp only [List.length_append]; omega)
        obtain ⟨r, hr⟩ : ∃ r, textE lb 64 = r := ⟨_, rfl⟩
        rw [hr] at hc
        have R5 := Lib.hid hr
        clear hr
        go_wp2_with fail
        refine hc.mono ?_
        clear hc c0 d2
        rintro e w_5 hC
        cases r with
        | none =>
          obtain ⟨rfl, hN⟩ := hC
          have HRN : Hid (nodeC c d (.mk id true lb ats tx ks) = none) := Lib.hid (by rw [HRK.out, R5.out]; rfl)
          have hP := Lib.hid (HFR.out (show PutC w0 w2 B v bs (fun k => k = LB ∨ w2.heap.size ≤ k) none (.panicked WR) w_5 from ⟨rfl, (HO4.out.no hN).any⟩))
          clear hN
          go_wp2_with fail
          refine ⟨rfl, ?_⟩
          rw [HRN.out]
          exact ⟨hP.out, fun b hb => by cases hb⟩
        | some b5 =>
          obtain ⟨v_5, rfl, hP⟩ := hC
          have l5 := textE_len (by decide) R5.out
          have HO5 := Lib.hid (HO4.out.trans hP)
          have HC5 := Lib.hid (HC4.out.puts HO4.out.st hP.fr (by decide) (by decide))
          have HD5 := Lib.hid (HD4.out.puts HO4.out.st hP.fr (by decide) (by decide))
          have HP5 := Lib.hid (HP4.out.puts HO4.out.st hP.fr (by decide) (by decide))
          have HQ5 := Lib.hid (HQ4.out.puts HO4.out.st hP.fr (by decide) (by decide))
          have HL5 := Lib.hid (HL4.out.puts HO4.out.st hP.fr (by decide) (by decide))
          clear hP
          go_upto_region 8 with fail
          obtain ⟨w6, hw6⟩ : ∃ W, (w_5.alloc (.cells #[.string ⟨#[]⟩] 9)).alloc (.cells #[.bool true] 4) = W := ⟨_, rfl⟩
          obtain ⟨L, hLL⟩ : ∃ L, w_5.heap.size = L := ⟨_, rfl⟩
          obtain ⟨F, hFF⟩ : ∃ F, L + 1 = F := ⟨_, rfl⟩
          have s1 : (w_5.alloc (.cells #[.string ⟨#[]⟩] 9)).heap.size = F := by rw [World.size_alloc, hLL, hFF]
          have E6 : Ext w_5 w6 := by rw [← hw6]; exact ((Ext.refl _).alloc _).alloc _
          have bL6 : NBox w6 L 9 #[.string ⟨#[]⟩] := by rw [← hw6, ← hLL]; exact (NBox.new _ 9 _).ext ((Ext.refl _).alloc _)
          have bF6 : NBox w6 F 4 #[.bool true] := by rw [← hw6, ← s1]; exact NBox.new _ 4 _
          rw [hw6, hLL, hFF]
          have hL0 : w0.heap.size ≤ L := by rw [← hLL]; exact HO5.out.st.ext.size
          have hF0 : w0.heap.size ≤ F := by omega
          have hL2 : w2.heap.size ≤ L := by rw [← hLL]; exact HO5.out.fr.size
          have hF2 : w2.heap.size ≤ F := by omega
          clear hw6 hLL s1 hFF
          have HOK : Hid (∀ (i : Nat) (x : ByteArray × ByteArray), ats[i]? = some x → okStr x.1 ∧ okStr x.2) := Lib.hid (fun i x hx => by
            obtain ⟨A, cp, -, -, -, hcell⟩ := HAV.out
            obtain ⟨b0, off, -, hrd⟩ := hcell (by intro hh; rw [hh] at hx; simp at hx)
            exact (rdAttrs_at (k := x.1) (v := x.2) hrd hx).2.2)
          have bC6 := HC5.out.ext E6
          have bD6 := HD5.out.ext E6
          have hc := puts73 74 #[.pointer (some ⟨F, 0, none⟩), .pointer (some ⟨L, 0, none⟩), .pointer (some ⟨C, 0, none⟩)] (attrsL none ats) ats (attrsL_len _ _) 2048 340 (by decide) (fun k => k = F ∨ k = L) (fun (i : Nat) (W : World) => NBox W F 4 #[.bool (prevK none ats i).isNone] ∧ NBox W L 9 #[.string (lastK (prevK none ats i))] ∧ NBox W C 73 #[.pointer (some ⟨B, 0, none⟩)]) w0 w6 B v_5 _ (bs ++ ((num id.toNat ++ flagE true) ++ b5)) HAV.out (HO5.out.st.more E6) (by rw [List.length_append, List.length_append, List.length_append]; omega)
            ⟨fun i W W' v bs hJ hS hF => ⟨hJ.1.puts hS hF (by decide) (by decide), hJ.2.1.puts hS hF (by decide) (by decide), hJ.2.2.puts hS hF (by decide) (by decide)⟩⟩ ⟨bF6, bL6, bC6⟩ enters74
            (fun i x r W v1 b1 hx hr hJ hS hlen => (attr1_any x (HOK.out i x hx).1 (HOK.out i x hx).2 (prevK none ats i) F L C w0 W B v1 b1 hS hJ.1 hJ.2.1 hJ.2.2 hF0 hL0 (by rw [List.length_append, List.length_append, List.length_append] at hlen; omega)).mono fun e W' hC => by
              rw [attrsL_get ats none i x r hx hr]
              refine ⟨hC.1, fun b hb => ⟨?_, ?_⟩⟩
              · split at hb
                · exact attrE_len hb
                · cases hb
              · have hp : prevK none ats (i + 1) = some x.1 := by simp [prevK, hx]
                rw [hp]
                exact hC.2 b hb)
          have nD : ¬ (D = F ∨ D = L) := fun h => h.elim (NBox.apart bD6 bF6 (by decide)) (NBox.apart bD6 bL6 (by decide))
          have nP : ¬ (P = F ∨ P = L) := fun h => h.elim (NBox.apart (HP5.out.ext E6) bF6 (by decide)) (NBox.apart (HP5.out.ext E6) bL6 (by decide))
          have nQ : ¬ (Q = F ∨ Q = L) := fun h => h.elim (NBox.apart (HQ5.out.ext E6) bF6 (by decide)) (NBox.apart (HQ5.out.ext E6) bL6 (by decide))
          have nL : ¬ (LB = F ∨ LB = L) := fun h => h.elim (NBox.apart (HL5.out.ext E6) bF6 (by decide)) (NBox.apart (HL5.out.ext E6) bL6 (by decide))
          have ND := Lib.hid nD
          have NP := Lib.hid nP
          have NQ := Lib.hid nQ
          have NL := Lib.hid nL
          have HE6 := Lib.hid E6
          have HLF := Lib.hid (And.intro hL2 hF2)
          have c0 := bC6.cell 0
          have d3 := bD6.cell 3
          obtain ⟨r, hr⟩ : ∃ r, rowL ats.length (attrsL none ats) 2048 = r := ⟨_, rfl⟩
          rw [hr] at hc
          have R8 := Lib.hid hr
          clear hr nD nP nQ nL bL6 bF6 hL0 hF0 hL2 hF2 bC6 bD6 E6
          go_wp2_with fail
          refine hc.mono ?_
          clear hc c0 d3
          rintro e w_8 ⟨hC, hJ8⟩
          cases r with
          | none =>
            obtain ⟨rfl, hN⟩ := hC
            have HRN : Hid (nodeC c d (.mk id true lb ats tx ks) = none) := Lib.hid (by rw [HRK.out, R5.out, R8.out]; rfl)
            have hP := Lib.hid (HFR.out (show PutC w0 w2 B v bs (fun k => k = LB ∨ w2.heap.size ≤ k) none (.panicked WR) w_8 from ⟨rfl, (HO5.out.any.more HE6.out).no (hN.mono (fun k hk => .inr (hk.elim (fun h => by rw [h]; exact HLF.out.2) (fun h => by rw [h]; exact HLF.out.1))))⟩))
            clear hN hJ8
            go_wp2_with fail
            refine ⟨rfl, ?_⟩
            rw [HRN.out]
            exact ⟨hP.out, fun b hb => by cases hb⟩
          | some b8 =>
            obtain ⟨v_8, rfl, hP⟩ := hC
            have hJ := hJ8 b8 rfl
            have HS6 := Lib.hid (HO5.out.st.more HE6.out)
            have l8 : b8.length ≤ 696330 := by
              have := R8.out
              rw [attrsL_row] at this
              split at this
              · exact attrs_len this
              · cases this
            have HC8 := Lib.hid hJ.2.2
            have HD8 := Lib.hid ((HD5.out.ext HE6.out).chg HS6.out hP.fr (by decide) (by decide) ND.out)
            have HP8 := Lib.hid ((HP5.out.ext HE6.out).chg HS6.out hP.fr (by decide) (by decide) NP.out)
            have HQ8 := Lib.hid ((HQ5.out.ext HE6.out).chg HS6.out hP.fr (by decide) (by decide) NQ.out)
            have HL8 := Lib.hid ((HL5.out.ext HE6.out).chg HS6.out hP.fr (by decide) (by decide) NL.out)
            have HO8 : Hid (PutOk w0 w2 B v bs (fun k => k = LB ∨ w2.heap.size ≤ k) (((num id.toNat ++ flagE true) ++ b5) ++ b8) w_8 v_8) := Lib.hid ((HO5.out.any.more HE6.out).trans (hP.mono (fun k hk => .inr (hk.elim (fun h => by rw [h]; exact HLF.out.2) (fun h => by rw [h]; exact HLF.out.1)))))
            clear hJ hJ8 hP
            have d1 := HD8.out.cell 1
            have c0 := HC8.out.cell 0
            have d4 := HD8.out.cell 4
            have hc := text_any tx 2048 (by decide) HTX.out w0 w_8 B v_8 (bs ++ (((num id.toNat ++ flagE true) ++ b5) ++ b8)) HO8.out.st (by simp only [List.length_append]; omega)
            obtain ⟨r, hr⟩ : ∃ r, textE tx 2048 = r := ⟨_, rfl⟩
            rw [hr] at hc
            have R9 := Lib.hid hr
            clear hr
            go_wp2_with fail
            refine hc.mono ?_
            clear hc c0 d1 d4
            rintro e w_9 hC
            cases r with
            | none =>
              obtain ⟨rfl, hN⟩ := hC
              have HRN : Hid (nodeC c d (.mk id true lb ats tx ks) = none) := Lib.hid (by rw [HRK.out, R5.out, R8.out, R9.out]; rfl)
              have hP := Lib.hid (HFR.out (show PutC w0 w2 B v bs (fun k => k = LB ∨ w2.heap.size ≤ k) none (.panicked WR) w_9 from ⟨rfl, HO8.out.no hN.any⟩))
              clear hN
              go_wp2_with fail
              refine ⟨rfl, ?_⟩
              rw [HRN.out]
              exact ⟨hP.out, fun b hb => by cases hb⟩
            | some b9 =>
              obtain ⟨v_9, rfl, hP⟩ := hC
              have HRN : Hid (nodeC c d (.mk id true lb ats tx ks) = some ((((num id.toNat ++ flagE true) ++ b5) ++ b8) ++ b9)) := Lib.hid (by rw [HRK.out, R5.out, R8.out, R9.out]; simp [seqE])
              have HB := Lib.hid (HL8.out.puts HO8.out.st hP.fr (by decide) (by decide))
              have hQ := Lib.hid (HFR.out (show PutC w0 w2 B v bs (fun k => k = LB ∨ w2.heap.size ≤ k) (some ((((num id.toNat ++ flagE true) ++ b5) ++ b8) ++ b9)) (.returned (.tuple #[])) w_9 from ⟨v_9, rfl, HO8.out.trans hP.any⟩))
              clear hP
              go_wp2_with fail
              refine bodyPost_ret (results_none rfl _ _ _) rfl ?_
              rw [HRN.out]
              refine ⟨hQ.out, fun b _ => ?_⟩
              have hk0 : ks = [] := List.length_eq_zero_iff.1 (beq_iff_eq.1 HZ.out)
              have e : c - ((Nd.cnt (.mk id true lb ats tx ks) : Nat) : Int) = c - 1 := by rw [hk0, Nd.cnt, cntK]; simp
              rw [e]
              exact HB.out
    · have t2 : decide (0 ≤ c - 1) = false := decide_eq_false (by omega)
      have hw := want_no w2
      go_wp2_with fail
      refine hw.mono ?_
      rintro e w' ⟨rfl, rfl⟩
      have HRN : Hid (nodeC c d (.mk id true lb ats tx ks) = none) := Lib.hid (nodeC_no c d id true lb ats tx ks (fun hh => by have := hh.1; omega))
      have hP := Lib.hid (HFR.out (show PutC w0 w2 B v bs (fun k => k = LB ∨ w2.heap.size ≤ k) none (.panicked WR) w2 from ⟨rfl, HS2.out.ext, Fr.refl _ _⟩))
      go_wp2_with fail
      refine ⟨rfl, ?_⟩
      rw [HRN.out]
      exact ⟨hP.out, fun b hb => by cases hb⟩
  · have t1 : decide ((d : Int) ≤ 64) = false := decide_eq_false (by omega)
    have hw := want_no w2
    go_wp2_with fail
    refine hw.mono ?_
    rintro e w' ⟨rfl, rfl⟩
    have HRN : Hid (nodeC c d (.mk id true lb ats tx ks) = none) := Lib.hid (nodeC_no c d id true lb ats tx ks (fun hh => by have := hh.2.1; omega))
    have hP := Lib.hid (HFR.out (show PutC w0 w2 B v bs (fun k => k = LB ∨ w2.heap.size ≤ k) none (.panicked WR) w2 from ⟨rfl, HS2.out.ext, Fr.refl _ _⟩))
    go_wp2_with fail
    refine ⟨rfl, ?_⟩
    rw [HRN.out]
    exact ⟨hP.out, fun b hb => by cases hb⟩
set_option maxRecDepth 100000 in
set_option maxHeartbeats 4000000 in
theorem node_false (id : Int) (lb : ByteArray) (ats : List (ByteArray × ByteArray)) (tx : ByteArray) (ks : List Nd) (ih : ∀ x ∈ ks, NodeK x) : NodeK (.mk id false lb ats tx ks) := by
  intro xv d c LB w0 w B v bs hx hd h0 h1 h bL hL hl
  have hid2 := rd_idLt hx
  have hx' := hx
  unfold Nd.rd at hx'
  obtain ⟨av, A, cc, rfl, hid, hlb, htx, hAv, hk1, hk2, hk3⟩ := hx'
  have hAv' := hAv
  obtain ⟨aA, ac, rfl, -⟩ := hAv'
  have hKs : RdK w0 ks (.slice A ks.length cc) := ⟨A, cc, rfl, hk1, hk2, hk3⟩
  clear hk1 hk2 hk3
  obtain ⟨C, hCC⟩ : ∃ C, w.heap.size = C := ⟨_, rfl⟩
  obtain ⟨w1, hw1⟩ : ∃ W, (((w.alloc (.cells #[.pointer (some ⟨B, 0, none⟩)] 73)).alloc (.cells #[.int .u64 id, .bool false, .string lb, .slice aA ats.length ac, .string tx, .slice A ks.length cc] 32)).alloc (.cells #[.int .i64 (d : Int)] 3)).alloc (.cells #[.pointer (some ⟨LB, 0, none⟩)] 81) = W := ⟨_, rfl⟩
  obtain ⟨D, hD⟩ : ∃ D, C + 1 = D := ⟨_, rfl⟩
  obtain ⟨P, hP⟩ : ∃ P, D + 1 = P := ⟨_, rfl⟩
  obtain ⟨Q, hQ⟩ : ∃ Q, P + 1 = Q := ⟨_, rfl⟩
  have s1 : (w.alloc (.cells #[.pointer (some ⟨B, 0, none⟩)] 73)).heap.size = D := by rw [World.size_alloc, hCC, hD]
  have s2 : ((w.alloc (.cells #[.pointer (some ⟨B, 0, none⟩)] 73)).alloc (.cells #[.int .u64 id, .bool false, .string lb, .slice aA ats.length ac, .string tx, .slice A ks.length cc] 32)).heap.size = P := by rw [World.size_alloc, s1, hP]
  have s3 : (((w.alloc (.cells #[.pointer (some ⟨B, 0, none⟩)] 73)).alloc (.cells #[.int .u64 id, .bool false, .string lb, .slice aA ats.length ac, .string tx, .slice A ks.length cc] 32)).alloc (.cells #[.int .i64 (d : Int)] 3)).heap.size = Q := by rw [World.size_alloc, s2, hQ]
  have E1 : Ext w w1 := by rw [← hw1]; exact ((((Ext.refl w).alloc _).alloc _).alloc _).alloc _
  have bC : NBox w1 C 73 #[.pointer (some ⟨B, 0, none⟩)] := by rw [← hw1, ← hCC]; exact (NBox.new w 73 _).ext ((((Ext.refl _).alloc _).alloc _).alloc _)
  have bD : NBox w1 D 32 #[.int .u64 id, .bool false, .string lb, .slice aA ats.length ac, .string tx, .slice A ks.length cc] := by rw [← hw1, ← s1]; exact (NBox.new _ 32 _).ext (((Ext.refl _).alloc _).alloc _)
  have bP : NBox w1 P 3 #[.int .i64 (d : Int)] := by rw [← hw1, ← s2]; exact (NBox.new _ 3 _).ext ((Ext.refl _).alloc _)
  have bQ : NBox w1 Q 81 #[.pointer (some ⟨LB, 0, none⟩)] := by rw [← hw1, ← s3]; exact NBox.new _ 81 _
  have hLw := bL.lt
  have hPL : P ≠ LB := by omega
  have bL1 := bL.ext E1
  obtain ⟨w2, hw2⟩ : ∃ W, w1.setCell ⟨LB, 0, none⟩ (.int .i64 (c - 1)) = W := ⟨_, rfl⟩
  have F2 : Fr w1 w2 (fun k => k = LB) := by rw [← hw2]; exact Fr.setCell _ _ _ _
  have HC2 := Lib.hid (bC.fr F2 (NBox.apart bC bL1 (by decide)))
  have HD2 := Lib.hid (bD.fr F2 (NBox.apart bD bL1 (by decide)))
  have HP2 := Lib.hid (bP.fr F2 hPL)
  have HQ2 := Lib.hid (bQ.fr F2 (NBox.apart bQ bL1 (by decide)))
  have HL2 : Hid (NBox w2 LB 3 #[.int .i64 (c - 1)]) := Lib.hid (by rw [← hw2]; exact bL1.set 0 _)
  have S1 := h.more E1
  have HS2 : Hid (St w0 w2 B v bs) := Lib.hid (S1.fr F2 (fun k hk => by rw [hk]; exact hL) (NBox.apart S1.box bL1 (by decide)) (fun k hk he => bL1.not_own S1.own (by decide) (by rw [← he]; exact hk)))
  have HFR : Hid (∀ {enc : Option (List UInt8)} {e : Ending} {W' : World}, PutC w0 w2 B v bs (fun k => k = LB ∨ w2.heap.size ≤ k) enc e W' → PutC w0 w B v bs (fun k => k = LB) enc e W') := Lib.hid (fun hP => PutC.from E1 (PutC.after F2 (hP.new (F := fun k => k = LB) (fun k hk => hk))))
  have q0 := bQ.cell 0
  have l0 := bL1.cell 0
  have l1 := bL1.frozen 0
  have HE1 := Lib.hid E1
  have HW := Lib.hid hw1
  have HW2 := Lib.hid hw2
  have HCC := Lib.hid hCC
  have HDD := Lib.hid hD
  have HPP := Lib.hid hP
  have HQQ := Lib.hid hQ
  clear hw1 hw2 hCC hD hP hQ s1 s2 s3 bC bD bP bQ bL bL1 S1 h F2 E1 hLw hx
  have x1 := isEmpty_size tx
  have x2 := len_zero ks
  have HLBL : Hid (lb.size ≤ maxLen) := Lib.hid hlb
  have HTX : Hid (tx.size ≤ maxLen) := Lib.hid htx
  have HAV := Lib.hid hAv
  have HKS := Lib.hid hKs
  have HNU : Hid (∀ (w0 w : World) (B : Nat) (v : Value) (bs : List UInt8), St w0 w B v bs → bs.length ≤ 100000000000000 → Calls Try.prog 50 #[.pointer (some ⟨B, 0, none⟩), .int .u64 id] w (PutC w0 w B v bs none_ (some (num id.toNat)))) := Lib.hid (fun w0 w B v bs h hl => by
    have := number_any id.toNat (by omega) w0 w B v bs h hl
    rw [Int.toNat_of_nonneg hid.1] at this
    exact this)
  have HNL := Lib.hid (num_len (n := id.toNat) (by omega))
  clear hlb htx hAv hKs hid
  have hmf : ∀ (fn : Fn) (first cap : Array Value) (w : World), (Instr.makeFunc fn first cap).run Try.prog w = .ok (.func fn first cap) w := fun _ _ _ _ => rfl
  go_enter Try.func42, Try.ntmps42
  go_upto_region 1 with fail
  rw [HW.out, HCC.out, HDD.out, HPP.out, HQQ.out]
  clear HW HCC HDD HPP HQQ
  go_upto_region 2 with fail
  rw [HW2.out]
  clear HW2 q0 l0 l1
  have p0 := HP2.out.cell 0
  have q0 := HQ2.out.cell 0
  have l0 := HL2.out.cell 0
  have d1 := HD2.out.cell 1
  have d4 := HD2.out.cell 4
  have d5 := HD2.out.cell 5
  by_cases hd4 : d ≤ 64
  · have t1 : decide ((d : Int) ≤ 64) = true := decide_eq_true (by omega)
    by_cases hc1 : 1 ≤ c
    · have t2 : decide (0 ≤ c - 1) = true := decide_eq_true (by omega)
      cases hz : (tx.size == 0) with
      | false =>
        rw [hz] at x1
        have hz2 := Lib.hid hz
        clear hz
        have hw := want_no w2
        go_wp2_with fail
        refine hw.mono ?_
        rintro e w' ⟨rfl, rfl⟩
        have HRN : Hid (nodeC c d (.mk id false lb ats tx ks) = none) := Lib.hid (nodeC_no c d id false lb ats tx ks (fun hh => absurd (hh.2.2.2 rfl) (by simpa using hz2.out)))
        have hP := Lib.hid (HFR.out (show PutC w0 w2 B v bs (fun k => k = LB ∨ w2.heap.size ≤ k) none (.panicked WR) w2 from ⟨rfl, HS2.out.ext, Fr.refl _ _⟩))
        go_wp2_with fail
        refine ⟨rfl, ?_⟩
        rw [HRN.out]
        exact ⟨hP.out, fun b hb => by cases hb⟩
      | true =>
        rw [hz] at x1
        have hw := want_yes w2
        go_wp2_with fail
        refine hw.mono ?_
        clear hw p0 q0 l0 d1 d4 d5 t1 t2
        rintro e w' ⟨rfl, rfl⟩
        have HRK : Hid (nodeC c d (.mk id false lb ats tx ks) = seqE [some (num id.toNat), some (flagE false), textE lb 64, rowL ats.length (attrsL none ats) 2048, rowL ks.length (kidsL (d + 1) (c - 1) ks) 512]) := Lib.hid (nodeC_eq c d id false lb ats tx ks hc1 hd4 (fun h => by cases h) (fun _ => (beq_iff_eq.1 hz)))
        have HZ := Lib.hid hz
        clear hz x1 x2
        have hy : (66 - d) * 186200000000 = (66 - (d + 1)) * 186200000000 + 186200000000 := by rw [show 66 - d = (66 - (d + 1)) + 1 by omega, Nat.succ_mul]
        obtain ⟨Y, hYY⟩ : ∃ Y, (66 - (d + 1)) * 186200000000 = Y := ⟨_, rfl⟩
        have HY := Lib.hid hYY
        rw [hy, hYY] at hl
        clear hy hYY
        have hl2 : bs.length + 186200000000 + Y ≤ 100000000000000 := by have hq := hl; rw [Nat.add_comm Y, ← Nat.add_assoc] at hq; exact hq
        have hl3 : bs.length + 186200000000 ≤ 100000000000000 := Nat.le_trans (Nat.le_add_right _ _) hl2
        have HL22 := Lib.hid hl2
        clear hl hl2
        have c0 := HC2.out.cell 0
        have d0 := HD2.out.cell 0
        have hc := HNU.out w0 w2 B v bs HS2.out (by omega)
        go_wp2_with fail
        refine hc.mono ?_
        clear hc c0 d0
        rintro e w_3 ⟨v_3, rfl, hP⟩
        have HO3 := Lib.hid hP
        have HC3 := Lib.hid (HC2.out.puts HS2.out hP.fr (by decide) (by decide))
        have HD3 := Lib.hid (HD2.out.puts HS2.out hP.fr (by decide) (by decide))
        have HP3 := Lib.hid (HP2.out.puts HS2.out hP.fr (by decide) (by decide))
        have HQ3 := Lib.hid (HQ2.out.puts HS2.out hP.fr (by decide) (by decide))
        have HL3 := Lib.hid (HL2.out.puts HS2.out hP.fr (by decide) (by decide))
        clear hP
        have l3 := HNL.out
        have c0 := HC3.out.cell 0
        have d1 := HD3.out.cell 1
        have hc := flag_any false w0 w_3 B v_3 (bs ++ num id.toNat) HO3.out.st (by simp only [List.length_append]; omega)
        go_wp2_with fail
        refine hc.mono ?_
        clear hc c0 d1
        rintro e w_4 ⟨v_4, rfl, hP⟩
        have HO4 := Lib.hid (HO3.out.trans hP)
        have HC4 := Lib.hid (HC3.out.puts HO3.out.st hP.fr (by decide) (by decide))
        have HD4 := Lib.hid (HD3.out.puts HO3.out.st hP.fr (by decide) (by decide))
        have HP4 := Lib.hid (HP3.out.puts HO3.out.st hP.fr (by decide) (by decide))
        have HQ4 := Lib.hid (HQ3.out.puts HO3.out.st hP.fr (by decide) (by decide))
        have HL4 := Lib.hid (HL3.out.puts HO3.out.st hP.fr (by decide) (by decide))
        clear hP
        have l4 : (flagE false).length = 1 := rfl
        have c0 := HC4.out.cell 0
        have d2 := HD4.out.cell 2
        have hc := text_any lb 64 (by decide) HLBL.out w0 w_4 B v_4 (bs ++ (num id.toNat ++ flagE false)) HO4.out.st (by simp only [List.length_append]; omega)
        obtain ⟨r, hr⟩ : ∃ r, textE lb 64 = r := ⟨_, rfl⟩
        rw [hr] at hc
        have R5 := Lib.hid hr
        clear hr
        go_wp2_with fail
        refine hc.mono ?_
        clear hc c0 d2
        rintro e w_5 hC
        cases r with
        | none =>
          obtain ⟨rfl, hN⟩ := hC
          have HRN : Hid (nodeC c d (.mk id false lb ats tx ks) = none) := Lib.hid (by rw [HRK.out, R5.out]; rfl)
          have hP := Lib.hid (HFR.out (show PutC w0 w2 B v bs (fun k => k = LB ∨ w2.heap.size ≤ k) none (.panicked WR) w_5 from ⟨rfl, (HO4.out.no hN).any⟩))
          clear hN
          go_wp2_with fail
          refine ⟨rfl, ?_⟩
          rw [HRN.out]
          exact ⟨hP.out, fun b hb => by cases hb⟩
        | some b5 =>
          obtain ⟨v_5, rfl, hP⟩ := hC
          have l5 := textE_len (by decide) R5.out
          have HO5 := Lib.hid (HO4.out.trans hP)
          have HC5 := Lib.hid (HC4.out.puts HO4.out.st hP.fr (by decide) (by decide))
          have HD5 := Lib.hid (HD4.out.puts HO4.out.st hP.fr (by decide) (by decide))
          have HP5 := Lib.hid (HP4.out.puts HO4.out.st hP.fr (by decide) (by decide))
          have HQ5 := Lib.hid (HQ4.out.puts HO4.out.st hP.fr (by decide) (by decide))
          have HL5 := Lib.hid (HL4.out.puts HO4.out.st hP.fr (by decide) (by decide))
          clear hP
          go_upto_region 8 with fail
          obtain ⟨w6, hw6⟩ : ∃ W, (w_5.alloc (.cells #[.string ⟨#[]⟩] 9)).alloc (.cells #[.bool true] 4) = W := ⟨_, rfl⟩
          obtain ⟨L, hLL⟩ : ∃ L, w_5.heap.size = L := ⟨_, rfl⟩
          obtain ⟨F, hFF⟩ : ∃ F, L + 1 = F := ⟨_, rfl⟩
          have s1 : (w_5.alloc (.cells #[.string ⟨#[]⟩] 9)).heap.size = F := by rw [World.size_alloc, hLL, hFF]
          have E6 : Ext w_5 w6 := by rw [← hw6]; exact ((Ext.refl _).alloc _).alloc _
          have bL6 : NBox w6 L 9 #[.string ⟨#[]⟩] := by rw [← hw6, ← hLL]; exact (NBox.new _ 9 _).ext ((Ext.refl _).alloc _)
          have bF6 : NBox w6 F 4 #[.bool true] := by rw [← hw6, ← s1]; exact NBox.new _ 4 _
          rw [hw6, hLL, hFF]
          have hL0 : w0.heap.size ≤ L := by rw [← hLL]; exact HO5.out.st.ext.size
          have hF0 : w0.heap.size ≤ F := by omega
          have hL2 : w2.heap.size ≤ L := by rw [← hLL]; exact HO5.out.fr.size
          have hF2 : w2.heap.size ≤ F := by omega
          clear hw6 hLL s1 hFF
          have HOK : Hid (∀ (i : Nat) (x : ByteArray × ByteArray), ats[i]? = some x → okStr x.1 ∧ okStr x.2) := Lib.hid (fun i x hx => by
            obtain ⟨A, cp, -, -, -, hcell⟩ := HAV.out
            obtain ⟨b0, off, -, hrd⟩ := hcell (by intro hh; rw [hh] at hx; simp at hx)
            exact (rdAttrs_at (k := x.1) (v := x.2) hrd hx).2.2)
          have bC6 := HC5.out.ext E6
          have bD6 := HD5.out.ext E6
          have hc := puts73 74 #[.pointer (some ⟨F, 0, none⟩), .pointer (some ⟨L, 0, none⟩), .pointer (some ⟨C, 0, none⟩)] (attrsL none ats) ats (attrsL_len _ _) 2048 340 (by decide) (fun k => k = F ∨ k = L) (fun (i : Nat) (W : World) => NBox W F 4 #[.bool (prevK none ats i).isNone] ∧ NBox W L 9 #[.string (lastK (prevK none ats i))] ∧ NBox W C 73 #[.pointer (some ⟨B, 0, none⟩)]) w0 w6 B v_5 _ (bs ++ ((num id.toNat ++ flagE false) ++ b5)) HAV.out (HO5.out.st.more E6) (by rw [List.length_append, List.length_append, List.length_append]; omega)
            ⟨fun i W W' v bs hJ hS hF => ⟨hJ.1.puts hS hF (by decide) (by decide), hJ.2.1.puts hS hF (by decide) (by decide), hJ.2.2.puts hS hF (by decide) (by decide)⟩⟩ ⟨bF6, bL6, bC6⟩ enters74
            (fun i x r W v1 b1 hx hr hJ hS hlen => (attr1_any x (HOK.out i x hx).1 (HOK.out i x hx).2 (prevK none ats i) F L C w0 W B v1 b1 hS hJ.1 hJ.2.1 hJ.2.2 hF0 hL0 (by rw [List.length_append, List.length_append, List.length_append] at hlen; omega)).mono fun e W' hC => by
              rw [attrsL_get ats none i x r hx hr]
              refine ⟨hC.1, fun b hb => ⟨?_, ?_⟩⟩
              · split at hb
                · exact attrE_len hb
                · cases hb
              · have hp : prevK none ats (i + 1) = some x.1 := by simp [prevK, hx]
                rw [hp]
                exact hC.2 b hb)
          have nD : ¬ (D = F ∨ D = L) := fun h => h.elim (NBox.apart bD6 bF6 (by decide)) (NBox.apart bD6 bL6 (by decide))
          have nP : ¬ (P = F ∨ P = L) := fun h => h.elim (NBox.apart (HP5.out.ext E6) bF6 (by decide)) (NBox.apart (HP5.out.ext E6) bL6 (by decide))
          have nQ : ¬ (Q = F ∨ Q = L) := fun h => h.elim (NBox.apart (HQ5.out.ext E6) bF6 (by decide)) (NBox.apart (HQ5.out.ext E6) bL6 (by decide))
          have nL : ¬ (LB = F ∨ LB = L) := fun h => h.elim (NBox.apart (HL5.out.ext E6) bF6 (by decide)) (NBox.apart (HL5.out.ext E6) bL6 (by decide))
          have ND := Lib.hid nD
          have NP := Lib.hid nP
          have NQ := Lib.hid nQ
          have NL := Lib.hid nL
          have HE6 := Lib.hid E6
          have HLF := Lib.hid (And.intro hL2 hF2)
          have c0 := bC6.cell 0
          have d3 := bD6.cell 3
          obtain ⟨r, hr⟩ : ∃ r, rowL ats.length (attrsL none ats) 2048 = r := ⟨_, rfl⟩
          rw [hr] at hc
          have R8 := Lib.hid hr
          clear hr nD nP nQ nL bL6 bF6 hL0 hF0 hL2 hF2 bC6 bD6 E6
          go_wp2_with fail
          refine hc.mono ?_
          clear hc c0 d3
          rintro e w_8 ⟨hC, hJ8⟩
          cases r with
          | none =>
            obtain ⟨rfl, hN⟩ := hC
            have HRN : Hid (nodeC c d (.mk id false lb ats tx ks) = none) := Lib.hid (by rw [HRK.out, R5.out, R8.out]; rfl)
            have hP := Lib.hid (HFR.out (show PutC w0 w2 B v bs (fun k => k = LB ∨ w2.heap.size ≤ k) none (.panicked WR) w_8 from ⟨rfl, (HO5.out.any.more HE6.out).no (hN.mono (fun k hk => .inr (hk.elim (fun h => by rw [h]; exact HLF.out.2) (fun h => by rw [h]; exact HLF.out.1))))⟩))
            clear hN hJ8
            go_wp2_with fail
            refine ⟨rfl, ?_⟩
            rw [HRN.out]
            exact ⟨hP.out, fun b hb => by cases hb⟩
          | some b8 =>
            obtain ⟨v_8, rfl, hP⟩ := hC
            have hJ := hJ8 b8 rfl
            have HS6 := Lib.hid (HO5.out.st.more HE6.out)
            have l8 : b8.length ≤ 696330 := by
              have := R8.out
              rw [attrsL_row] at this
              split at this
              · exact attrs_len this
              · cases this
            have HC8 := Lib.hid hJ.2.2
            have HD8 := Lib.hid ((HD5.out.ext HE6.out).chg HS6.out hP.fr (by decide) (by decide) ND.out)
            have HP8 := Lib.hid ((HP5.out.ext HE6.out).chg HS6.out hP.fr (by decide) (by decide) NP.out)
            have HQ8 := Lib.hid ((HQ5.out.ext HE6.out).chg HS6.out hP.fr (by decide) (by decide) NQ.out)
            have HL8 := Lib.hid ((HL5.out.ext HE6.out).chg HS6.out hP.fr (by decide) (by decide) NL.out)
            have HO8 : Hid (PutOk w0 w2 B v bs (fun k => k = LB ∨ w2.heap.size ≤ k) (((num id.toNat ++ flagE false) ++ b5) ++ b8) w_8 v_8) := Lib.hid ((HO5.out.any.more HE6.out).trans (hP.mono (fun k hk => .inr (hk.elim (fun h => by rw [h]; exact HLF.out.2) (fun h => by rw [h]; exact HLF.out.1)))))
            clear hJ hJ8 hP
            have d1 := HD8.out.cell 1
            have c0 := HC8.out.cell 0
            have d5 := HD8.out.cell 5
            have nC : C ≠ LB := NBox.apart HC8.out HL8.out (by decide)
            have nQ : Q ≠ LB := NBox.apart HQ8.out HL8.out (by decide)
            have e0 : c - 1 - (cntK (ks.take 0) : Int) = c - 1 := by rw [List.take_zero, cntK]; simp
            have hc := puts75 76 #[.pointer (some ⟨C, 0, none⟩), .pointer (some ⟨P, 0, none⟩), .pointer (some ⟨Q, 0, none⟩)] (kidsL (d + 1) (c - 1) ks) ks (kidsL_len _ _ _) 512 363520000 (by decide) (fun k => k = LB) (fun (i : Nat) (W : World) => NBox W LB 3 #[.int .i64 (c - 1 - (cntK (ks.take i) : Int))] ∧ NBox W C 73 #[.pointer (some ⟨B, 0, none⟩)] ∧ NBox W P 3 #[.int .i64 (d : Int)] ∧ NBox W Q 81 #[.pointer (some ⟨LB, 0, none⟩)] ∧ 0 ≤ c - 1 - (cntK (ks.take i) : Int)) w0 w_8 B v_8 _ (bs ++ (((num id.toNat ++ flagE false) ++ b5) ++ b8)) HKS.out HO8.out.st (by rw [List.length_append, List.length_append, List.length_append, List.length_append]; omega)
              ⟨fun i W W' v bs hJ hS hF => ⟨hJ.1.puts hS hF (by decide) (by decide), hJ.2.1.puts hS hF (by decide) (by decide), hJ.2.2.1.puts hS hF (by decide) (by decide), hJ.2.2.2.1.puts hS hF (by decide) (by decide), hJ.2.2.2.2⟩⟩ ⟨by rw [e0]; exact HL8.out, HC8.out, HP8.out, HQ8.out, by rw [e0]; omega⟩ enters76
              (fun i x r xv W v1 b1 hx hr hrd hJ hS hlen => (kid1_any x (ih x (List.mem_of_getElem? hx)) xv d (c - 1 - (cntK (ks.take i) : Int)) LB C P Q w0 W B v1 b1 hrd hd4 hJ.2.2.2.2 (by omega) hS hJ.1 hL hJ.2.1 hJ.2.2.1 hJ.2.2.2.1 (by rw [HY.out]; have := HL22.out; rw [List.length_append, List.length_append, List.length_append, List.length_append] at hlen; omega)).mono fun e W' hC => by
                rw [kidsL_get (d + 1) ks (c - 1) i x r hx hr]
                refine ⟨hC.1, fun b hb => ?_⟩
                have hnc : (x.cnt : Int) ≤ c - 1 - (cntK (ks.take i) : Int) ∧ nodeE (d + 1) x = some b := by
                  unfold nodeC at hb
                  split at hb
                  next hh => exact ⟨hh, hb⟩
                  next => cases hb
                have hlb := nodeE_len x (d + 1) b (rd_idLt hrd) hnc.2
                have hbx := hC.2 b hb
                have hpc := hC.1
                rw [hb] at hpc
                obtain ⟨v', -, hP⟩ := hpc
                have hts := cntK_take_succ ks i x hx
                refine ⟨by have := hnc.1; omega, ?_, hJ.2.1.chg hS hP.fr (by decide) (by decide) nC, hJ.2.2.1.chg hS hP.fr (by decide) (by decide) hPL, hJ.2.2.2.1.chg hS hP.fr (by decide) (by decide) nQ, by rw [hts]; have := hnc.1; omega⟩
                have e : c - 1 - (cntK (ks.take (i + 1)) : Int) = c - 1 - (cntK (ks.take i) : Int) - (x.cnt : Int) := by rw [hts]; omega
                rw [e]
                exact hbx)
            obtain ⟨r, hr⟩ : ∃ r, rowL ks.length (kidsL (d + 1) (c - 1) ks) 512 = r := ⟨_, rfl⟩
            rw [hr] at hc
            have R9 := Lib.hid hr
            clear hr e0 nC nQ ih
            go_wp2_with fail
            refine hc.mono ?_
            clear hc c0 d1 d5
            rintro e w_9 ⟨hC, hJ9⟩
            cases r with
            | none =>
              obtain ⟨rfl, hN⟩ := hC
              have HRN : Hid (nodeC c d (.mk id false lb ats tx ks) = none) := Lib.hid (by rw [HRK.out, R5.out, R8.out, R9.out]; rfl)
              have hP := Lib.hid (HFR.out (show PutC w0 w2 B v bs (fun k => k = LB ∨ w2.heap.size ≤ k) none (.panicked WR) w_9 from ⟨rfl, HO8.out.no (hN.mono (fun k hk => .inl hk))⟩))
              clear hN hJ9
              go_wp2_with fail
              refine ⟨rfl, ?_⟩
              rw [HRN.out]
              exact ⟨hP.out, fun b hb => by cases hb⟩
            | some b9 =>
              obtain ⟨v_9, rfl, hP⟩ := hC
              have HRN : Hid (nodeC c d (.mk id false lb ats tx ks) = some ((((num id.toNat ++ flagE false) ++ b5) ++ b8) ++ b9)) := Lib.hid (by rw [HRK.out, R5.out, R8.out, R9.out]; simp [seqE])
              have HB := Lib.hid (hJ9 b9 rfl).1
              have hQ := Lib.hid (HFR.out (show PutC w0 w2 B v bs (fun k => k = LB ∨ w2.heap.size ≤ k) (some ((((num id.toNat ++ flagE false) ++ b5) ++ b8) ++ b9)) (.returned (.tuple #[])) w_9 from ⟨v_9, rfl, HO8.out.trans (hP.mono (fun k hk => .inl hk))⟩))
              clear hP hJ9
              go_wp2_with fail
              go_end0
              rw [HRN.out]
              refine ⟨hQ.out, fun b _ => ?_⟩
              have e : c - ((Nd.cnt (.mk id false lb ats tx ks) : Nat) : Int) = c - 1 - (cntK (ks.take ks.length) : Int) := by rw [List.take_length, Nd.cnt]; omega
              rw [e]
              exact HB.out
    · have t2 : decide (0 ≤ c - 1) = false := decide_eq_false (by omega)
      have hw := want_no w2
      go_wp2_with fail
      refine hw.mono ?_
      rintro e w' ⟨rfl, rfl⟩
      have HRN : Hid (nodeC c d (.mk id false lb ats tx ks) = none) := Lib.hid (nodeC_no c d id false lb ats tx ks (fun hh => by have := hh.1; omega))
      have hP := Lib.hid (HFR.out (show PutC w0 w2 B v bs (fun k => k = LB ∨ w2.heap.size ≤ k) none (.panicked WR) w2 from ⟨rfl, HS2.out.ext, Fr.refl _ _⟩))
      go_wp2_with fail
      refine ⟨rfl, ?_⟩
      rw [HRN.out]
      exact ⟨hP.out, fun b hb => by cases hb⟩
  · have t1 : decide ((d : Int) ≤ 64) = false := decide_eq_false (by omega)
    have hw := want_no w2
    go_wp2_with fail
    refine hw.mono ?_
    rintro e w' ⟨rfl, rfl⟩
    have HRN : Hid (nodeC c d (.mk id false lb ats tx ks) = none) := Lib.hid (nodeC_no c d id false lb ats tx ks (fun hh => by have := hh.2.1; omega))
    have hP := Lib.hid (HFR.out (show PutC w0 w2 B v bs (fun k => k = LB ∨ w2.heap.size ≤ k) none (.panicked WR) w2 from ⟨rfl, HS2.out.ext, Fr.refl _ _⟩))
    go_wp2_with fail
    refine ⟨rfl, ?_⟩
    rw [HRN.out]
    exact ⟨hP.out, fun b hb => by cases hb⟩
theorem node_all : ∀ (n : Nat) (t : Nd), t.cnt ≤ n → NodeK t
  | 0, t, h => by have := Nd.cnt_eq t; omega
  | n + 1, .mk id leaf lb ats tx ks, h => by
    have ih : ∀ x ∈ ks, NodeK x := fun x hx => node_all n x (by have := cntK_mem hx; rw [Nd.cnt] at h; omega)
    cases leaf with
    | true => exact node_true id lb ats tx ks ih
    | false => exact node_false id lb ats tx ks ih
theorem node_any (t : Nd) : NodeK t := node_all t.cnt t (Nat.le_refl _)
end Go.Proofs.Ytoplaokimahdiaa.Wi
