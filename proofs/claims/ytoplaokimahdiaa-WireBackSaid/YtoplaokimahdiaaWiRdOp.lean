/- Chapter 17: an operation is read (64), and a row of them (63). (Printed by gwrdop.py.) -/
import Derived.Test.YtoplaokimahdiaaWiRdPc
import Derived.Test.YtoplaokimahdiaaWiGotP
namespace Go.Proofs.Ytoplaokimahdiaa.Wi
open Go.RowKit Go.Proofs.Ytoplaokimahdiaa.Bw Go.Proofs.Ytoplaokimahdiaa.Bs

theorem info66 : (Try.prog.info? 66).map (·.size) = some 11 := by kernel_rfl
theorem NBox.eleven {W : World} {B : Nat} {t : TypeId} {x0 x1 x2 x3 x4 x5 x6 x7 x8 x9 x10 : Value} (h : NBox W B t #[x0, x1, x2, x3, x4, x5, x6, x7, x8, x9, x10]) (a0 a1 a2 a3 a4 a5 a6 a7 a8 a9 a10 : Value) : NBox (World.setCell (World.setCell (World.setCell (World.setCell (World.setCell (World.setCell (World.setCell (World.setCell (World.setCell (World.setCell (World.setCell W ⟨B, 0, none⟩ a0) ⟨B, 1, none⟩ a1) ⟨B, 2, none⟩ a2) ⟨B, 3, none⟩ a3) ⟨B, 4, none⟩ a4) ⟨B, 5, none⟩ a5) ⟨B, 6, none⟩ a6) ⟨B, 7, none⟩ a7) ⟨B, 8, none⟩ a8) ⟨B, 9, none⟩ a9) ⟨B, 10, none⟩ a10) B t #[a0, a1, a2, a3, a4, a5, a6, a7, a8, a9, a10] := by
  have := (NBox.set (NBox.set (NBox.set (NBox.set (NBox.set (NBox.set (NBox.set (NBox.set (NBox.set (NBox.set (NBox.set h 0 a0) 1 a1) 2 a2) 3 a3) 4 a4) 5 a5) 6 a6) 7 a7) 8 a8) 9 a9) 10 a10)
  simpa using this
theorem Fr.eleven (W : World) (B : Nat) (a0 a1 a2 a3 a4 a5 a6 a7 a8 a9 a10 : Value) : Fr W (World.setCell (World.setCell (World.setCell (World.setCell (World.setCell (World.setCell (World.setCell (World.setCell (World.setCell (World.setCell (World.setCell W ⟨B, 0, none⟩ a0) ⟨B, 1, none⟩ a1) ⟨B, 2, none⟩ a2) ⟨B, 3, none⟩ a3) ⟨B, 4, none⟩ a4) ⟨B, 5, none⟩ a5) ⟨B, 6, none⟩ a6) ⟨B, 7, none⟩ a7) ⟨B, 8, none⟩ a8) ⟨B, 9, none⟩ a9) ⟨B, 10, none⟩ a10) (isB B) :=
  (Fr.trans (Fr.trans (Fr.trans (Fr.trans (Fr.trans (Fr.trans (Fr.trans (Fr.trans (Fr.trans (Fr.trans (Fr.setCell _ _ _ _) (Fr.setCell _ _ _ _)) (Fr.setCell _ _ _ _)) (Fr.setCell _ _ _ _)) (Fr.setCell _ _ _ _)) (Fr.setCell _ _ _ _)) (Fr.setCell _ _ _ _)) (Fr.setCell _ _ _ _)) (Fr.setCell _ _ _ _)) (Fr.setCell _ _ _ _)) (Fr.setCell _ _ _ _))
/-! ### What is left to read of an operation, kind by kind -/
def op0 (k : Int) (p : List Int) : OpD := ⟨k, p, 0, [], 0, false, ⟨#[]⟩, ⟨#[]⟩, ⟨#[]⟩, false, []⟩
def oi4 (p : List Int) (a i : Nat) (f : Bool) (r : List UInt8) : Option (OpD × List UInt8) := (textP 64 r).bind fun q => some (⟨1, p, (a : Int), [], (i : Int), f, q.1, ⟨#[]⟩, ⟨#[]⟩, false, []⟩, q.2)
def oi3 (p : List Int) (a i : Nat) (r : List UInt8) : Option (OpD × List UInt8) := (flagP r).bind fun q => oi4 p a i q.1 q.2
def oi2 (p : List Int) (a : Nat) (r : List UInt8) : Option (OpD × List UInt8) := (rdNum 0 0 r).bind fun q => oi3 p a q.1 q.2
def om2 (p q : List Int) (r : List UInt8) : Option (OpD × List UInt8) := (smallP 1048577 r).bind fun a => some (⟨3, p, (a.1 : Int), q, 0, false, ⟨#[]⟩, ⟨#[]⟩, ⟨#[]⟩, false, []⟩, a.2)
def os4 (p : List Int) (k : ByteArray) (g : Bool) (v : ByteArray) (r : List UInt8) : Option (OpD × List UInt8) := if !g || v.size == 0 then some (⟨4, p, 0, [], 0, false, ⟨#[]⟩, k, v, g, []⟩, r) else none
def os3 (p : List Int) (k : ByteArray) (g : Bool) (r : List UInt8) : Option (OpD × List UInt8) := (textP 256 r).bind fun q => os4 p k g q.1 q.2
def os2 (p : List Int) (k : ByteArray) (r : List UInt8) : Option (OpD × List UInt8) := (flagP r).bind fun q => os3 p k q.1 q.2
def byteQ : Rd UInt8 := fun b => match b with
  | [] => none
  | x :: r => some (x, r)
theorem op_eq (b : List UInt8) : opP b = (byteQ b).bind fun q => (pathP q.2).bind fun s => restP q.1.toNat s.1 s.2 := by cases b <;> rfl
theorem rest1 (p : List Int) (r : List UInt8) : restP 1 p r = (smallP 1048577 r).bind fun q => oi2 p q.1 q.2 := rfl
theorem rest2 (p : List Int) (r : List UInt8) : restP 2 p r = some (op0 2 p, r) := rfl
theorem rest3 (p : List Int) (r : List UInt8) : restP 3 p r = (pathP r).bind fun q => om2 p q.1 q.2 := rfl
theorem rest4 (p : List Int) (r : List UInt8) : restP 4 p r = (textP 64 r).bind fun q => os2 p q.1 q.2 := rfl
theorem rest5 (p : List Int) (r : List UInt8) : restP 5 p r = (textP 64 r).bind fun q => some ((⟨5, p, 0, [], 0, false, q.1, ⟨#[]⟩, ⟨#[]⟩, false, []⟩ : OpD), q.2) := rfl
theorem rest6 (p : List Int) (r : List UInt8) : restP 6 p r = (rowP 4096 pieceP r).bind fun q => some ((⟨6, p, 0, [], 0, false, ⟨#[]⟩, ⟨#[]⟩, ⟨#[]⟩, false, q.1⟩ : OpD), q.2) := rfl
theorem restNo (k : Nat) (p : List Int) (r : List UInt8) (h : k < 1 ∨ 6 < k) : restP k p r = none := by
  unfold restP
  rw [if_neg (by omega), if_neg (by omega), if_neg (by omega), if_neg (by omega), if_neg (by omega), if_neg (by omega)]
def byteV (x : UInt8) (v : Value) (_ : World) : Prop := v = .int .u8 (x.toNat : Int)
theorem rbyte_any (bs : List UInt8) (w0 w : World) (B : Nat) (h : RS w0 w B bs) : Calls Try.prog 80 #[.pointer (some ⟨B, 0, none⟩)] w (RdC w0 w B byteV (byteQ bs)) := by
  cases bs with
  | nil =>
    refine (byte_no w0 w B h).mono ?_
    rintro e W' ⟨rfl, rfl⟩
    exact RdC.no rfl h.ext (Fr.refl _ _)
  | cons x r =>
    refine (byte_yes x r w0 w B h).mono ?_
    rintro e W' ⟨rfl, hR, hF⟩
    exact RdC.yes rfl rfl hR hF
theorem bytes_empty (s : ByteArray) : s.toList.isEmpty = decide (s.size = 0) := by
  have h : s.toList = bl s := (show (Sb (bl s)).toList = bl s from Sb_toList (bl s))
  rw [h, ← bl_len s]
  cases bl s <;> simp
/-- An operation that was read. -/
def opV (lo : Nat) (o : OpD) (v : Value) (W : World) : Prop := Late (old lo) (fun W => o.rd W v) W
theorem opV.open {lo : Nat} {o : OpD} {v : Value} {W : World} (h : opV lo o v W) : ∃ pA pc tA tc cA cc, v = .agg #[.int .u8 o.kind, .slice pA o.path.length pc, .int .i64 o.at_, .slice tA o.to.length tc, .int .u64 o.id, .bool o.leaf, .string o.label, .string o.key, .string o.value, .bool o.gone, .slice cA o.pcs.length cc] := by
  obtain ⟨pv, tv, cv, rfl, ⟨pA, pc, rfl, -⟩, ⟨tA, tc, rfl, -⟩, ⟨cA, cc, rfl, -⟩, -⟩ := Late.now h
  exact ⟨pA, pc, tA, tc, cA, cc, rfl⟩
/-- A row of ints that is apart from some boxes reads late. -/
theorem row_late {W : World} {base lo n : Nat} {v : Value} {l : List Int} {Z Y : Nat} (h : W.ownsRow base 3 1 v l.length (l.map (Value.int .i64))) (hl : lo ≤ base) (hZ : v.ownBlock ≠ some Z) (hY : v.ownBlock ≠ some Y) (_ : n = n) : Late (fun k => k < lo ∨ k = Z ∨ k = Y) (fun W => RdI W l v) W :=
  fun W2 F => RdS.of_owns (owns_fr F h (fun g hg hk => by
    have hb := owns_base h g hg
    rcases hk with hk | hk | hk
    · omega
    · exact hZ (by rw [hg, hk])
    · exact hY (by rw [hg, hk])))
set_option maxRecDepth 100000 in
set_option maxHeartbeats 8000000 in
theorem rop_any (bs : List UInt8) (w0 w : World) (B : Nat) (h : RS w0 w B bs) : Calls Try.prog 64 #[.pointer (some ⟨B, 0, none⟩)] w (RdC w0 w B (opV w.heap.size) (opP bs)) := by
  have hmf : ∀ (fn : Fn) (first cap : Array Value) (w : World), (Instr.makeFunc fn first cap).run Try.prog w = .ok (.func fn first cap) w := fun _ _ _ _ => rfl
  obtain ⟨w1, hw1⟩ : ∃ W, (w.alloc (.cells #[.pointer (some ⟨B, 0, none⟩)] 83)).alloc (.cells #[.int .u8 0, .slice none 0 0, .int .i64 0, .slice none 0 0, .int .u64 0, .bool false, .string ⟨#[]⟩, .string ⟨#[]⟩, .string ⟨#[]⟩, .bool false, .slice none 0 0] 66) = W := ⟨_, rfl⟩
  obtain ⟨R, hR⟩ : ∃ R, w.heap.size = R := ⟨_, rfl⟩
  have s1 : (w.alloc (.cells #[.pointer (some ⟨B, 0, none⟩)] 83)).heap.size = R + 1 := by rw [World.size_alloc, hR]
  have E1 : Ext w w1 := by rw [← hw1]; exact ((Ext.refl w).alloc _).alloc _
  have bR : NBox w1 R 83 #[.pointer (some ⟨B, 0, none⟩)] := by rw [← hw1, ← hR]; exact (NBox.new w 83 _).ext ((Ext.refl _).alloc _)
  obtain ⟨Y, hY⟩ : ∃ Y, R + 1 = Y := ⟨_, rfl⟩
  have bY : NBox w1 Y 66 #[.int .u8 0, .slice none 0 0, .int .i64 0, .slice none 0 0, .int .u64 0, .bool false, .string ⟨#[]⟩, .string ⟨#[]⟩, .string ⟨#[]⟩, .bool false, .slice none 0 0] := by rw [← hw1, ← hY, ← s1]; exact NBox.new _ _ _
  have hRS := h.more E1
  obtain ⟨rv0, hbx0, -⟩ := h.box
  have hBR : B < R := by rw [← hR]; exact hbx0.lt
  have hB0 : w0.heap.size ≤ R := by rw [← hR]; exact h.ext.size
  have hRB : ¬ R = B := by omega
  have r0 := bR.cell 0
  have HE := Lib.hid E1
  have HW := Lib.hid hw1
  have HRR := Lib.hid hR
  have HYY := Lib.hid hY
  have HBR := Lib.hid bR
  have HBY := Lib.hid bY
  have HRS := Lib.hid hRS
  have hHS : (opP bs) = (byteQ bs).bind fun q => (pathP q.2).bind fun s => restP q.1.toNat s.1 s.2 := op_eq bs
  obtain ⟨FIN, hFIN⟩ : ∃ q, opP bs = q := ⟨_, rfl⟩
  rw [hFIN] at hHS ⊢
  have HS := Lib.hid hHS
  clear hw1 s1 bR bY hRS hbx0 h E1 hFIN hHS hY
  go_enter Try.func64, Try.ntmps64
  go_upto_region 1 with fail
  rw [HW.out, HRR.out]
  clear hR
  have hRY : R < Y := by have := HYY.out; omega
  rw [show R + 1 = Y from HYY.out]
  go_cut [3] from 4 to 8 (fun s3 wx => ∃ (Z : Nat) (kb : UInt8) (p : List Int) (r : List UInt8) (pA : Option Addr) (pc : Nat), s3 = .pointer (some ⟨Z, 0, none⟩) ∧ NBox wx Z 66 #[.int .u8 (kb.toNat : Int), .slice pA p.length pc, .int .i64 0, .slice none 0 0, .int .u64 0, .bool false, .string ⟨#[]⟩, .string ⟨#[]⟩, .string ⟨#[]⟩, .bool false, .slice none 0 0] ∧ w1.heap.size ≤ Z ∧ wx.ownsRow w1.heap.size 3 1 (.slice pA p.length pc) p.length (p.map (Value.int .i64)) ∧ RS w0 wx B r ∧ Fr w1 wx (isB B) ∧ Hid (FIN = restP kb.toNat p r))
  case first =>
    obtain ⟨c0, hc0⟩ : ∃ c0, w1.drew = c0 := ⟨_, rfl⟩
    have hH : c0.cell? ⟨R, 0, none⟩ = some (.pointer (some ⟨B, 0, none⟩)) := by rw [← hc0]; exact (Ext.refl _).drew.cell r0
    have HX0 : Ext w1 c0 := by rw [← hc0]; exact (Ext.refl _).drew
    have HFa := Lib.hid (Fr.of_ext HX0 (isB B))
    have HRa := Lib.hid (HRS.out.more HX0)
    clear HX0 r0
    refine wp_region_held_drew (S := fun W => W.cell? ⟨R, 0, none⟩ = some (.pointer (some ⟨B, 0, none⟩))) (by kernel_rfl) (by rw [hc0]; exact hH) (fun hHeld => ?_)
    rw [hc0] at hHeld ⊢
    clear hc0 hH
    refine wpAnyH_take (i := 0) (oi := ⟨_, _, _, _, _, _⟩) (v := ?_) rfl (by kernel_rfl) (by kernel_rfl) (by kernel_rfl) (fun _ _ _ h => h) (Or.inl ⟨by rfl, ?_⟩) hHeld ?_
    rotate_left
    · intro w hSw
      try dsimp only at hSw
      go_simp
      all_goals (first | with_reducible rfl | rw [if_pos (by omega)])
    try simp only [Act.put, List.setIfInBounds_toArray, List.set_cons_zero, List.set_cons_succ]
    refine wpAnyH_take (i := 2) (oi := ⟨_, _, _, _, _, _⟩) (v := ?_) rfl (by kernel_rfl) (by kernel_rfl) (by kernel_rfl) (fun _ _ _ h => h) (Or.inl ⟨by rfl, ?_⟩) hHeld ?_
    rotate_left
    · intro w hSw
      try dsimp only at hSw
      go_simp
      all_goals (first | with_reducible rfl | rw [if_pos (by omega)])
    try simp only [Act.put, List.setIfInBounds_toArray, List.set_cons_zero, List.set_cons_succ]
    refine wpAnyH_ready (rs := [1, 5]) (by kernel_rfl) (by simp) ?_
    refine AllReadyH.cons (o := ⟨_, _, _, _, _, _⟩) rfl (fun K' hK => ?_) (AllReadyH.cons (o := ⟨_, _, _, _, _, _⟩) rfl (fun K' hK => ?_) (AllReadyH.nil))
    · skip
      have hc := rbyte_any bs w0 c0 B HRa.out
      obtain ⟨p, hp⟩ : ∃ p, byteQ bs = p := ⟨_, rfl⟩
      rw [hp] at hc HS
      clear hp
      go_simp
      go_at_call 80
      refine hc.mono ?_
      clear hc
      rintro e c1 ⟨hX, hF, hP⟩
      have HX := Lib.hid hX
      have HFb := Lib.hid (HFa.out.trans hF)
      have hC : c1.cell? ⟨R, 0, none⟩ = some (.pointer (some ⟨B, 0, none⟩)) := hF.cell hRB hHeld
      clear hX hF HFa HRa
      have HFa := HFb
      clear HFb
      cases p with
      | none =>
        subst hP
        go_wp2_with fail
        exact ⟨rfl, RdC.no HS.out HX.out ((Fr.of_ext HE.out _).trans HFa.out)⟩
      | some xr =>
        obtain ⟨kb, r⟩ := xr
        obtain ⟨v, rfl, hv, hR⟩ := hP
        unfold byteV at hv
        subst hv
        have HRa := Lib.hid hR
        have HS : Hid (FIN = (pathP r).bind fun s => restP kb.toNat s.1 s.2) := HS
        refine hK.out _ _ hC (fun hHeld => ?_)
        clear hK K' hC hR HX
        try simp only [Act.put, List.setIfInBounds_toArray, List.set_cons_zero, List.set_cons_succ]
        refine wpAnyH_ready (rs := [3, 5]) (by kernel_rfl) (by simp) ?_
        refine AllReadyH.cons (o := ⟨_, _, _, _, _, _⟩) rfl (fun K' hK => ?_) (AllReadyH.cons (o := ⟨_, _, _, _, _, _⟩) rfl (fun K' hK => ?_) (AllReadyH.nil))
        · skip
          have HFS := Lib.hid (HFa.out.size)
          have hc := rpath_any r w0 c1 B HRa.out
          obtain ⟨p, hp⟩ : ∃ p, pathP r = p := ⟨_, rfl⟩
          rw [hp] at hc HS
          clear hp
          go_simp
          go_at_call 53
          refine hc.mono ?_
          clear hc
          rintro e c2 ⟨hX, hF, hP⟩
          have HX := Lib.hid hX
          have HFb := Lib.hid (HFa.out.trans hF)
          have hC : c2.cell? ⟨R, 0, none⟩ = some (.pointer (some ⟨B, 0, none⟩)) := hF.cell hRB hHeld
          clear hX hF HFa HRa
          have HFa := HFb
          clear HFb
          cases p with
          | none =>
            subst hP
            go_wp2_with fail
            exact ⟨rfl, RdC.no HS.out HX.out ((Fr.of_ext HE.out _).trans HFa.out)⟩
          | some xr =>
            obtain ⟨p, r⟩ := xr
            obtain ⟨v, rfl, hv, hR⟩ := hP
            have HPW := Lib.hid (show World.ownsRow _ w1.heap.size 3 1 v p.length _ from owns_le hv (HFS.out))
            obtain ⟨pA, pc, rfl, -⟩ := RdS.of_owns hv
            clear hv HFS
            have HRa := Lib.hid hR
            have HS : Hid (FIN = restP kb.toNat p r) := HS
            refine hK.out _ _ hC (fun hHeld => ?_)
            clear hK K' hC hR HX
            try simp only [Act.put, List.setIfInBounds_toArray, List.set_cons_zero, List.set_cons_succ]
            refine wpAnyH_take (i := 4) (oi := ⟨_, _, _, _, _, _⟩) (v := ?_) rfl (by kernel_rfl) (by kernel_rfl) (by kernel_rfl) (fun _ _ _ h => h) (Or.inl ⟨by rfl, ?_⟩) hHeld ?_
            rotate_left
            · intro w hSw
              try dsimp only at hSw
              go_simp
              all_goals (first | with_reducible rfl | rw [if_pos (by omega)])
            try simp only [Act.put, List.setIfInBounds_toArray, List.set_cons_zero, List.set_cons_succ]
            refine wpAnyH_ready (rs := [5]) (by kernel_rfl) (by simp) ?_
            refine AllReadyH.cons (o := ⟨_, _, _, _, _, _⟩) rfl (fun K' hK => ?_) (AllReadyH.nil)
            obtain ⟨c3, hw⟩ : ∃ W, c2.alloc (.cells #[.int .u8 0, .slice none 0 0, .int .i64 0, .slice none 0 0, .int .u64 0, .bool false, .string ⟨#[]⟩, .string ⟨#[]⟩, .string ⟨#[]⟩, .bool false, .slice none 0 0] 66) = W := ⟨_, rfl⟩
            obtain ⟨Z, hZ⟩ : ∃ Z, c2.heap.size = Z := ⟨_, rfl⟩
            have X : Ext c2 c3 := by rw [← hw]; exact (Ext.refl _).alloc _
            have HZ := Lib.hid (show NBox c3 Z 66 #[.int .u8 0, .slice none 0 0, .int .i64 0, .slice none 0 0, .int .u64 0, .bool false, .string ⟨#[]⟩, .string ⟨#[]⟩, .string ⟨#[]⟩, .bool false, .slice none 0 0] from by rw [← hw, ← hZ]; exact NBox.new _ _ _)
            have HRb := Lib.hid (HRa.out.more X)
            have HFb := Lib.hid (HFa.out.trans (Fr.of_ext X _))
            have hZ0 : w1.heap.size ≤ Z := by rw [← hZ]; exact HFa.out.size
            have HPb := Lib.hid (owns_ext X HPW.out)
            clear HPW
            have HPW := HPb
            clear HPb
            have hC : c3.cell? ⟨R, 0, none⟩ = some (.pointer (some ⟨B, 0, none⟩)) := X.cell hHeld
            have HWW := Lib.hid hw
            have HZZ := Lib.hid hZ
            clear hw hZ X HRa HFa
            have HRa := HRb
            have HFa := HFb
            clear HRb HFb
            go_simp
            rw [HWW.out, HZZ.out]
            refine hK.out _ _ hC (fun hHeld => ?_)
            clear hK K' hC HWW HZZ
            try simp only [Act.put, List.setIfInBounds_toArray, List.set_cons_zero, List.set_cons_succ]
            refine wpAnyH_ready (rs := [6]) (by kernel_rfl) (by simp) ?_
            refine AllReadyH.cons (o := ⟨_, _, _, _, _, _⟩) rfl (fun K' hK => ?_) (AllReadyH.nil)
            have y0 := HZ.out.cell 0
            have z0 := HZ.out.frozen 0
            have y1 := HZ.out.cell 1
            have z1 := HZ.out.frozen 1
            have y2 := HZ.out.cell 2
            have z2 := HZ.out.frozen 2
            have y3 := HZ.out.cell 3
            have z3 := HZ.out.frozen 3
            have y4 := HZ.out.cell 4
            have z4 := HZ.out.frozen 4
            have y5 := HZ.out.cell 5
            have z5 := HZ.out.frozen 5
            have y6 := HZ.out.cell 6
            have z6 := HZ.out.frozen 6
            have y7 := HZ.out.cell 7
            have z7 := HZ.out.frozen 7
            have y8 := HZ.out.cell 8
            have z8 := HZ.out.frozen 8
            have y9 := HZ.out.cell 9
            have z9 := HZ.out.frozen 9
            have y10 := HZ.out.cell 10
            have z10 := HZ.out.frozen 10
            go_simp
            have F2 := Fr.eleven c3 Z (.int .u8 (kb.toNat : Int)) (.slice pA p.length pc) (.int .i64 0) (.slice none 0 0) (.int .u64 0) (.bool false) (.string ⟨#[]⟩) (.string ⟨#[]⟩) (.string ⟨#[]⟩) (.bool false) (.slice none 0 0)
            have hlt := HBR.out.lt
            refine hK.out _ _ (F2.cell (by show ¬ R = Z; omega) hHeld) (fun hHeld => ?_)
            clear hK K' y0 z0 y1 z1 y2 z2 y3 z3 y4 z4 y5 z5 y6 z6 y7 z7 y8 z8 y9 z9 y10 z10
            try simp only [Act.put, List.setIfInBounds_toArray, List.set_cons_zero, List.set_cons_succ]
            refine wpAnyH_done (by kernel_rfl) ?_ _
            clear hHeld
            go_wp2_with fail
            go_meet
            obtain ⟨rv2, hbx2, hrd2⟩ := HRa.out.box
            exact ⟨Z, kb, p, r, pA, pc, rfl, HZ.out.eleven _ _ _ _ _ _ _ _ _ _ _, hZ0, owns_fr F2 HPW.out (fun g hg hk => HZ.out.not_own HPW.out (by decide) (by rw [hg, show g = Z from hk])), ⟨Fr.ext HRa.out.ext F2 (fun q hq => by rw [show q = Z from hq]; omega), HRa.out.hB, rv2, hbx2.fr F2 (fun hh => by have : B = Z := hh; omega), hrd2⟩, Fr.new ((HFa.out.mono fun q hq => .inl hq).trans (F2.mono fun q hq => .inr (by rw [show q = Z from hq]; exact hZ0))), HS⟩
        · skip
          obtain ⟨c4, hw⟩ : ∃ W, c1.alloc (.cells #[.int .u8 0, .slice none 0 0, .int .i64 0, .slice none 0 0, .int .u64 0, .bool false, .string ⟨#[]⟩, .string ⟨#[]⟩, .string ⟨#[]⟩, .bool false, .slice none 0 0] 66) = W := ⟨_, rfl⟩
          obtain ⟨Z, hZ⟩ : ∃ Z, c1.heap.size = Z := ⟨_, rfl⟩
          have X : Ext c1 c4 := by rw [← hw]; exact (Ext.refl _).alloc _
          have HZ := Lib.hid (show NBox c4 Z 66 #[.int .u8 0, .slice none 0 0, .int .i64 0, .slice none 0 0, .int .u64 0, .bool false, .string ⟨#[]⟩, .string ⟨#[]⟩, .string ⟨#[]⟩, .bool false, .slice none 0 0] from by rw [← hw, ← hZ]; exact NBox.new _ _ _)
          have HRb := Lib.hid (HRa.out.more X)
          have HFb := Lib.hid (HFa.out.trans (Fr.of_ext X _))
          have hZ0 : w1.heap.size ≤ Z := by rw [← hZ]; exact HFa.out.size
          have hC : c4.cell? ⟨R, 0, none⟩ = some (.pointer (some ⟨B, 0, none⟩)) := X.cell hHeld
          have HWW := Lib.hid hw
          have HZZ := Lib.hid hZ
          clear hw hZ X HRa HFa
          have HRa := HRb
          have HFa := HFb
          clear HRb HFb
          go_simp
          rw [HWW.out, HZZ.out]
          refine hK.out _ _ hC (fun hHeld => ?_)
          clear hK K' hC HWW HZZ
          try simp only [Act.put, List.setIfInBounds_toArray, List.set_cons_zero, List.set_cons_succ]
          have HFS := Lib.hid (HFa.out.size)
          refine wpAnyH_ready (rs := [3]) (by kernel_rfl) (by simp) ?_
          refine AllReadyH.cons (o := ⟨_, _, _, _, _, _⟩) rfl (fun K' hK => ?_) (AllReadyH.nil)
          have hc := rpath_any r w0 c4 B HRa.out
          obtain ⟨p, hp⟩ : ∃ p, pathP r = p := ⟨_, rfl⟩
          rw [hp] at hc HS
          clear hp
          go_simp
          go_at_call 53
          refine hc.mono ?_
          clear hc
          rintro e c5 ⟨hX, hF, hP⟩
          have HX := Lib.hid hX
          have HFb := Lib.hid (HFa.out.trans hF)
          have hC : c5.cell? ⟨R, 0, none⟩ = some (.pointer (some ⟨B, 0, none⟩)) := hF.cell hRB hHeld
          have HZ' := Lib.hid (HZ.out.fr hF (by have := HBR.out.lt; show ¬ Z = B; omega))
          clear hX hF HFa HRa HZ
          have HZ := HZ'
          clear HZ'
          have HFa := HFb
          clear HFb
          cases p with
          | none =>
            subst hP
            go_wp2_with fail
            exact ⟨rfl, RdC.no HS.out HX.out ((Fr.of_ext HE.out _).trans HFa.out)⟩
          | some xr =>
            obtain ⟨p, r⟩ := xr
            obtain ⟨v, rfl, hv, hR⟩ := hP
            have HPW := Lib.hid (show World.ownsRow _ w1.heap.size 3 1 v p.length _ from owns_le hv (HFS.out))
            obtain ⟨pA, pc, rfl, -⟩ := RdS.of_owns hv
            clear hv HFS
            have HRa := Lib.hid hR
            have HS : Hid (FIN = restP kb.toNat p r) := HS
            refine hK.out _ _ hC (fun hHeld => ?_)
            clear hK K' hC hR HX
            try simp only [Act.put, List.setIfInBounds_toArray, List.set_cons_zero, List.set_cons_succ]
            refine wpAnyH_take (i := 4) (oi := ⟨_, _, _, _, _, _⟩) (v := ?_) rfl (by kernel_rfl) (by kernel_rfl) (by kernel_rfl) (fun _ _ _ h => h) (Or.inl ⟨by rfl, ?_⟩) hHeld ?_
            rotate_left
            · intro w hSw
              try dsimp only at hSw
              go_simp
              all_goals (first | with_reducible rfl | rw [if_pos (by omega)])
            try simp only [Act.put, List.setIfInBounds_toArray, List.set_cons_zero, List.set_cons_succ]
            refine wpAnyH_ready (rs := [6]) (by kernel_rfl) (by simp) ?_
            refine AllReadyH.cons (o := ⟨_, _, _, _, _, _⟩) rfl (fun K' hK => ?_) (AllReadyH.nil)
            have y0 := HZ.out.cell 0
            have z0 := HZ.out.frozen 0
            have y1 := HZ.out.cell 1
            have z1 := HZ.out.frozen 1
            have y2 := HZ.out.cell 2
            have z2 := HZ.out.frozen 2
            have y3 := HZ.out.cell 3
            have z3 := HZ.out.frozen 3
            have y4 := HZ.out.cell 4
            have z4 := HZ.out.frozen 4
            have y5 := HZ.out.cell 5
            have z5 := HZ.out.frozen 5
            have y6 := HZ.out.cell 6
            have z6 := HZ.out.frozen 6
            have y7 := HZ.out.cell 7
            have z7 := HZ.out.frozen 7
            have y8 := HZ.out.cell 8
            have z8 := HZ.out.frozen 8
            have y9 := HZ.out.cell 9
            have z9 := HZ.out.frozen 9
            have y10 := HZ.out.cell 10
            have z10 := HZ.out.frozen 10
            go_simp
            have F2 := Fr.eleven c5 Z (.int .u8 (kb.toNat : Int)) (.slice pA p.length pc) (.int .i64 0) (.slice none 0 0) (.int .u64 0) (.bool false) (.string ⟨#[]⟩) (.string ⟨#[]⟩) (.string ⟨#[]⟩) (.bool false) (.slice none 0 0)
            have hlt := HBR.out.lt
            refine hK.out _ _ (F2.cell (by show ¬ R = Z; omega) hHeld) (fun hHeld => ?_)
            clear hK K' y0 z0 y1 z1 y2 z2 y3 z3 y4 z4 y5 z5 y6 z6 y7 z7 y8 z8 y9 z9 y10 z10
            try simp only [Act.put, List.setIfInBounds_toArray, List.set_cons_zero, List.set_cons_succ]
            refine wpAnyH_done (by kernel_rfl) ?_ _
            clear hHeld
            go_wp2_with fail
            go_meet
            obtain ⟨rv2, hbx2, hrd2⟩ := HRa.out.box
            exact ⟨Z, kb, p, r, pA, pc, rfl, HZ.out.eleven _ _ _ _ _ _ _ _ _ _ _, hZ0, owns_fr F2 HPW.out (fun g hg hk => HZ.out.not_own HPW.out (by decide) (by rw [hg, show g = Z from hk])), ⟨Fr.ext HRa.out.ext F2 (fun q hq => by rw [show q = Z from hq]; omega), HRa.out.hB, rv2, hbx2.fr F2 (fun hh => by have : B = Z := hh; omega), hrd2⟩, Fr.new ((HFa.out.mono fun q hq => .inl hq).trans (F2.mono fun q hq => .inr (by rw [show q = Z from hq]; exact hZ0))), HS⟩
    · skip
      obtain ⟨c6, hw⟩ : ∃ W, c0.alloc (.cells #[.int .u8 0, .slice none 0 0, .int .i64 0, .slice none 0 0, .int .u64 0, .bool false, .string ⟨#[]⟩, .string ⟨#[]⟩, .string ⟨#[]⟩, .bool false, .slice none 0 0] 66) = W := ⟨_, rfl⟩
      obtain ⟨Z, hZ⟩ : ∃ Z, c0.heap.size = Z := ⟨_, rfl⟩
      have X : Ext c0 c6 := by rw [← hw]; exact (Ext.refl _).alloc _
      have HZ := Lib.hid (show NBox c6 Z 66 #[.int .u8 0, .slice none 0 0, .int .i64 0, .slice none 0 0, .int .u64 0, .bool false, .string ⟨#[]⟩, .string ⟨#[]⟩, .string ⟨#[]⟩, .bool false, .slice none 0 0] from by rw [← hw, ← hZ]; exact NBox.new _ _ _)
      have HRb := Lib.hid (HRa.out.more X)
      have HFb := Lib.hid (HFa.out.trans (Fr.of_ext X _))
      have hZ0 : w1.heap.size ≤ Z := by rw [← hZ]; exact HFa.out.size
      have hC : c6.cell? ⟨R, 0, none⟩ = some (.pointer (some ⟨B, 0, none⟩)) := X.cell hHeld
      have HWW := Lib.hid hw
      have HZZ := Lib.hid hZ
      clear hw hZ X HRa HFa
      have HRa := HRb
      have HFa := HFb
      clear HRb HFb
      go_simp
      rw [HWW.out, HZZ.out]
      refine hK.out _ _ hC (fun hHeld => ?_)
      clear hK K' hC HWW HZZ
      try simp only [Act.put, List.setIfInBounds_toArray, List.set_cons_zero, List.set_cons_succ]
      refine wpAnyH_ready (rs := [1]) (by kernel_rfl) (by simp) ?_
      refine AllReadyH.cons (o := ⟨_, _, _, _, _, _⟩) rfl (fun K' hK => ?_) (AllReadyH.nil)
      have hc := rbyte_any bs w0 c6 B HRa.out
      obtain ⟨p, hp⟩ : ∃ p, byteQ bs = p := ⟨_, rfl⟩
      rw [hp] at hc HS
      clear hp
      go_simp
      go_at_call 80
      refine hc.mono ?_
      clear hc
      rintro e c7 ⟨hX, hF, hP⟩
      have HX := Lib.hid hX
      have HFb := Lib.hid (HFa.out.trans hF)
      have hC : c7.cell? ⟨R, 0, none⟩ = some (.pointer (some ⟨B, 0, none⟩)) := hF.cell hRB hHeld
      have HZ' := Lib.hid (HZ.out.fr hF (by have := HBR.out.lt; show ¬ Z = B; omega))
      clear hX hF HFa HRa HZ
      have HZ := HZ'
      clear HZ'
      have HFa := HFb
      clear HFb
      cases p with
      | none =>
        subst hP
        go_wp2_with fail
        exact ⟨rfl, RdC.no HS.out HX.out ((Fr.of_ext HE.out _).trans HFa.out)⟩
      | some xr =>
        obtain ⟨kb, r⟩ := xr
        obtain ⟨v, rfl, hv, hR⟩ := hP
        unfold byteV at hv
        subst hv
        have HRa := Lib.hid hR
        have HS : Hid (FIN = (pathP r).bind fun s => restP kb.toNat s.1 s.2) := HS
        refine hK.out _ _ hC (fun hHeld => ?_)
        clear hK K' hC hR HX
        try simp only [Act.put, List.setIfInBounds_toArray, List.set_cons_zero, List.set_cons_succ]
        have HFS := Lib.hid (HFa.out.size)
        refine wpAnyH_ready (rs := [3]) (by kernel_rfl) (by simp) ?_
        refine AllReadyH.cons (o := ⟨_, _, _, _, _, _⟩) rfl (fun K' hK => ?_) (AllReadyH.nil)
        have hc := rpath_any r w0 c7 B HRa.out
        obtain ⟨p, hp⟩ : ∃ p, pathP r = p := ⟨_, rfl⟩
        rw [hp] at hc HS
        clear hp
        go_simp
        go_at_call 53
        refine hc.mono ?_
        clear hc
        rintro e c8 ⟨hX, hF, hP⟩
        have HX := Lib.hid hX
        have HFb := Lib.hid (HFa.out.trans hF)
        have hC : c8.cell? ⟨R, 0, none⟩ = some (.pointer (some ⟨B, 0, none⟩)) := hF.cell hRB hHeld
        have HZ' := Lib.hid (HZ.out.fr hF (by have := HBR.out.lt; show ¬ Z = B; omega))
        clear hX hF HFa HRa HZ
        have HZ := HZ'
        clear HZ'
        have HFa := HFb
        clear HFb
        cases p with
        | none =>
          subst hP
          go_wp2_with fail
          exact ⟨rfl, RdC.no HS.out HX.out ((Fr.of_ext HE.out _).trans HFa.out)⟩
        | some xr =>
          obtain ⟨p, r⟩ := xr
          obtain ⟨v, rfl, hv, hR⟩ := hP
          have HPW := Lib.hid (show World.ownsRow _ w1.heap.size 3 1 v p.length _ from owns_le hv (HFS.out))
          obtain ⟨pA, pc, rfl, -⟩ := RdS.of_owns hv
          clear hv HFS
          have HRa := Lib.hid hR
          have HS : Hid (FIN = restP kb.toNat p r) := HS
          refine hK.out _ _ hC (fun hHeld => ?_)
          clear hK K' hC hR HX
          try simp only [Act.put, List.setIfInBounds_toArray, List.set_cons_zero, List.set_cons_succ]
          refine wpAnyH_take (i := 4) (oi := ⟨_, _, _, _, _, _⟩) (v := ?_) rfl (by kernel_rfl) (by kernel_rfl) (by kernel_rfl) (fun _ _ _ h => h) (Or.inl ⟨by rfl, ?_⟩) hHeld ?_
          rotate_left
          · intro w hSw
            try dsimp only at hSw
            go_simp
            all_goals (first | with_reducible rfl | rw [if_pos (by omega)])
          try simp only [Act.put, List.setIfInBounds_toArray, List.set_cons_zero, List.set_cons_succ]
          refine wpAnyH_ready (rs := [6]) (by kernel_rfl) (by simp) ?_
          refine AllReadyH.cons (o := ⟨_, _, _, _, _, _⟩) rfl (fun K' hK => ?_) (AllReadyH.nil)
          have y0 := HZ.out.cell 0
          have z0 := HZ.out.frozen 0
          have y1 := HZ.out.cell 1
          have z1 := HZ.out.frozen 1
          have y2 := HZ.out.cell 2
          have z2 := HZ.out.frozen 2
          have y3 := HZ.out.cell 3
          have z3 := HZ.out.frozen 3
          have y4 := HZ.out.cell 4
          have z4 := HZ.out.frozen 4
          have y5 := HZ.out.cell 5
          have z5 := HZ.out.frozen 5
          have y6 := HZ.out.cell 6
          have z6 := HZ.out.frozen 6
          have y7 := HZ.out.cell 7
          have z7 := HZ.out.frozen 7
          have y8 := HZ.out.cell 8
          have z8 := HZ.out.frozen 8
          have y9 := HZ.out.cell 9
          have z9 := HZ.out.frozen 9
          have y10 := HZ.out.cell 10
          have z10 := HZ.out.frozen 10
          go_simp
          have F2 := Fr.eleven c8 Z (.int .u8 (kb.toNat : Int)) (.slice pA p.length pc) (.int .i64 0) (.slice none 0 0) (.int .u64 0) (.bool false) (.string ⟨#[]⟩) (.string ⟨#[]⟩) (.string ⟨#[]⟩) (.bool false) (.slice none 0 0)
          have hlt := HBR.out.lt
          refine hK.out _ _ (F2.cell (by show ¬ R = Z; omega) hHeld) (fun hHeld => ?_)
          clear hK K' y0 z0 y1 z1 y2 z2 y3 z3 y4 z4 y5 z5 y6 z6 y7 z7 y8 z8 y9 z9 y10 z10
          try simp only [Act.put, List.setIfInBounds_toArray, List.set_cons_zero, List.set_cons_succ]
          refine wpAnyH_done (by kernel_rfl) ?_ _
          clear hHeld
          go_wp2_with fail
          go_meet
          obtain ⟨rv2, hbx2, hrd2⟩ := HRa.out.box
          exact ⟨Z, kb, p, r, pA, pc, rfl, HZ.out.eleven _ _ _ _ _ _ _ _ _ _ _, hZ0, owns_fr F2 HPW.out (fun g hg hk => HZ.out.not_own HPW.out (by decide) (by rw [hg, show g = Z from hk])), ⟨Fr.ext HRa.out.ext F2 (fun q hq => by rw [show q = Z from hq]; omega), HRa.out.hB, rv2, hbx2.fr F2 (fun hh => by have : B = Z := hh; omega), hrd2⟩, Fr.new ((HFa.out.mono fun q hq => .inl hq).trans (F2.mono fun q hq => .inr (by rw [show q = Z from hq]; exact hZ0))), HS⟩
  case rest =>
    obtain ⟨Z, kb, p, r, pA, pc, rfl, hZ, hZ0, hPW, hR, hF, HS⟩ := hcut
    have hlt := HBY.out.lt
    have hbY := HBY.out.fr hF (by show ¬ Y = B; omega)
    have hbR := HBR.out.fr hF hRB
    have HP := Lib.hid (row_late (Z := Z) (Y := Y) (n := 0) hPW (lo := w.heap.size) HE.out.size (hZ.not_own hPW (by decide)) (hbY.not_own hPW (by decide)) rfl)
    have HZ := Lib.hid hZ
    have HRa := Lib.hid hR
    have HFa := Lib.hid hF
    have HY := Lib.hid hbY
    have HRx := Lib.hid hbR
    have hw0 : w.heap.size ≤ Y := by rw [HRR.out]; omega
    have hwR : w.heap.size ≤ R := by rw [HRR.out]; exact Nat.le_refl _
    have hwR2 : R ≤ w.heap.size := by rw [HRR.out]; exact Nat.le_refl _
    have k0 := hZ.cell 0
    have hYZ : Y < Z := by omega
    obtain ⟨kc, hkc⟩ : ∃ kc : Int, (kb.toNat : Int) = kc := ⟨_, rfl⟩
    have HKC := Lib.hid hkc
    rw [hkc] at HZ k0
    have hkb : 0 ≤ kc ∧ kc ≤ 255 := by have := kb.toNat_lt; omega
    clear hF hZ hPW hR hbY hbR HBR HBY HRS r0 hkc
    by_cases hk1 : kc = 1
    · subst hk1
      have HS : Hid (FIN = restP 1 p r) := Lib.hid (by rw [HS.out, show kb.toNat = 1 by have := HKC.out; omega])
      clear HKC hkb
      go_upto_region 5 with fail
      clear k0
      have r0 := HRx.out.cell 0
      obtain ⟨d0, hc0⟩ : ∃ q, wc.drew = q := ⟨_, rfl⟩
      have hX0 : Ext wc d0 := by rw [← hc0]; exact (Ext.refl _).drew
      have hH : d0.cell? ⟨R, 0, none⟩ = some (.pointer (some ⟨B, 0, none⟩)) := hX0.cell r0
      have HZ' := Lib.hid (HZ.out.ext hX0)
      have HRa' := Lib.hid (HRa.out.more hX0)
      have HFa' := Lib.hid (HFa.out.trans (Fr.of_ext hX0 _))
      have HY' := Lib.hid (HY.out.ext hX0)
      have HP' := Lib.hid (HP.out.ext hX0)
      clear HZ
      have HZ := HZ'
      clear HZ'
      clear HRa
      have HRa := HRa'
      clear HRa'
      clear HFa
      have HFa := HFa'
      clear HFa'
      clear HY
      have HY := HY'
      clear HY'
      clear HP
      have HP := HP'
      clear HP'
      refine wp_region_held_drew (S := fun W => W.cell? ⟨R, 0, none⟩ = some (.pointer (some ⟨B, 0, none⟩))) (by kernel_rfl) (by rw [hc0]; exact hH) (fun hHeld => ?_)
      rw [hc0] at hHeld ⊢
      clear hc0 hH hX0 r0
      refine wpAnyH_take (i := 0) (oi := ⟨_, _, _, _, _, _⟩) (v := ?_) rfl (by kernel_rfl) (by kernel_rfl) (by kernel_rfl) (fun _ _ _ h => h) (Or.inl ⟨by rfl, ?_⟩) hHeld ?_
      rotate_left
      · intro w hSw
        try dsimp only at hSw
        go_simp
        all_goals (first | with_reducible rfl | rw [if_pos (by omega)])
      try simp only [Act.put, List.setIfInBounds_toArray, List.set_cons_zero, List.set_cons_succ]
      refine wpAnyH_take (i := 2) (oi := ⟨_, _, _, _, _, _⟩) (v := ?_) rfl (by kernel_rfl) (by kernel_rfl) (by kernel_rfl) (fun _ _ _ h => h) (Or.inl ⟨by rfl, ?_⟩) hHeld ?_
      rotate_left
      · intro w hSw
        try dsimp only at hSw
        go_simp
        all_goals (first | with_reducible rfl | rw [if_pos (by omega)])
      try simp only [Act.put, List.setIfInBounds_toArray, List.set_cons_zero, List.set_cons_succ]
      refine wpAnyH_take (i := 4) (oi := ⟨_, _, _, _, _, _⟩) (v := ?_) rfl (by kernel_rfl) (by kernel_rfl) (by kernel_rfl) (fun _ _ _ h => h) (Or.inl ⟨by rfl, ?_⟩) hHeld ?_
      rotate_left
      · intro w hSw
        try dsimp only at hSw
        go_simp
        all_goals (first | with_reducible rfl | rw [if_pos (by omega)])
      try simp only [Act.put, List.setIfInBounds_toArray, List.set_cons_zero, List.set_cons_succ]
      refine wpAnyH_take (i := 6) (oi := ⟨_, _, _, _, _, _⟩) (v := ?_) rfl (by kernel_rfl) (by kernel_rfl) (by kernel_rfl) (fun _ _ _ h => h) (Or.inl ⟨by rfl, ?_⟩) hHeld ?_
      rotate_left
      · intro w hSw
        try dsimp only at hSw
        go_simp
        all_goals (first | with_reducible rfl | rw [if_pos (by omega)])
      try simp only [Act.put, List.setIfInBounds_toArray, List.set_cons_zero, List.set_cons_succ]
      have HS : Hid (FIN = (smallP 1048577 r).bind fun q => oi2 p q.1 q.2) := HS
      refine wpAnyH_ready (rs := [1]) (by kernel_rfl) (by simp) ?_
      refine AllReadyH.cons (o := ⟨_, _, _, _, _, _⟩) rfl (fun K' hK => ?_) (AllReadyH.nil)
      have hc := rsmall_any 1048577 (by decide) r w0 d0 B HRa.out
      obtain ⟨p, hp⟩ : ∃ p, smallP 1048577 r = p := ⟨_, rfl⟩
      rw [hp] at hc HS
      clear hp
      go_simp
      go_at_call 85
      refine hc.mono ?_
      clear hc
      rintro e d1 ⟨hX, hF, hP⟩
      have HX := Lib.hid hX
      have HFb := Lib.hid (HFa.out.trans hF)
      have hC : d1.cell? ⟨R, 0, none⟩ = some (.pointer (some ⟨B, 0, none⟩)) := hF.cell hRB hHeld
      have HZ' := Lib.hid (HZ.out.fr hF (by show ¬ Z = B; omega))
      have HY' := Lib.hid (HY.out.fr hF (by show ¬ Y = B; omega))
      have HP' := Lib.hid (HP.out.to (S' := fun k => k < w.heap.size ∨ k = Z ∨ k = Y) hF (fun q _ hh => hh.elim (fun h => .inl (by rw [show q = B from h]; omega)) id))
      clear hX hF HFa HRa HZ HY HP
      have HZ := HZ'
      clear HZ'
      have HY := HY'
      clear HY'
      have HP := HP'
      clear HP'
      have HFa := HFb
      clear HFb
      cases p with
      | none =>
        subst hP
        go_wp2_with fail
        exact ⟨rfl, RdC.no HS.out HX.out ((Fr.of_ext HE.out _).trans HFa.out)⟩
      | some xr =>
        obtain ⟨a, r⟩ := xr
        obtain ⟨v, rfl, hv, hR⟩ := hP
        unfold intV at hv
        subst hv
        have HRa := Lib.hid hR
        have HS : Hid (FIN = (rdNum 0 0 r).bind fun q => oi3 p a q.1 q.2) := HS
        refine hK.out _ _ hC (fun hHeld => ?_)
        clear hK K' hC hR HX
        try simp only [Act.put, List.setIfInBounds_toArray, List.set_cons_zero, List.set_cons_succ]
        refine wpAnyH_take (i := 8) (oi := ⟨_, _, _, _, _, _⟩) (v := ?_) rfl (by kernel_rfl) (by kernel_rfl) (by kernel_rfl) (fun _ _ _ h => h) (Or.inl ⟨by rfl, ?_⟩) hHeld ?_
        rotate_left
        · intro w hSw
          try dsimp only at hSw
          go_simp
          all_goals (first | with_reducible rfl | rw [if_pos (by omega)])
        try simp only [Act.put, List.setIfInBounds_toArray, List.set_cons_zero, List.set_cons_succ]
        have HIL := Lib.hid (fun i s (hh : rdNum 0 0 r = some (i, s)) => (num_get hh).2)
        refine wpAnyH_ready (rs := [3]) (by kernel_rfl) (by simp) ?_
        refine AllReadyH.cons (o := ⟨_, _, _, _, _, _⟩) rfl (fun K' hK => ?_) (AllReadyH.nil)
        have hc := rnumber_any r w0 d1 B HRa.out
        obtain ⟨p, hp⟩ : ∃ p, rdNum 0 0 r = p := ⟨_, rfl⟩
        rw [hp] at hc HS HIL
        clear hp
        go_simp
        go_at_call 47
        refine hc.mono ?_
        clear hc
        rintro e d2 ⟨hX, hF, hP⟩
        have HX := Lib.hid hX
        have HFb := Lib.hid (HFa.out.trans hF)
        have hC : d2.cell? ⟨R, 0, none⟩ = some (.pointer (some ⟨B, 0, none⟩)) := hF.cell hRB hHeld
        have HZ' := Lib.hid (HZ.out.fr hF (by show ¬ Z = B; omega))
        have HY' := Lib.hid (HY.out.fr hF (by show ¬ Y = B; omega))
        have HP' := Lib.hid (HP.out.to (S' := fun k => k < w.heap.size ∨ k = Z ∨ k = Y) hF (fun q _ hh => hh.elim (fun h => .inl (by rw [show q = B from h]; omega)) id))
        clear hX hF HFa HRa HZ HY HP
        have HZ := HZ'
        clear HZ'
        have HY := HY'
        clear HY'
        have HP := HP'
        clear HP'
        have HFa := HFb
        clear HFb
        cases p with
        | none =>
          subst hP
          go_wp2_with fail
          exact ⟨rfl, RdC.no HS.out HX.out ((Fr.of_ext HE.out _).trans HFa.out)⟩
        | some xr =>
          obtain ⟨i, r⟩ := xr
          obtain ⟨v, rfl, hv, hR⟩ := hP
          unfold natV at hv
          subst hv
          have hil := HIL.out _ _ rfl
          clear HIL
          have HRa := Lib.hid hR
          have HS : Hid (FIN = (flagP r).bind fun q => oi4 p a i q.1 q.2) := HS
          refine hK.out _ _ hC (fun hHeld => ?_)
          clear hK K' hC hR HX
          try simp only [Act.put, List.setIfInBounds_toArray, List.set_cons_zero, List.set_cons_succ]
          refine wpAnyH_ready (rs := [5]) (by kernel_rfl) (by simp) ?_
          refine AllReadyH.cons (o := ⟨_, _, _, _, _, _⟩) rfl (fun K' hK => ?_) (AllReadyH.nil)
          have hc := rflag_any r w0 d2 B HRa.out
          obtain ⟨p, hp⟩ : ∃ p, flagP r = p := ⟨_, rfl⟩
          rw [hp] at hc HS
          clear hp
          go_simp
          go_at_call 88
          refine hc.mono ?_
          clear hc
          rintro e d3 ⟨hX, hF, hP⟩
          have HX := Lib.hid hX
          have HFb := Lib.hid (HFa.out.trans hF)
          have hC : d3.cell? ⟨R, 0, none⟩ = some (.pointer (some ⟨B, 0, none⟩)) := hF.cell hRB hHeld
          have HZ' := Lib.hid (HZ.out.fr hF (by show ¬ Z = B; omega))
          have HY' := Lib.hid (HY.out.fr hF (by show ¬ Y = B; omega))
          have HP' := Lib.hid (HP.out.to (S' := fun k => k < w.heap.size ∨ k = Z ∨ k = Y) hF (fun q _ hh => hh.elim (fun h => .inl (by rw [show q = B from h]; omega)) id))
          clear hX hF HFa HRa HZ HY HP
          have HZ := HZ'
          clear HZ'
          have HY := HY'
          clear HY'
          have HP := HP'
          clear HP'
          have HFa := HFb
          clear HFb
          cases p with
          | none =>
            subst hP
            go_wp2_with fail
            exact ⟨rfl, RdC.no HS.out HX.out ((Fr.of_ext HE.out _).trans HFa.out)⟩
          | some xr =>
            obtain ⟨f, r⟩ := xr
            obtain ⟨v, rfl, hv, hR⟩ := hP
            unfold boolV at hv
            subst hv
            have HRa := Lib.hid hR
            have HS : Hid (FIN = (textP 64 r).bind fun q => some ((⟨1, p, (a : Int), [], (i : Int), f, q.1, ⟨#[]⟩, ⟨#[]⟩, false, []⟩ : OpD), q.2)) := HS
            refine hK.out _ _ hC (fun hHeld => ?_)
            clear hK K' hC hR HX
            try simp only [Act.put, List.setIfInBounds_toArray, List.set_cons_zero, List.set_cons_succ]
            refine wpAnyH_ready (rs := [7]) (by kernel_rfl) (by simp) ?_
            refine AllReadyH.cons (o := ⟨_, _, _, _, _, _⟩) rfl (fun K' hK => ?_) (AllReadyH.nil)
            have hc := rtext_any 64 (by decide) r w0 d3 B HRa.out
            obtain ⟨p, hp⟩ : ∃ p, textP 64 r = p := ⟨_, rfl⟩
            rw [hp] at hc HS
            clear hp
            go_simp
            go_at_call 89
            refine hc.mono ?_
            clear hc
            rintro e d4 ⟨hX, hF, hP⟩
            have HX := Lib.hid hX
            have HFb := Lib.hid (HFa.out.trans hF)
            have hC : d4.cell? ⟨R, 0, none⟩ = some (.pointer (some ⟨B, 0, none⟩)) := hF.cell hRB hHeld
            have HZ' := Lib.hid (HZ.out.fr hF (by show ¬ Z = B; omega))
            have HY' := Lib.hid (HY.out.fr hF (by show ¬ Y = B; omega))
            have HP' := Lib.hid (HP.out.to (S' := fun k => k < w.heap.size ∨ k = Z ∨ k = Y) hF (fun q _ hh => hh.elim (fun h => .inl (by rw [show q = B from h]; omega)) id))
            clear hX hF HFa HRa HZ HY HP
            have HZ := HZ'
            clear HZ'
            have HY := HY'
            clear HY'
            have HP := HP'
            clear HP'
            have HFa := HFb
            clear HFb
            cases p with
            | none =>
              subst hP
              go_wp2_with fail
              exact ⟨rfl, RdC.no HS.out HX.out ((Fr.of_ext HE.out _).trans HFa.out)⟩
            | some xr =>
              obtain ⟨l, r⟩ := xr
              obtain ⟨v, rfl, hv, hR⟩ := hP
              obtain ⟨rfl, htl⟩ := hv
              have HRa := Lib.hid hR
              have HS : Hid (FIN = some ((⟨1, p, (a : Int), [], (i : Int), f, l, ⟨#[]⟩, ⟨#[]⟩, false, []⟩ : OpD), r)) := HS
              refine hK.out _ _ hC (fun hHeld => ?_)
              clear hK K' hC hR HX
              try simp only [Act.put, List.setIfInBounds_toArray, List.set_cons_zero, List.set_cons_succ]
              refine wpAnyH_ready (rs := [9]) (by kernel_rfl) (by simp) ?_
              refine AllReadyH.cons (o := ⟨_, _, _, _, _, _⟩) rfl (fun K' hK => ?_) (AllReadyH.nil)
              have y0 := HZ.out.cell 2
              have z0 := HZ.out.frozen 2
              obtain ⟨d5, hw⟩ : ∃ qq, d4.setCell ⟨Z, 2, none⟩ (.int .i64 (a : Int)) = qq := ⟨_, rfl⟩
              have F2 : Fr d4 d5 (isB Z) := by rw [← hw]; exact Fr.setCell _ _ _ _
              have HZ' := Lib.hid (show NBox d5 Z 66 #[.int .u8 1, .slice pA p.length pc, .int .i64 (a : Int), .slice none 0 0, .int .u64 0, .bool false, .string ⟨#[]⟩, .string ⟨#[]⟩, .string ⟨#[]⟩, .bool false, .slice none 0 0] from by rw [← hw]; exact HZ.out.set 2 _)
              have HRa' := Lib.hid (HRa.out.fr F2 (fun q hq => by rw [show q = Z from hq]; omega) (by show ¬ B = Z; omega))
              have HFa' : Hid (Fr w1 d5 (isB B)) := Lib.hid (Fr.new ((HFa.out.mono fun q hq => .inl hq).trans (F2.mono fun q hq => .inr (by rw [show q = Z from hq]; exact hZ0))))
              have HY' := Lib.hid (HY.out.fr F2 (by show ¬ Y = Z; omega))
              have HP' := Lib.hid (HP.out.to (S' := fun k => k < w.heap.size ∨ k = Z ∨ k = Y) F2 (fun q _ hh => hh.elim (fun h => .inr (.inl h)) id))
              have hC : d5.cell? ⟨R, 0, none⟩ = some (.pointer (some ⟨B, 0, none⟩)) := F2.cell (by show ¬ R = Z; omega) hHeld
              have HW2 := Lib.hid hw
              clear hw F2
              clear HZ
              have HZ := HZ'
              clear HZ'
              clear HRa
              have HRa := HRa'
              clear HRa'
              clear HFa
              have HFa := HFa'
              clear HFa'
              clear HY
              have HY := HY'
              clear HY'
              clear HP
              have HP := HP'
              clear HP'
              go_simp
              rw [HW2.out]
              refine hK.out _ _ hC (fun hHeld => ?_)
              clear hK K' hC HW2 y0 z0
              try simp only [Act.put, List.setIfInBounds_toArray, List.set_cons_zero, List.set_cons_succ]
              refine wpAnyH_take (i := 10) (oi := ⟨_, _, _, _, _, _⟩) (v := ?_) rfl (by kernel_rfl) (by kernel_rfl) (by kernel_rfl) (fun _ _ _ h => h) (Or.inl ⟨by rfl, ?_⟩) hHeld ?_
              rotate_left
              · intro w hSw
                try dsimp only at hSw
                go_simp
                all_goals (first | with_reducible rfl | rw [if_pos (by omega)])
              try simp only [Act.put, List.setIfInBounds_toArray, List.set_cons_zero, List.set_cons_succ]
              refine wpAnyH_ready (rs := [11]) (by kernel_rfl) (by simp) ?_
              refine AllReadyH.cons (o := ⟨_, _, _, _, _, _⟩) rfl (fun K' hK => ?_) (AllReadyH.nil)
              have y0 := HZ.out.cell 4
              have z0 := HZ.out.frozen 4
              obtain ⟨d6, hw⟩ : ∃ qq, d5.setCell ⟨Z, 4, none⟩ (.int .u64 (i : Int)) = qq := ⟨_, rfl⟩
              have F2 : Fr d5 d6 (isB Z) := by rw [← hw]; exact Fr.setCell _ _ _ _
              have HZ' := Lib.hid (show NBox d6 Z 66 #[.int .u8 1, .slice pA p.length pc, .int .i64 (a : Int), .slice none 0 0, .int .u64 (i : Int), .bool false, .string ⟨#[]⟩, .string ⟨#[]⟩, .string ⟨#[]⟩, .bool false, .slice none 0 0] from by rw [← hw]; exact HZ.out.set 4 _)
              have HRa' := Lib.hid (HRa.out.fr F2 (fun q hq => by rw [show q = Z from hq]; omega) (by show ¬ B = Z; omega))
              have HFa' : Hid (Fr w1 d6 (isB B)) := Lib.hid (Fr.new ((HFa.out.mono fun q hq => .inl hq).trans (F2.mono fun q hq => .inr (by rw [show q = Z from hq]; exact hZ0))))
              have HY' := Lib.hid (HY.out.fr F2 (by show ¬ Y = Z; omega))
              have HP' := Lib.hid (HP.out.to (S' := fun k => k < w.heap.size ∨ k = Z ∨ k = Y) F2 (fun q _ hh => hh.elim (fun h => .inr (.inl h)) id))
              have hC : d6.cell? ⟨R, 0, none⟩ = some (.pointer (some ⟨B, 0, none⟩)) := F2.cell (by show ¬ R = Z; omega) hHeld
              have HW2 := Lib.hid hw
              clear hw F2
              clear HZ
              have HZ := HZ'
              clear HZ'
              clear HRa
              have HRa := HRa'
              clear HRa'
              clear HFa
              have HFa := HFa'
              clear HFa'
              clear HY
              have HY := HY'
              clear HY'
              clear HP
              have HP := HP'
              clear HP'
              go_simp
              rw [HW2.out]
              refine hK.out _ _ hC (fun hHeld => ?_)
              clear hK K' hC HW2 y0 z0
              try simp only [Act.put, List.setIfInBounds_toArray, List.set_cons_zero, List.set_cons_succ]
              refine wpAnyH_take (i := 12) (oi := ⟨_, _, _, _, _, _⟩) (v := ?_) rfl (by kernel_rfl) (by kernel_rfl) (by kernel_rfl) (fun _ _ _ h => h) (Or.inl ⟨by rfl, ?_⟩) hHeld ?_
              rotate_left
              · intro w hSw
                try dsimp only at hSw
                go_simp
                all_goals (first | with_reducible rfl | rw [if_pos (by omega)])
              try simp only [Act.put, List.setIfInBounds_toArray, List.set_cons_zero, List.set_cons_succ]
              refine wpAnyH_ready (rs := [13]) (by kernel_rfl) (by simp) ?_
              refine AllReadyH.cons (o := ⟨_, _, _, _, _, _⟩) rfl (fun K' hK => ?_) (AllReadyH.nil)
              have y0 := HZ.out.cell 5
              have z0 := HZ.out.frozen 5
              obtain ⟨d7, hw⟩ : ∃ qq, d6.setCell ⟨Z, 5, none⟩ (.bool f) = qq := ⟨_, rfl⟩
              have F2 : Fr d6 d7 (isB Z) := by rw [← hw]; exact Fr.setCell _ _ _ _
              have HZ' := Lib.hid (show NBox d7 Z 66 #[.int .u8 1, .slice pA p.length pc, .int .i64 (a : Int), .slice none 0 0, .int .u64 (i : Int), .bool f, .string ⟨#[]⟩, .string ⟨#[]⟩, .string ⟨#[]⟩, .bool false, .slice none 0 0] from by rw [← hw]; exact HZ.out.set 5 _)
              have HRa' := Lib.hid (HRa.out.fr F2 (fun q hq => by rw [show q = Z from hq]; omega) (by show ¬ B = Z; omega))
              have HFa' : Hid (Fr w1 d7 (isB B)) := Lib.hid (Fr.new ((HFa.out.mono fun q hq => .inl hq).trans (F2.mono fun q hq => .inr (by rw [show q = Z from hq]; exact hZ0))))
              have HY' := Lib.hid (HY.out.fr F2 (by show ¬ Y = Z; omega))
              have HP' := Lib.hid (HP.out.to (S' := fun k => k < w.heap.size ∨ k = Z ∨ k = Y) F2 (fun q _ hh => hh.elim (fun h => .inr (.inl h)) id))
              have hC : d7.cell? ⟨R, 0, none⟩ = some (.pointer (some ⟨B, 0, none⟩)) := F2.cell (by show ¬ R = Z; omega) hHeld
              have HW2 := Lib.hid hw
              clear hw F2
              clear HZ
              have HZ := HZ'
              clear HZ'
              clear HRa
              have HRa := HRa'
              clear HRa'
              clear HFa
              have HFa := HFa'
              clear HFa'
              clear HY
              have HY := HY'
              clear HY'
              clear HP
              have HP := HP'
              clear HP'
              go_simp
              rw [HW2.out]
              refine hK.out _ _ hC (fun hHeld => ?_)
              clear hK K' hC HW2 y0 z0
              try simp only [Act.put, List.setIfInBounds_toArray, List.set_cons_zero, List.set_cons_succ]
              refine wpAnyH_take (i := 14) (oi := ⟨_, _, _, _, _, _⟩) (v := ?_) rfl (by kernel_rfl) (by kernel_rfl) (by kernel_rfl) (fun _ _ _ h => h) (Or.inl ⟨by rfl, ?_⟩) hHeld ?_
              rotate_left
              · intro w hSw
                try dsimp only at hSw
                go_simp
                all_goals (first | with_reducible rfl | rw [if_pos (by omega)])
              try simp only [Act.put, List.setIfInBounds_toArray, List.set_cons_zero, List.set_cons_succ]
              refine wpAnyH_ready (rs := [15]) (by kernel_rfl) (by simp) ?_
              refine AllReadyH.cons (o := ⟨_, _, _, _, _, _⟩) rfl (fun K' hK => ?_) (AllReadyH.nil)
              have y0 := HZ.out.cell 6
              have z0 := HZ.out.frozen 6
              obtain ⟨d8, hw⟩ : ∃ qq, d7.setCell ⟨Z, 6, none⟩ (.string l) = qq := ⟨_, rfl⟩
              have F2 : Fr d7 d8 (isB Z) := by rw [← hw]; exact Fr.setCell _ _ _ _
              have HZ' := Lib.hid (show NBox d8 Z 66 #[.int .u8 1, .slice pA p.length pc, .int .i64 (a : Int), .slice none 0 0, .int .u64 (i : Int), .bool f, .string l, .string ⟨#[]⟩, .string ⟨#[]⟩, .bool false, .slice none 0 0] from by rw [← hw]; exact HZ.out.set 6 _)
              have HRa' := Lib.hid (HRa.out.fr F2 (fun q hq => by rw [show q = Z from hq]; omega) (by show ¬ B = Z; omega))
              have HFa' : Hid (Fr w1 d8 (isB B)) := Lib.hid (Fr.new ((HFa.out.mono fun q hq => .inl hq).trans (F2.mono fun q hq => .inr (by rw [show q = Z from hq]; exact hZ0))))
              have HY' := Lib.hid (HY.out.fr F2 (by show ¬ Y = Z; omega))
              have HP' := Lib.hid (HP.out.to (S' := fun k => k < w.heap.size ∨ k = Z ∨ k = Y) F2 (fun q _ hh => hh.elim (fun h => .inr (.inl h)) id))
              have hC : d8.cell? ⟨R, 0, none⟩ = some (.pointer (some ⟨B, 0, none⟩)) := F2.cell (by show ¬ R = Z; omega) hHeld
              have HW2 := Lib.hid hw
              clear hw F2
              clear HZ
              have HZ := HZ'
              clear HZ'
              clear HRa
              have HRa := HRa'
              clear HRa'
              clear HFa
              have HFa := HFa'
              clear HFa'
              clear HY
              have HY := HY'
              clear HY'
              clear HP
              have HP := HP'
              clear HP'
              go_simp
              rw [HW2.out]
              refine hK.out _ _ hC (fun hHeld => ?_)
              clear hK K' hC HW2 y0 z0
              try simp only [Act.put, List.setIfInBounds_toArray, List.set_cons_zero, List.set_cons_succ]
              refine wpAnyH_done (by kernel_rfl) ?_ _
              clear hHeld
              go_upto_region 16 with fail
              have y0 := HY.out.cell 0
              have f0 := HY.out.frozen 0
              have z0 := HZ.out.cell 0
              have y1 := HY.out.cell 1
              have f1 := HY.out.frozen 1
              have z1 := HZ.out.cell 1
              have y2 := HY.out.cell 2
              have f2 := HY.out.frozen 2
              have z2 := HZ.out.cell 2
              have y3 := HY.out.cell 3
              have f3 := HY.out.frozen 3
              have z3 := HZ.out.cell 3
              have y4 := HY.out.cell 4
              have f4 := HY.out.frozen 4
              have z4 := HZ.out.cell 4
              have y5 := HY.out.cell 5
              have f5 := HY.out.frozen 5
              have z5 := HZ.out.cell 5
              have y6 := HY.out.cell 6
              have f6 := HY.out.frozen 6
              have z6 := HZ.out.cell 6
              have y7 := HY.out.cell 7
              have f7 := HY.out.frozen 7
              have z7 := HZ.out.cell 7
              have y8 := HY.out.cell 8
              have f8 := HY.out.frozen 8
              have z8 := HZ.out.cell 8
              have y9 := HY.out.cell 9
              have f9 := HY.out.frozen 9
              have z9 := HZ.out.cell 9
              have y10 := HY.out.cell 10
              have f10 := HY.out.frozen 10
              have z10 := HZ.out.cell 10
              go_wp2_with fail
              refine bodyPost_ret (results_st rfl _ rfl (HY.out.eleven _ _ _ _ _ _ _ _ _ _ _) Try.underlying66 rfl info66) rfl ?_
              have F2 := Fr.eleven d8 Y (.int .u8 1) (.slice pA p.length pc) (.int .i64 (a : Int)) (.slice none 0 0) (.int .u64 (i : Int)) (.bool f) (.string l) (.string ⟨#[]⟩) (.string ⟨#[]⟩) (.bool false) (.slice none 0 0)
              obtain ⟨rv2, hbx2, hrd2⟩ := HRa.out.box
              refine RdC.yes (x := ⟨1, p, (a : Int), [], (i : Int), f, l, ⟨#[]⟩, ⟨#[]⟩, false, []⟩) HS.out ?_ ⟨Fr.ext HRa.out.ext F2 (fun q hq => by rw [show q = Y from hq]; omega), HRa.out.hB, rv2, hbx2.fr F2 (fun hh => by have : B = Y := hh; omega), hrd2⟩ (Fr.new (((Fr.of_ext HE.out _).trans (HFa.out.mono fun q hq => .inl hq)).trans (F2.mono fun q hq => .inr (by rw [show q = Y from hq]; exact hw0))))
              have all := (HP.out.and ((show Late (fun k => k < w.heap.size ∨ k = Z ∨ k = Y) (fun W => RdI W [] (.slice none 0 0)) _ from Late.all fun W => RdS.nil_ _ _).and (show Late (fun k => k < w.heap.size ∨ k = Z ∨ k = Y) (fun W => RdP W [] (.slice none 0 0)) _ from Late.all fun W => ⟨none, 0, rfl, Nat.le_refl _, by decide, fun h => absurd h (Nat.lt_irrefl 0)⟩))).to (S' := old w.heap.size) F2 (fun q _ hh => hh.elim (fun h => .inr (.inr h)) .inl)
              exact all.imp fun W ⟨g1, g2, g3⟩ => ⟨_, _, _, rfl, g1, g2, g3, htl, (show (0 : Nat) ≤ maxLen by decide), (show (0 : Nat) ≤ maxLen by decide), ⟨Int.natCast_nonneg i, by show (i : Int) ≤ _; omega⟩, ⟨(by decide : (0 : Int) ≤ 1), (by decide : (1 : Int) ≤ 255)⟩⟩
    have tk1 : (kc == 1) = false := by rw [beq_eq_false_iff_ne]; exact hk1
    by_cases hk2 : kc = 2
    · subst hk2
      have HS : Hid (FIN = restP 2 p r) := Lib.hid (by rw [HS.out, show kb.toNat = 2 by have := HKC.out; omega])
      clear HKC hkb
      have HS : Hid (FIN = some (op0 2 p, r)) := HS
      go_upto_region 16 with fail
      clear k0
      have y0 := HY.out.cell 0
      have f0 := HY.out.frozen 0
      have z0 := HZ.out.cell 0
      have y1 := HY.out.cell 1
      have f1 := HY.out.frozen 1
      have z1 := HZ.out.cell 1
      have y2 := HY.out.cell 2
      have f2 := HY.out.frozen 2
      have z2 := HZ.out.cell 2
      have y3 := HY.out.cell 3
      have f3 := HY.out.frozen 3
      have z3 := HZ.out.cell 3
      have y4 := HY.out.cell 4
      have f4 := HY.out.frozen 4
      have z4 := HZ.out.cell 4
      have y5 := HY.out.cell 5
      have f5 := HY.out.frozen 5
      have z5 := HZ.out.cell 5
      have y6 := HY.out.cell 6
      have f6 := HY.out.frozen 6
      have z6 := HZ.out.cell 6
      have y7 := HY.out.cell 7
      have f7 := HY.out.frozen 7
      have z7 := HZ.out.cell 7
      have y8 := HY.out.cell 8
      have f8 := HY.out.frozen 8
      have z8 := HZ.out.cell 8
      have y9 := HY.out.cell 9
      have f9 := HY.out.frozen 9
      have z9 := HZ.out.cell 9
      have y10 := HY.out.cell 10
      have f10 := HY.out.frozen 10
      have z10 := HZ.out.cell 10
      go_wp2_with fail
      refine bodyPost_ret (results_st rfl _ rfl (HY.out.eleven _ _ _ _ _ _ _ _ _ _ _) Try.underlying66 rfl info66) rfl ?_
      have F2 := Fr.eleven wc Y (.int .u8 2) (.slice pA p.length pc) (.int .i64 0) (.slice none 0 0) (.int .u64 0) (.bool false) (.string ⟨#[]⟩) (.string ⟨#[]⟩) (.string ⟨#[]⟩) (.bool false) (.slice none 0 0)
      obtain ⟨rv2, hbx2, hrd2⟩ := HRa.out.box
      refine RdC.yes (x := ⟨2, p, 0, [], 0, false, ⟨#[]⟩, ⟨#[]⟩, ⟨#[]⟩, false, []⟩) HS.out ?_ ⟨Fr.ext HRa.out.ext F2 (fun q hq => by rw [show q = Y from hq]; omega), HRa.out.hB, rv2, hbx2.fr F2 (fun hh => by have : B = Y := hh; omega), hrd2⟩ (Fr.new (((Fr.of_ext HE.out _).trans (HFa.out.mono fun q hq => .inl hq)).trans (F2.mono fun q hq => .inr (by rw [show q = Y from hq]; exact hw0))))
      have all := (HP.out.and ((show Late (fun k => k < w.heap.size ∨ k = Z ∨ k = Y) (fun W => RdI W [] (.slice none 0 0)) _ from Late.all fun W => RdS.nil_ _ _).and (show Late (fun k => k < w.heap.size ∨ k = Z ∨ k = Y) (fun W => RdP W [] (.slice none 0 0)) _ from Late.all fun W => ⟨none, 0, rfl, Nat.le_refl _, by decide, fun h => absurd h (Nat.lt_irrefl 0)⟩))).to (S' := old w.heap.size) F2 (fun q _ hh => hh.elim (fun h => .inr (.inr h)) .inl)
      exact all.imp fun W ⟨g1, g2, g3⟩ => ⟨_, _, _, rfl, g1, g2, g3, (show (0 : Nat) ≤ maxLen by decide), (show (0 : Nat) ≤ maxLen by decide), (show (0 : Nat) ≤ maxLen by decide), ⟨(by decide : (0 : Int) ≤ 0), (by decide : (0 : Int) ≤ 18446744073709551615)⟩, ⟨(by decide : (0 : Int) ≤ 2), (by decide : (2 : Int) ≤ 255)⟩⟩
    have tk2 : (kc == 2) = false := by rw [beq_eq_false_iff_ne]; exact hk2
    by_cases hk3 : kc = 3
    · subst hk3
      have HS : Hid (FIN = restP 3 p r) := Lib.hid (by rw [HS.out, show kb.toNat = 3 by have := HKC.out; omega])
      clear HKC hkb
      go_upto_region 8 with fail
      clear k0
      have r0 := HRx.out.cell 0
      obtain ⟨d0, hc0⟩ : ∃ q, wc.drew = q := ⟨_, rfl⟩
      have hX0 : Ext wc d0 := by rw [← hc0]; exact (Ext.refl _).drew
      have hH : d0.cell? ⟨R, 0, none⟩ = some (.pointer (some ⟨B, 0, none⟩)) := hX0.cell r0
      have HZ' := Lib.hid (HZ.out.ext hX0)
      have HRa' := Lib.hid (HRa.out.more hX0)
      have HFa' := Lib.hid (HFa.out.trans (Fr.of_ext hX0 _))
      have HY' := Lib.hid (HY.out.ext hX0)
      have HP' := Lib.hid (HP.out.ext hX0)
      clear HZ
      have HZ := HZ'
      clear HZ'
      clear HRa
      have HRa := HRa'
      clear HRa'
      clear HFa
      have HFa := HFa'
      clear HFa'
      clear HY
      have HY := HY'
      clear HY'
      clear HP
      have HP := HP'
      clear HP'
      refine wp_region_held_drew (S := fun W => W.cell? ⟨R, 0, none⟩ = some (.pointer (some ⟨B, 0, none⟩))) (by kernel_rfl) (by rw [hc0]; exact hH) (fun hHeld => ?_)
      rw [hc0] at hHeld ⊢
      clear hc0 hH hX0 r0
      refine wpAnyH_take (i := 0) (oi := ⟨_, _, _, _, _, _⟩) (v := ?_) rfl (by kernel_rfl) (by kernel_rfl) (by kernel_rfl) (fun _ _ _ h => h) (Or.inl ⟨by rfl, ?_⟩) hHeld ?_
      rotate_left
      · intro w hSw
        try dsimp only at hSw
        go_simp
        all_goals (first | with_reducible rfl | rw [if_pos (by omega)])
      try simp only [Act.put, List.setIfInBounds_toArray, List.set_cons_zero, List.set_cons_succ]
      refine wpAnyH_take (i := 2) (oi := ⟨_, _, _, _, _, _⟩) (v := ?_) rfl (by kernel_rfl) (by kernel_rfl) (by kernel_rfl) (fun _ _ _ h => h) (Or.inl ⟨by rfl, ?_⟩) hHeld ?_
      rotate_left
      · intro w hSw
        try dsimp only at hSw
        go_simp
        all_goals (first | with_reducible rfl | rw [if_pos (by omega)])
      try simp only [Act.put, List.setIfInBounds_toArray, List.set_cons_zero, List.set_cons_succ]
      have HS : Hid (FIN = (pathP r).bind fun q => om2 p q.1 q.2) := HS
      have HSD := Lib.hid (show w.heap.size ≤ d0.heap.size from Nat.le_trans HE.out.size HFa.out.size)
      have HZD := Lib.hid HZ.out.lt
      have HYD := Lib.hid HY.out.lt
      refine wpAnyH_ready (rs := [1]) (by kernel_rfl) (by simp) ?_
      refine AllReadyH.cons (o := ⟨_, _, _, _, _, _⟩) rfl (fun K' hK => ?_) (AllReadyH.nil)
      have hc := rpath_any r w0 d0 B HRa.out
      obtain ⟨p, hp⟩ : ∃ p, pathP r = p := ⟨_, rfl⟩
      rw [hp] at hc HS
      clear hp
      go_simp
      go_at_call 53
      refine hc.mono ?_
      clear hc
      rintro e d1 ⟨hX, hF, hP⟩
      have HX := Lib.hid hX
      have HFb := Lib.hid (HFa.out.trans hF)
      have hC : d1.cell? ⟨R, 0, none⟩ = some (.pointer (some ⟨B, 0, none⟩)) := hF.cell hRB hHeld
      have HZ' := Lib.hid (HZ.out.fr hF (by show ¬ Z = B; omega))
      have HY' := Lib.hid (HY.out.fr hF (by show ¬ Y = B; omega))
      have HP' := Lib.hid (HP.out.to (S' := fun k => k < w.heap.size ∨ k = Z ∨ k = Y) hF (fun q _ hh => hh.elim (fun h => .inl (by rw [show q = B from h]; omega)) id))
      clear hX hF HFa HRa HZ HY HP
      have HZ := HZ'
      clear HZ'
      have HY := HY'
      clear HY'
      have HP := HP'
      clear HP'
      have HFa := HFb
      clear HFb
      cases p with
      | none =>
        subst hP
        go_wp2_with fail
        exact ⟨rfl, RdC.no HS.out HX.out ((Fr.of_ext HE.out _).trans HFa.out)⟩
      | some xr =>
        obtain ⟨q, r⟩ := xr
        obtain ⟨v, rfl, hv, hR⟩ := hP
        have HT := Lib.hid (row_late (Z := Z) (Y := Y) (n := 0) hv (lo := w.heap.size) HSD.out (HZ.out.not_own hv (by decide)) (HY.out.not_own hv (by decide)) rfl)
        obtain ⟨tA, tc, rfl, -⟩ := RdS.of_owns hv
        clear hv HSD HZD HYD
        have HRa := Lib.hid hR
        have HS : Hid (FIN = (smallP 1048577 r).bind fun a => some ((⟨3, p, (a.1 : Int), q, 0, false, ⟨#[]⟩, ⟨#[]⟩, ⟨#[]⟩, false, []⟩ : OpD), a.2)) := HS
        refine hK.out _ _ hC (fun hHeld => ?_)
        clear hK K' hC hR HX
        try simp only [Act.put, List.setIfInBounds_toArray, List.set_cons_zero, List.set_cons_succ]
        refine wpAnyH_take (i := 4) (oi := ⟨_, _, _, _, _, _⟩) (v := ?_) rfl (by kernel_rfl) (by kernel_rfl) (by kernel_rfl) (fun _ _ _ h => h) (Or.inl ⟨by rfl, ?_⟩) hHeld ?_
        rotate_left
        · intro w hSw
          try dsimp only at hSw
          go_simp
          all_goals (first | with_reducible rfl | rw [if_pos (by omega)])
        try simp only [Act.put, List.setIfInBounds_toArray, List.set_cons_zero, List.set_cons_succ]
        refine wpAnyH_ready (rs := [3]) (by kernel_rfl) (by simp) ?_
        refine AllReadyH.cons (o := ⟨_, _, _, _, _, _⟩) rfl (fun K' hK => ?_) (AllReadyH.nil)
        have hc := rsmall_any 1048577 (by decide) r w0 d1 B HRa.out
        obtain ⟨p, hp⟩ : ∃ p, smallP 1048577 r = p := ⟨_, rfl⟩
        rw [hp] at hc HS
        clear hp
        go_simp
        go_at_call 85
        refine hc.mono ?_
        clear hc
        rintro e d2 ⟨hX, hF, hP⟩
        have HX := Lib.hid hX
        have HFb := Lib.hid (HFa.out.trans hF)
        have hC : d2.cell? ⟨R, 0, none⟩ = some (.pointer (some ⟨B, 0, none⟩)) := hF.cell hRB hHeld
        have HZ' := Lib.hid (HZ.out.fr hF (by show ¬ Z = B; omega))
        have HY' := Lib.hid (HY.out.fr hF (by show ¬ Y = B; omega))
        have HP' := Lib.hid (HP.out.to (S' := fun k => k < w.heap.size ∨ k = Z ∨ k = Y) hF (fun q _ hh => hh.elim (fun h => .inl (by rw [show q = B from h]; omega)) id))
        have HT' := Lib.hid (HT.out.to (S' := fun k => k < w.heap.size ∨ k = Z ∨ k = Y) hF (fun q _ hh => hh.elim (fun h => .inl (by rw [show q = B from h]; omega)) id))
        clear hX hF HFa HRa HZ HY HP HT
        have HZ := HZ'
        clear HZ'
        have HY := HY'
        clear HY'
        have HP := HP'
        clear HP'
        have HT := HT'
        clear HT'
        have HFa := HFb
        clear HFb
        cases p with
        | none =>
          subst hP
          go_wp2_with fail
          exact ⟨rfl, RdC.no HS.out HX.out ((Fr.of_ext HE.out _).trans HFa.out)⟩
        | some xr =>
          obtain ⟨a, r⟩ := xr
          obtain ⟨v, rfl, hv, hR⟩ := hP
          unfold intV at hv
          subst hv
          have HRa := Lib.hid hR
          have HS : Hid (FIN = some ((⟨3, p, (a : Int), q, 0, false, ⟨#[]⟩, ⟨#[]⟩, ⟨#[]⟩, false, []⟩ : OpD), r)) := HS
          refine hK.out _ _ hC (fun hHeld => ?_)
          clear hK K' hC hR HX
          try simp only [Act.put, List.setIfInBounds_toArray, List.set_cons_zero, List.set_cons_succ]
          refine wpAnyH_ready (rs := [5]) (by kernel_rfl) (by simp) ?_
          refine AllReadyH.cons (o := ⟨_, _, _, _, _, _⟩) rfl (fun K' hK => ?_) (AllReadyH.nil)
          have y0 := HZ.out.cell 3
          have z0 := HZ.out.frozen 3
          obtain ⟨d3, hw⟩ : ∃ qq, d2.setCell ⟨Z, 3, none⟩ (.slice tA q.length tc) = qq := ⟨_, rfl⟩
          have F2 : Fr d2 d3 (isB Z) := by rw [← hw]; exact Fr.setCell _ _ _ _
          have HZ' := Lib.hid (show NBox d3 Z 66 #[.int .u8 3, .slice pA p.length pc, .int .i64 0, .slice tA q.length tc, .int .u64 0, .bool false, .string ⟨#[]⟩, .string ⟨#[]⟩, .string ⟨#[]⟩, .bool false, .slice none 0 0] from by rw [← hw]; exact HZ.out.set 3 _)
          have HRa' := Lib.hid (HRa.out.fr F2 (fun q hq => by rw [show q = Z from hq]; omega) (by show ¬ B = Z; omega))
          have HFa' : Hid (Fr w1 d3 (isB B)) := Lib.hid (Fr.new ((HFa.out.mono fun q hq => .inl hq).trans (F2.mono fun q hq => .inr (by rw [show q = Z from hq]; exact hZ0))))
          have HY' := Lib.hid (HY.out.fr F2 (by show ¬ Y = Z; omega))
          have HP' := Lib.hid (HP.out.to (S' := fun k => k < w.heap.size ∨ k = Z ∨ k = Y) F2 (fun q _ hh => hh.elim (fun h => .inr (.inl h)) id))
          have HT' := Lib.hid (HT.out.to (S' := fun k => k < w.heap.size ∨ k = Z ∨ k = Y) F2 (fun q _ hh => hh.elim (fun h => .inr (.inl h)) id))
          have hC : d3.cell? ⟨R, 0, none⟩ = some (.pointer (some ⟨B, 0, none⟩)) := F2.cell (by show ¬ R = Z; omega) hHeld
          have HW2 := Lib.hid hw
          clear hw F2
          clear HZ
          have HZ := HZ'
          clear HZ'
          clear HRa
          have HRa := HRa'
          clear HRa'
          clear HFa
          have HFa := HFa'
          clear HFa'
          clear HY
          have HY := HY'
          clear HY'
          clear HP
          have HP := HP'
          clear HP'
          clear HT
          have HT := HT'
          clear HT'
          go_simp
          rw [HW2.out]
          refine hK.out _ _ hC (fun hHeld => ?_)
          clear hK K' hC HW2 y0 z0
          try simp only [Act.put, List.setIfInBounds_toArray, List.set_cons_zero, List.set_cons_succ]
          refine wpAnyH_take (i := 6) (oi := ⟨_, _, _, _, _, _⟩) (v := ?_) rfl (by kernel_rfl) (by kernel_rfl) (by kernel_rfl) (fun _ _ _ h => h) (Or.inl ⟨by rfl, ?_⟩) hHeld ?_
          rotate_left
          · intro w hSw
            try dsimp only at hSw
            go_simp
            all_goals (first | with_reducible rfl | rw [if_pos (by omega)])
          try simp only [Act.put, List.setIfInBounds_toArray, List.set_cons_zero, List.set_cons_succ]
          refine wpAnyH_ready (rs := [7]) (by kernel_rfl) (by simp) ?_
          refine AllReadyH.cons (o := ⟨_, _, _, _, _, _⟩) rfl (fun K' hK => ?_) (AllReadyH.nil)
          have y0 := HZ.out.cell 2
          have z0 := HZ.out.frozen 2
          obtain ⟨d4, hw⟩ : ∃ qq, d3.setCell ⟨Z, 2, none⟩ (.int .i64 (a : Int)) = qq := ⟨_, rfl⟩
          have F2 : Fr d3 d4 (isB Z) := by rw [← hw]; exact Fr.setCell _ _ _ _
          have HZ' := Lib.hid (show NBox d4 Z 66 #[.int .u8 3, .slice pA p.length pc, .int .i64 (a : Int), .slice tA q.length tc, .int .u64 0, .bool false, .string ⟨#[]⟩, .string ⟨#[]⟩, .string ⟨#[]⟩, .bool false, .slice none 0 0] from by rw [← hw]; exact HZ.out.set 2 _)
          have HRa' := Lib.hid (HRa.out.fr F2 (fun q hq => by rw [show q = Z from hq]; omega) (by show ¬ B = Z; omega))
          have HFa' : Hid (Fr w1 d4 (isB B)) := Lib.hid (Fr.new ((HFa.out.mono fun q hq => .inl hq).trans (F2.mono fun q hq => .inr (by rw [show q = Z from hq]; exact hZ0))))
          have HY' := Lib.hid (HY.out.fr F2 (by show ¬ Y = Z; omega))
          have HP' := Lib.hid (HP.out.to (S' := fun k => k < w.heap.size ∨ k = Z ∨ k = Y) F2 (fun q _ hh => hh.elim (fun h => .inr (.inl h)) id))
          have HT' := Lib.hid (HT.out.to (S' := fun k => k < w.heap.size ∨ k = Z ∨ k = Y) F2 (fun q _ hh => hh.elim (fun h => .inr (.inl h)) id))
          have hC : d4.cell? ⟨R, 0, none⟩ = some (.pointer (some ⟨B, 0, none⟩)) := F2.cell (by show ¬ R = Z; omega) hHeld
          have HW2 := Lib.hid hw
          clear hw F2
          clear HZ
          have HZ := HZ'
          clear HZ'
          clear HRa
          have HRa := HRa'
          clear HRa'
          clear HFa
          have HFa := HFa'
          clear HFa'
          clear HY
          have HY := HY'
          clear HY'
          clear HP
          have HP := HP'
          clear HP'
          clear HT
          have HT := HT'
          clear HT'
          go_simp
          rw [HW2.out]
          refine hK.out _ _ hC (fun hHeld => ?_)
          clear hK K' hC HW2 y0 z0
          try simp only [Act.put, List.setIfInBounds_toArray, List.set_cons_zero, List.set_cons_succ]
          refine wpAnyH_done (by kernel_rfl) ?_ _
          clear hHeld
          go_upto_region 16 with fail
          have y0 := HY.out.cell 0
          have f0 := HY.out.frozen 0
          have z0 := HZ.out.cell 0
          have y1 := HY.out.cell 1
          have f1 := HY.out.frozen 1
          have z1 := HZ.out.cell 1
          have y2 := HY.out.cell 2
          have f2 := HY.out.frozen 2
          have z2 := HZ.out.cell 2
          have y3 := HY.out.cell 3
          have f3 := HY.out.frozen 3
          have z3 := HZ.out.cell 3
          have y4 := HY.out.cell 4
          have f4 := HY.out.frozen 4
          have z4 := HZ.out.cell 4
          have y5 := HY.out.cell 5
          have f5 := HY.out.frozen 5
          have z5 := HZ.out.cell 5
          have y6 := HY.out.cell 6
          have f6 := HY.out.frozen 6
          have z6 := HZ.out.cell 6
          have y7 := HY.out.cell 7
          have f7 := HY.out.frozen 7
          have z7 := HZ.out.cell 7
          have y8 := HY.out.cell 8
          have f8 := HY.out.frozen 8
          have z8 := HZ.out.cell 8
          have y9 := HY.out.cell 9
          have f9 := HY.out.frozen 9
          have z9 := HZ.out.cell 9
          have y10 := HY.out.cell 10
          have f10 := HY.out.frozen 10
          have z10 := HZ.out.cell 10
          go_wp2_with fail
          refine bodyPost_ret (results_st rfl _ rfl (HY.out.eleven _ _ _ _ _ _ _ _ _ _ _) Try.underlying66 rfl info66) rfl ?_
          have F2 := Fr.eleven d4 Y (.int .u8 3) (.slice pA p.length pc) (.int .i64 (a : Int)) (.slice tA q.length tc) (.int .u64 0) (.bool false) (.string ⟨#[]⟩) (.string ⟨#[]⟩) (.string ⟨#[]⟩) (.bool false) (.slice none 0 0)
          obtain ⟨rv2, hbx2, hrd2⟩ := HRa.out.box
          refine RdC.yes (x := ⟨3, p, (a : Int), q, 0, false, ⟨#[]⟩, ⟨#[]⟩, ⟨#[]⟩, false, []⟩) HS.out ?_ ⟨Fr.ext HRa.out.ext F2 (fun q hq => by rw [show q = Y from hq]; omega), HRa.out.hB, rv2, hbx2.fr F2 (fun hh => by have : B = Y := hh; omega), hrd2⟩ (Fr.new (((Fr.of_ext HE.out _).trans (HFa.out.mono fun q hq => .inl hq)).trans (F2.mono fun q hq => .inr (by rw [show q = Y from hq]; exact hw0))))
          have all := (HP.out.and (HT.out.and (show Late (fun k => k < w.heap.size ∨ k = Z ∨ k = Y) (fun W => RdP W [] (.slice none 0 0)) _ from Late.all fun W => ⟨none, 0, rfl, Nat.le_refl _, by decide, fun h => absurd h (Nat.lt_irrefl 0)⟩))).to (S' := old w.heap.size) F2 (fun q _ hh => hh.elim (fun h => .inr (.inr h)) .inl)
          exact all.imp fun W ⟨g1, g2, g3⟩ => ⟨_, _, _, rfl, g1, g2, g3, (show (0 : Nat) ≤ maxLen by decide), (show (0 : Nat) ≤ maxLen by decide), (show (0 : Nat) ≤ maxLen by decide), ⟨(by decide : (0 : Int) ≤ 0), (by decide : (0 : Int) ≤ 18446744073709551615)⟩, ⟨(by decide : (0 : Int) ≤ 3), (by decide : (3 : Int) ≤ 255)⟩⟩
    have tk3 : (kc == 3) = false := by rw [beq_eq_false_iff_ne]; exact hk3
    by_cases hk4 : kc = 4
    · subst hk4
      have HS : Hid (FIN = restP 4 p r) := Lib.hid (by rw [HS.out, show kb.toNat = 4 by have := HKC.out; omega])
      clear HKC hkb
      go_upto_region 10 with fail
      clear k0
      have r0 := HRx.out.cell 0
      obtain ⟨d0, hc0⟩ : ∃ q, wc.drew = q := ⟨_, rfl⟩
      have hX0 : Ext wc d0 := by rw [← hc0]; exact (Ext.refl _).drew
      have hH : d0.cell? ⟨R, 0, none⟩ = some (.pointer (some ⟨B, 0, none⟩)) := hX0.cell r0
      have HZ' := Lib.hid (HZ.out.ext hX0)
      have HRa' := Lib.hid (HRa.out.more hX0)
      have HFa' := Lib.hid (HFa.out.trans (Fr.of_ext hX0 _))
      have HY' := Lib.hid (HY.out.ext hX0)
      have HP' := Lib.hid (HP.out.ext hX0)
      clear HZ
      have HZ := HZ'
      clear HZ'
      clear HRa
      have HRa := HRa'
      clear HRa'
      clear HFa
      have HFa := HFa'
      clear HFa'
      clear HY
      have HY := HY'
      clear HY'
      clear HP
      have HP := HP'
      clear HP'
      refine wp_region_held_drew (S := fun W => W.cell? ⟨R, 0, none⟩ = some (.pointer (some ⟨B, 0, none⟩))) (by kernel_rfl) (by rw [hc0]; exact hH) (fun hHeld => ?_)
      rw [hc0] at hHeld ⊢
      clear hc0 hH hX0 r0
      refine wpAnyH_take (i := 0) (oi := ⟨_, _, _, _, _, _⟩) (v := ?_) rfl (by kernel_rfl) (by kernel_rfl) (by kernel_rfl) (fun _ _ _ h => h) (Or.inl ⟨by rfl, ?_⟩) hHeld ?_
      rotate_left
      · intro w hSw
        try dsimp only at hSw
        go_simp
        all_goals (first | with_reducible rfl | rw [if_pos (by omega)])
      try simp only [Act.put, List.setIfInBounds_toArray, List.set_cons_zero, List.set_cons_succ]
      refine wpAnyH_take (i := 2) (oi := ⟨_, _, _, _, _, _⟩) (v := ?_) rfl (by kernel_rfl) (by kernel_rfl) (by kernel_rfl) (fun _ _ _ h => h) (Or.inl ⟨by rfl, ?_⟩) hHeld ?_
      rotate_left
      · intro w hSw
        try dsimp only at hSw
        go_simp
        all_goals (first | with_reducible rfl | rw [if_pos (by omega)])
      try simp only [Act.put, List.setIfInBounds_toArray, List.set_cons_zero, List.set_cons_succ]
      refine wpAnyH_take (i := 4) (oi := ⟨_, _, _, _, _, _⟩) (v := ?_) rfl (by kernel_rfl) (by kernel_rfl) (by kernel_rfl) (fun _ _ _ h => h) (Or.inl ⟨by rfl, ?_⟩) hHeld ?_
      rotate_left
      · intro w hSw
        try dsimp only at hSw
        go_simp
        all_goals (first | with_reducible rfl | rw [if_pos (by omega)])
      try simp only [Act.put, List.setIfInBounds_toArray, List.set_cons_zero, List.set_cons_succ]
      have HS : Hid (FIN = (textP 64 r).bind fun q => os2 p q.1 q.2) := HS
      refine wpAnyH_ready (rs := [1]) (by kernel_rfl) (by simp) ?_
      refine AllReadyH.cons (o := ⟨_, _, _, _, _, _⟩) rfl (fun K' hK => ?_) (AllReadyH.nil)
      have hc := rtext_any 64 (by decide) r w0 d0 B HRa.out
      obtain ⟨p, hp⟩ : ∃ p, textP 64 r = p := ⟨_, rfl⟩
      rw [hp] at hc HS
      clear hp
      go_simp
      go_at_call 89
      refine hc.mono ?_
      clear hc
      rintro e d1 ⟨hX, hF, hP⟩
      have HX := Lib.hid hX
      have HFb := Lib.hid (HFa.out.trans hF)
      have hC : d1.cell? ⟨R, 0, none⟩ = some (.pointer (some ⟨B, 0, none⟩)) := hF.cell hRB hHeld
      have HZ' := Lib.hid (HZ.out.fr hF (by show ¬ Z = B; omega))
      have HY' := Lib.hid (HY.out.fr hF (by show ¬ Y = B; omega))
      have HP' := Lib.hid (HP.out.to (S' := fun k => k < w.heap.size ∨ k = Z ∨ k = Y) hF (fun q _ hh => hh.elim (fun h => .inl (by rw [show q = B from h]; omega)) id))
      clear hX hF HFa HRa HZ HY HP
      have HZ := HZ'
      clear HZ'
      have HY := HY'
      clear HY'
      have HP := HP'
      clear HP'
      have HFa := HFb
      clear HFb
      cases p with
      | none =>
        subst hP
        go_wp2_with fail
        exact ⟨rfl, RdC.no HS.out HX.out ((Fr.of_ext HE.out _).trans HFa.out)⟩
      | some xr =>
        obtain ⟨l, r⟩ := xr
        obtain ⟨v, rfl, hv, hR⟩ := hP
        obtain ⟨rfl, htl⟩ := hv
        have HRa := Lib.hid hR
        have HS : Hid (FIN = (flagP r).bind fun q => os3 p l q.1 q.2) := HS
        refine hK.out _ _ hC (fun hHeld => ?_)
        clear hK K' hC hR HX
        try simp only [Act.put, List.setIfInBounds_toArray, List.set_cons_zero, List.set_cons_succ]
        refine wpAnyH_take (i := 6) (oi := ⟨_, _, _, _, _, _⟩) (v := ?_) rfl (by kernel_rfl) (by kernel_rfl) (by kernel_rfl) (fun _ _ _ h => h) (Or.inl ⟨by rfl, ?_⟩) hHeld ?_
        rotate_left
        · intro w hSw
          try dsimp only at hSw
          go_simp
          all_goals (first | with_reducible rfl | rw [if_pos (by omega)])
        try simp only [Act.put, List.setIfInBounds_toArray, List.set_cons_zero, List.set_cons_succ]
        refine wpAnyH_ready (rs := [3]) (by kernel_rfl) (by simp) ?_
        refine AllReadyH.cons (o := ⟨_, _, _, _, _, _⟩) rfl (fun K' hK => ?_) (AllReadyH.nil)
        have hc := rflag_any r w0 d1 B HRa.out
        obtain ⟨p, hp⟩ : ∃ p, flagP r = p := ⟨_, rfl⟩
        rw [hp] at hc HS
        clear hp
        go_simp
        go_at_call 88
        refine hc.mono ?_
        clear hc
        rintro e d2 ⟨hX, hF, hP⟩
        have HX := Lib.hid hX
        have HFb := Lib.hid (HFa.out.trans hF)
        have hC : d2.cell? ⟨R, 0, none⟩ = some (.pointer (some ⟨B, 0, none⟩)) := hF.cell hRB hHeld
        have HZ' := Lib.hid (HZ.out.fr hF (by show ¬ Z = B; omega))
        have HY' := Lib.hid (HY.out.fr hF (by show ¬ Y = B; omega))
        have HP' := Lib.hid (HP.out.to (S' := fun k => k < w.heap.size ∨ k = Z ∨ k = Y) hF (fun q _ hh => hh.elim (fun h => .inl (by rw [show q = B from h]; omega)) id))
        clear hX hF HFa HRa HZ HY HP
        have HZ := HZ'
        clear HZ'
        have HY := HY'
        clear HY'
        have HP := HP'
        clear HP'
        have HFa := HFb
        clear HFb
        cases p with
        | none =>
          subst hP
          go_wp2_with fail
          exact ⟨rfl, RdC.no HS.out HX.out ((Fr.of_ext HE.out _).trans HFa.out)⟩
        | some xr =>
          obtain ⟨g, r⟩ := xr
          obtain ⟨v, rfl, hv, hR⟩ := hP
          unfold boolV at hv
          subst hv
          have HRa := Lib.hid hR
          have HS : Hid (FIN = (textP 256 r).bind fun q => os4 p l g q.1 q.2) := HS
          refine hK.out _ _ hC (fun hHeld => ?_)
          clear hK K' hC hR HX
          try simp only [Act.put, List.setIfInBounds_toArray, List.set_cons_zero, List.set_cons_succ]
          refine wpAnyH_ready (rs := [5]) (by kernel_rfl) (by simp) ?_
          refine AllReadyH.cons (o := ⟨_, _, _, _, _, _⟩) rfl (fun K' hK => ?_) (AllReadyH.nil)
          have hc := rtext_any 256 (by decide) r w0 d2 B HRa.out
          obtain ⟨p, hp⟩ : ∃ p, textP 256 r = p := ⟨_, rfl⟩
          rw [hp] at hc HS
          clear hp
          go_simp
          go_at_call 89
          refine hc.mono ?_
          clear hc
          rintro e d3 ⟨hX, hF, hP⟩
          have HX := Lib.hid hX
          have HFb := Lib.hid (HFa.out.trans hF)
          have hC : d3.cell? ⟨R, 0, none⟩ = some (.pointer (some ⟨B, 0, none⟩)) := hF.cell hRB hHeld
          have HZ' := Lib.hid (HZ.out.fr hF (by show ¬ Z = B; omega))
          have HY' := Lib.hid (HY.out.fr hF (by show ¬ Y = B; omega))
          have HP' := Lib.hid (HP.out.to (S' := fun k => k < w.heap.size ∨ k = Z ∨ k = Y) hF (fun q _ hh => hh.elim (fun h => .inl (by rw [show q = B from h]; omega)) id))
          clear hX hF HFa HRa HZ HY HP
          have HZ := HZ'
          clear HZ'
          have HY := HY'
          clear HY'
          have HP := HP'
          clear HP'
          have HFa := HFb
          clear HFb
          cases p with
          | none =>
            subst hP
            go_wp2_with fail
            exact ⟨rfl, RdC.no HS.out HX.out ((Fr.of_ext HE.out _).trans HFa.out)⟩
          | some xr =>
            obtain ⟨u, r⟩ := xr
            obtain ⟨v, rfl, hv, hR⟩ := hP
            obtain ⟨rfl, hul⟩ := hv
            have HRa := Lib.hid hR
            have HS : Hid (FIN = os4 p l g u r) := HS
            refine hK.out _ _ hC (fun hHeld => ?_)
            clear hK K' hC hR HX
            try simp only [Act.put, List.setIfInBounds_toArray, List.set_cons_zero, List.set_cons_succ]
            refine wpAnyH_ready (rs := [7]) (by kernel_rfl) (by simp) ?_
            refine AllReadyH.cons (o := ⟨_, _, _, _, _, _⟩) rfl (fun K' hK => ?_) (AllReadyH.nil)
            have y0 := HZ.out.cell 7
            have z0 := HZ.out.frozen 7
            obtain ⟨d4, hw⟩ : ∃ qq, d3.setCell ⟨Z, 7, none⟩ (.string l) = qq := ⟨_, rfl⟩
            have F2 : Fr d3 d4 (isB Z) := by rw [← hw]; exact Fr.setCell _ _ _ _
            have HZ' := Lib.hid (show NBox d4 Z 66 #[.int .u8 4, .slice pA p.length pc, .int .i64 0, .slice none 0 0, .int .u64 0, .bool false, .string ⟨#[]⟩, .string l, .string ⟨#[]⟩, .bool false, .slice none 0 0] from by rw [← hw]; exact HZ.out.set 7 _)
            have HRa' := Lib.hid (HRa.out.fr F2 (fun q hq => by rw [show q = Z from hq]; omega) (by show ¬ B = Z; omega))
            have HFa' : Hid (Fr w1 d4 (isB B)) := Lib.hid (Fr.new ((HFa.out.mono fun q hq => .inl hq).trans (F2.mono fun q hq => .inr (by rw [show q = Z from hq]; exact hZ0))))
            have HY' := Lib.hid (HY.out.fr F2 (by show ¬ Y = Z; omega))
            have HP' := Lib.hid (HP.out.to (S' := fun k => k < w.heap.size ∨ k = Z ∨ k = Y) F2 (fun q _ hh => hh.elim (fun h => .inr (.inl h)) id))
            have hC : d4.cell? ⟨R, 0, none⟩ = some (.pointer (some ⟨B, 0, none⟩)) := F2.cell (by show ¬ R = Z; omega) hHeld
            have HW2 := Lib.hid hw
            clear hw F2
            clear HZ
            have HZ := HZ'
            clear HZ'
            clear HRa
            have HRa := HRa'
            clear HRa'
            clear HFa
            have HFa := HFa'
            clear HFa'
            clear HY
            have HY := HY'
            clear HY'
            clear HP
            have HP := HP'
            clear HP'
            go_simp
            rw [HW2.out]
            refine hK.out _ _ hC (fun hHeld => ?_)
            clear hK K' hC HW2 y0 z0
            try simp only [Act.put, List.setIfInBounds_toArray, List.set_cons_zero, List.set_cons_succ]
            refine wpAnyH_take (i := 8) (oi := ⟨_, _, _, _, _, _⟩) (v := ?_) rfl (by kernel_rfl) (by kernel_rfl) (by kernel_rfl) (fun _ _ _ h => h) (Or.inl ⟨by rfl, ?_⟩) hHeld ?_
            rotate_left
            · intro w hSw
              try dsimp only at hSw
              go_simp
              all_goals (first | with_reducible rfl | rw [if_pos (by omega)])
            try simp only [Act.put, List.setIfInBounds_toArray, List.set_cons_zero, List.set_cons_succ]
            refine wpAnyH_ready (rs := [9]) (by kernel_rfl) (by simp) ?_
            refine AllReadyH.cons (o := ⟨_, _, _, _, _, _⟩) rfl (fun K' hK => ?_) (AllReadyH.nil)
            have y0 := HZ.out.cell 9
            have z0 := HZ.out.frozen 9
            obtain ⟨d5, hw⟩ : ∃ qq, d4.setCell ⟨Z, 9, none⟩ (.bool g) = qq := ⟨_, rfl⟩
            have F2 : Fr d4 d5 (isB Z) := by rw [← hw]; exact Fr.setCell _ _ _ _
            have HZ' := Lib.hid (show NBox d5 Z 66 #[.int .u8 4, .slice pA p.length pc, .int .i64 0, .slice none 0 0, .int .u64 0, .bool false, .string ⟨#[]⟩, .string l, .string ⟨#[]⟩, .bool g, .slice none 0 0] from by rw [← hw]; exact HZ.out.set 9 _)
            have HRa' := Lib.hid (HRa.out.fr F2 (fun q hq => by rw [show q = Z from hq]; omega) (by show ¬ B = Z; omega))
            have HFa' : Hid (Fr w1 d5 (isB B)) := Lib.hid (Fr.new ((HFa.out.mono fun q hq => .inl hq).trans (F2.mono fun q hq => .inr (by rw [show q = Z from hq]; exact hZ0))))
            have HY' := Lib.hid (HY.out.fr F2 (by show ¬ Y = Z; omega))
            have HP' := Lib.hid (HP.out.to (S' := fun k => k < w.heap.size ∨ k = Z ∨ k = Y) F2 (fun q _ hh => hh.elim (fun h => .inr (.inl h)) id))
            have hC : d5.cell? ⟨R, 0, none⟩ = some (.pointer (some ⟨B, 0, none⟩)) := F2.cell (by show ¬ R = Z; omega) hHeld
            have HW2 := Lib.hid hw
            clear hw F2
            clear HZ
            have HZ := HZ'
            clear HZ'
            clear HRa
            have HRa := HRa'
            clear HRa'
            clear HFa
            have HFa := HFa'
            clear HFa'
            clear HY
            have HY := HY'
            clear HY'
            clear HP
            have HP := HP'
            clear HP'
            go_simp
            rw [HW2.out]
            refine hK.out _ _ hC (fun hHeld => ?_)
            clear hK K' hC HW2 y0 z0
            try simp only [Act.put, List.setIfInBounds_toArray, List.set_cons_zero, List.set_cons_succ]
            refine wpAnyH_take (i := 10) (oi := ⟨_, _, _, _, _, _⟩) (v := ?_) rfl (by kernel_rfl) (by kernel_rfl) (by kernel_rfl) (fun _ _ _ h => h) (Or.inl ⟨by rfl, ?_⟩) hHeld ?_
            rotate_left
            · intro w hSw
              try dsimp only at hSw
              go_simp
              all_goals (first | with_reducible rfl | rw [if_pos (by omega)])
            try simp only [Act.put, List.setIfInBounds_toArray, List.set_cons_zero, List.set_cons_succ]
            refine wpAnyH_ready (rs := [11]) (by kernel_rfl) (by simp) ?_
            refine AllReadyH.cons (o := ⟨_, _, _, _, _, _⟩) rfl (fun K' hK => ?_) (AllReadyH.nil)
            have y0 := HZ.out.cell 8
            have z0 := HZ.out.frozen 8
            obtain ⟨d6, hw⟩ : ∃ qq, d5.setCell ⟨Z, 8, none⟩ (.string u) = qq := ⟨_, rfl⟩
            have F2 : Fr d5 d6 (isB Z) := by rw [← hw]; exact Fr.setCell _ _ _ _
            have HZ' := Lib.hid (show NBox d6 Z 66 #[.int .u8 4, .slice pA p.length pc, .int .i64 0, .slice none 0 0, .int .u64 0, .bool false, .string ⟨#[]⟩, .string l, .string u, .bool g, .slice none 0 0] from by rw [← hw]; exact HZ.out.set 8 _)
            have HRa' := Lib.hid (HRa.out.fr F2 (fun q hq => by rw [show q = Z from hq]; omega) (by show ¬ B = Z; omega))
            have HFa' : Hid (Fr w1 d6 (isB B)) := Lib.hid (Fr.new ((HFa.out.mono fun q hq => .inl hq).trans (F2.mono fun q hq => .inr (by rw [show q = Z from hq]; exact hZ0))))
            have HY' := Lib.hid (HY.out.fr F2 (by show ¬ Y = Z; omega))
            have HP' := Lib.hid (HP.out.to (S' := fun k => k < w.heap.size ∨ k = Z ∨ k = Y) F2 (fun q _ hh => hh.elim (fun h => .inr (.inl h)) id))
            have hC : d6.cell? ⟨R, 0, none⟩ = some (.pointer (some ⟨B, 0, none⟩)) := F2.cell (by show ¬ R = Z; omega) hHeld
            have HW2 := Lib.hid hw
            clear hw F2
            clear HZ
            have HZ := HZ'
            clear HZ'
            clear HRa
            have HRa := HRa'
            clear HRa'
            clear HFa
            have HFa := HFa'
            clear HFa'
            clear HY
            have HY := HY'
            clear HY'
            clear HP
            have HP := HP'
            clear HP'
            go_simp
            rw [HW2.out]
            refine hK.out _ _ hC (fun hHeld => ?_)
            clear hK K' hC HW2 y0 z0
            try simp only [Act.put, List.setIfInBounds_toArray, List.set_cons_zero, List.set_cons_succ]
            refine wpAnyH_done (by kernel_rfl) ?_ _
            clear hHeld
            go_upto_region 11 with fail
            have k9 := HZ.out.cell 9
            have k8 := HZ.out.cell 8
            cases g with
            | false =>
              have HS : Hid (FIN = some ((⟨4, p, 0, [], 0, false, ⟨#[]⟩, l, u, false, []⟩ : OpD), r)) := HS
              have hwant := want_yes d6
              go_wp2_with fail
              refine hwant.mono ?_
              clear hwant
              rintro e w7 ⟨he, rfl⟩
              obtain rfl : e = .returned (.tuple #[]) := he
              go_upto_region 16 with fail
              clear k9 k8
              have y0 := HY.out.cell 0
              have f0 := HY.out.frozen 0
              have z0 := HZ.out.cell 0
              have y1 := HY.out.cell 1
              have f1 := HY.out.frozen 1
              have z1 := HZ.out.cell 1
              have y2 := HY.out.cell 2
              have f2 := HY.out.frozen 2
              have z2 := HZ.out.cell 2
              have y3 := HY.out.cell 3
              have f3 := HY.out.frozen 3
              have z3 := HZ.out.cell 3
              have y4 := HY.out.cell 4
              have f4 := HY.out.frozen 4
              have z4 := HZ.out.cell 4
              have y5 := HY.out.cell 5
              have f5 := HY.out.frozen 5
              have z5 := HZ.out.cell 5
              have y6 := HY.out.cell 6
              have f6 := HY.out.frozen 6
              have z6 := HZ.out.cell 6
              have y7 := HY.out.cell 7
              have f7 := HY.out.frozen 7
              have z7 := HZ.out.cell 7
              have y8 := HY.out.cell 8
              have f8 := HY.out.frozen 8
              have z8 := HZ.out.cell 8
              have y9 := HY.out.cell 9
              have f9 := HY.out.frozen 9
              have z9 := HZ.out.cell 9
              have y10 := HY.out.cell 10
              have f10 := HY.out.frozen 10
              have z10 := HZ.out.cell 10
              go_wp2_with fail
              refine bodyPost_ret (results_st rfl _ rfl (HY.out.eleven _ _ _ _ _ _ _ _ _ _ _) Try.underlying66 rfl info66) rfl ?_
              have F2 := Fr.eleven d6 Y (.int .u8 4) (.slice pA p.length pc) (.int .i64 0) (.slice none 0 0) (.int .u64 0) (.bool false) (.string ⟨#[]⟩) (.string l) (.string u) (.bool false) (.slice none 0 0)
              obtain ⟨rv2, hbx2, hrd2⟩ := HRa.out.box
              refine RdC.yes (x := ⟨4, p, 0, [], 0, false, ⟨#[]⟩, l, u, false, []⟩) HS.out ?_ ⟨Fr.ext HRa.out.ext F2 (fun q hq => by rw [show q = Y from hq]; omega), HRa.out.hB, rv2, hbx2.fr F2 (fun hh => by have : B = Y := hh; omega), hrd2⟩ (Fr.new (((Fr.of_ext HE.out _).trans (HFa.out.mono fun q hq => .inl hq)).trans (F2.mono fun q hq => .inr (by rw [show q = Y from hq]; exact hw0))))
              have all := (HP.out.and ((show Late (fun k => k < w.heap.size ∨ k = Z ∨ k = Y) (fun W => RdI W [] (.slice none 0 0)) _ from Late.all fun W => RdS.nil_ _ _).and (show Late (fun k => k < w.heap.size ∨ k = Z ∨ k = Y) (fun W => RdP W [] (.slice none 0 0)) _ from Late.all fun W => ⟨none, 0, rfl, Nat.le_refl _, by decide, fun h => absurd h (Nat.lt_irrefl 0)⟩))).to (S' := old w.heap.size) F2 (fun q _ hh => hh.elim (fun h => .inr (.inr h)) .inl)
              exact all.imp fun W ⟨g1, g2, g3⟩ => ⟨_, _, _, rfl, g1, g2, g3, (show (0 : Nat) ≤ maxLen by decide), htl, hul, ⟨(by decide : (0 : Int) ≤ 0), (by decide : (0 : Int) ≤ 18446744073709551615)⟩, ⟨(by decide : (0 : Int) ≤ 4), (by decide : (4 : Int) ≤ 255)⟩⟩
            | true =>
              by_cases hsz : u.size = 0
              · have hem : u.toList.isEmpty = true := by rw [bytes_empty]; exact decide_eq_true hsz
                have HS : Hid (FIN = some ((⟨4, p, 0, [], 0, false, ⟨#[]⟩, l, u, true, []⟩ : OpD), r)) := Lib.hid (HS.out.trans (if_pos (by rw [hsz]; rfl)))
                have hwant := want_yes d6
                go_wp2_with fail
                refine hwant.mono ?_
                clear hwant
                rintro e w7 ⟨he, rfl⟩
                obtain rfl : e = .returned (.tuple #[]) := he
                go_upto_region 16 with fail
                clear k9 k8
                have y0 := HY.out.cell 0
                have f0 := HY.out.frozen 0
                have z0 := HZ.out.cell 0
                have y1 := HY.out.cell 1
                have f1 := HY.out.frozen 1
                have z1 := HZ.out.cell 1
                have y2 := HY.out.cell 2
                have f2 := HY.out.frozen 2
                have z2 := HZ.out.cell 2
                have y3 := HY.out.cell 3
                have f3 := HY.out.frozen 3
                have z3 := HZ.out.cell 3
                have y4 := HY.out.cell 4
                have f4 := HY.out.frozen 4
                have z4 := HZ.out.cell 4
                have y5 := HY.out.cell 5
                have f5 := HY.out.frozen 5
                have z5 := HZ.out.cell 5
                have y6 := HY.out.cell 6
                have f6 := HY.out.frozen 6
                have z6 := HZ.out.cell 6
                have y7 := HY.out.cell 7
                have f7 := HY.out.frozen 7
                have z7 := HZ.out.cell 7
                have y8 := HY.out.cell 8
                have f8 := HY.out.frozen 8
                have z8 := HZ.out.cell 8
                have y9 := HY.out.cell 9
                have f9 := HY.out.frozen 9
                have z9 := HZ.out.cell 9
                have y10 := HY.out.cell 10
                have f10 := HY.out.frozen 10
                have z10 := HZ.out.cell 10
                go_wp2_with fail
                refine bodyPost_ret (results_st rfl _ rfl (HY.out.eleven _ _ _ _ _ _ _ _ _ _ _) Try.underlying66 rfl info66) rfl ?_
                have F2 := Fr.eleven d6 Y (.int .u8 4) (.slice pA p.length pc) (.int .i64 0) (.slice none 0 0) (.int .u64 0) (.bool false) (.string ⟨#[]⟩) (.string l) (.string u) (.bool true) (.slice none 0 0)
                obtain ⟨rv2, hbx2, hrd2⟩ := HRa.out.box
                refine RdC.yes (x := ⟨4, p, 0, [], 0, false, ⟨#[]⟩, l, u, true, []⟩) HS.out ?_ ⟨Fr.ext HRa.out.ext F2 (fun q hq => by rw [show q = Y from hq]; omega), HRa.out.hB, rv2, hbx2.fr F2 (fun hh => by have : B = Y := hh; omega), hrd2⟩ (Fr.new (((Fr.of_ext HE.out _).trans (HFa.out.mono fun q hq => .inl hq)).trans (F2.mono fun q hq => .inr (by rw [show q = Y from hq]; exact hw0))))
                have all := (HP.out.and ((show Late (fun k => k < w.heap.size ∨ k = Z ∨ k = Y) (fun W => RdI W [] (.slice none 0 0)) _ from Late.all fun W => RdS.nil_ _ _).and (show Late (fun k => k < w.heap.size ∨ k = Z ∨ k = Y) (fun W => RdP W [] (.slice none 0 0)) _ from Late.all fun W => ⟨none, 0, rfl, Nat.le_refl _, by decide, fun h => absurd h (Nat.lt_irrefl 0)⟩))).to (S' := old w.heap.size) F2 (fun q _ hh => hh.elim (fun h => .inr (.inr h)) .inl)
                exact all.imp fun W ⟨g1, g2, g3⟩ => ⟨_, _, _, rfl, g1, g2, g3, (show (0 : Nat) ≤ maxLen by decide), htl, hul, ⟨(by decide : (0 : Int) ≤ 0), (by decide : (0 : Int) ≤ 18446744073709551615)⟩, ⟨(by decide : (0 : Int) ≤ 4), (by decide : (4 : Int) ≤ 255)⟩⟩
              · have hem : u.toList.isEmpty = false := by rw [bytes_empty]; exact decide_eq_false hsz
                have HS : Hid (FIN = none) := Lib.hid (HS.out.trans (if_neg (by simp; exact fun hh => hsz (by rw [hh]; rfl))))
                have hwant := want_no d6
                go_wp2_with fail
                refine hwant.mono ?_
                rintro e w7 ⟨rfl, rfl⟩
                go_wp2_with fail
                exact ⟨rfl, RdC.no HS.out HRa.out.ext ((Fr.of_ext HE.out _).trans HFa.out)⟩
    have tk4 : (kc == 4) = false := by rw [beq_eq_false_iff_ne]; exact hk4
    by_cases hk5 : kc = 5
    · subst hk5
      have HS : Hid (FIN = restP 5 p r) := Lib.hid (by rw [HS.out, show kb.toNat = 5 by have := HKC.out; omega])
      clear HKC hkb
      have HS : Hid (FIN = (textP 64 r).bind fun q => some ((⟨5, p, 0, [], 0, false, q.1, ⟨#[]⟩, ⟨#[]⟩, false, []⟩ : OpD), q.2)) := HS
      have hc := rtext_any 64 (by decide) r w0 wc B HRa.out
      obtain ⟨pp, hp⟩ : ∃ pp, textP 64 r = pp := ⟨_, rfl⟩
      rw [hp] at hc HS
      clear hp
      have r0 := HRx.out.cell 0
      go_wp2_with fail
      refine hc.mono ?_
      clear hc r0 k0
      rintro e d1 ⟨hX, hF, hQ⟩
      cases pp with
      | none =>
        subst hQ
        have HX := Lib.hid hX
        have HF := Lib.hid (HFa.out.trans hF)
        clear hX hF
        go_wp2_with fail
        exact ⟨rfl, RdC.no HS.out HX.out ((Fr.of_ext HE.out _).trans HF.out)⟩
      | some xr =>
        obtain ⟨l, r⟩ := xr
        obtain ⟨v, rfl, hv, hR⟩ := hQ
        have HZ' := Lib.hid (HZ.out.fr hF (by show ¬ Z = B; omega))
        clear HZ
        have HZ := HZ'
        clear HZ'
        have HY' := Lib.hid (HY.out.fr hF (by show ¬ Y = B; omega))
        clear HY
        have HY := HY'
        clear HY'
        have HP' := Lib.hid (HP.out.to (S' := fun k => k < w.heap.size ∨ k = Z ∨ k = Y) hF (fun q _ hh => hh.elim (fun h => .inl (by rw [show q = B from h]; omega)) id))
        clear HP
        have HP := HP'
        clear HP'
        obtain ⟨rfl, htl⟩ := hv
        have HFb := Lib.hid (HFa.out.trans hF)
        clear HRa HFa hF hX
        have HRa := Lib.hid hR
        have HFa := HFb
        clear HFb hR
        have HS : Hid (FIN = some ((⟨5, p, 0, [], 0, false, l, ⟨#[]⟩, ⟨#[]⟩, false, []⟩ : OpD), r)) := HS
        have y0 := HZ.out.cell 6
        have z0 := HZ.out.frozen 6
        obtain ⟨d2, hw⟩ : ∃ qq, d1.setCell ⟨Z, 6, none⟩ (.string l) = qq := ⟨_, rfl⟩
        have F2 : Fr d1 d2 (isB Z) := by rw [← hw]; exact Fr.setCell _ _ _ _
        have HZ' := Lib.hid (show NBox d2 Z 66 #[.int .u8 5, .slice pA p.length pc, .int .i64 0, .slice none 0 0, .int .u64 0, .bool false, .string l, .string ⟨#[]⟩, .string ⟨#[]⟩, .bool false, .slice none 0 0] from by rw [← hw]; exact HZ.out.set 6 _)
        have HRa' := Lib.hid (HRa.out.fr F2 (fun q hq => by rw [show q = Z from hq]; omega) (by show ¬ B = Z; omega))
        have HFa' : Hid (Fr w1 d2 (isB B)) := Lib.hid (Fr.new ((HFa.out.mono fun q hq => .inl hq).trans (F2.mono fun q hq => .inr (by rw [show q = Z from hq]; exact hZ0))))
        have HY' := Lib.hid (HY.out.fr F2 (by show ¬ Y = Z; omega))
        have HP' := Lib.hid (HP.out.to (S' := fun k => k < w.heap.size ∨ k = Z ∨ k = Y) F2 (fun q _ hh => hh.elim (fun h => .inr (.inl h)) id))
        have HW2 := Lib.hid hw
        clear hw F2
        clear HZ
        have HZ := HZ'
        clear HZ'
        clear HRa
        have HRa := HRa'
        clear HRa'
        clear HFa
        have HFa := HFa'
        clear HFa'
        clear HY
        have HY := HY'
        clear HY'
        clear HP
        have HP := HP'
        clear HP'
        go_upto_region 16 with fail
        rw [HW2.out]
        clear HW2 y0 z0
        have y0 := HY.out.cell 0
        have f0 := HY.out.frozen 0
        have z0 := HZ.out.cell 0
        have y1 := HY.out.cell 1
        have f1 := HY.out.frozen 1
        have z1 := HZ.out.cell 1
        have y2 := HY.out.cell 2
        have f2 := HY.out.frozen 2
        have z2 := HZ.out.cell 2
        have y3 := HY.out.cell 3
        have f3 := HY.out.frozen 3
        have z3 := HZ.out.cell 3
        have y4 := HY.out.cell 4
        have f4 := HY.out.frozen 4
        have z4 := HZ.out.cell 4
        have y5 := HY.out.cell 5
        have f5 := HY.out.frozen 5
        have z5 := HZ.out.cell 5
        have y6 := HY.out.cell 6
        have f6 := HY.out.frozen 6
        have z6 := HZ.out.cell 6
        have y7 := HY.out.cell 7
        have f7 := HY.out.frozen 7
        have z7 := HZ.out.cell 7
        have y8 := HY.out.cell 8
        have f8 := HY.out.frozen 8
        have z8 := HZ.out.cell 8
        have y9 := HY.out.cell 9
        have f9 := HY.out.frozen 9
        have z9 := HZ.out.cell 9
        have y10 := HY.out.cell 10
        have f10 := HY.out.frozen 10
        have z10 := HZ.out.cell 10
        go_wp2_with fail
        refine bodyPost_ret (results_st rfl _ rfl (HY.out.eleven _ _ _ _ _ _ _ _ _ _ _) Try.underlying66 rfl info66) rfl ?_
        have F2 := Fr.eleven d2 Y (.int .u8 5) (.slice pA p.length pc) (.int .i64 0) (.slice none 0 0) (.int .u64 0) (.bool false) (.string l) (.string ⟨#[]⟩) (.string ⟨#[]⟩) (.bool false) (.slice none 0 0)
        obtain ⟨rv2, hbx2, hrd2⟩ := HRa.out.box
        refine RdC.yes (x := ⟨5, p, 0, [], 0, false, l, ⟨#[]⟩, ⟨#[]⟩, false, []⟩) HS.out ?_ ⟨Fr.ext HRa.out.ext F2 (fun q hq => by rw [show q = Y from hq]; omega), HRa.out.hB, rv2, hbx2.fr F2 (fun hh => by have : B = Y := hh; omega), hrd2⟩ (Fr.new (((Fr.of_ext HE.out _).trans (HFa.out.mono fun q hq => .inl hq)).trans (F2.mono fun q hq => .inr (by rw [show q = Y from hq]; exact hw0))))
        have all := (HP.out.and ((show Late (fun k => k < w.heap.size ∨ k = Z ∨ k = Y) (fun W => RdI W [] (.slice none 0 0)) _ from Late.all fun W => RdS.nil_ _ _).and (show Late (fun k => k < w.heap.size ∨ k = Z ∨ k = Y) (fun W => RdP W [] (.slice none 0 0)) _ from Late.all fun W => ⟨none, 0, rfl, Nat.le_refl _, by decide, fun h => absurd h (Nat.lt_irrefl 0)⟩))).to (S' := old w.heap.size) F2 (fun q _ hh => hh.elim (fun h => .inr (.inr h)) .inl)
        exact all.imp fun W ⟨g1, g2, g3⟩ => ⟨_, _, _, rfl, g1, g2, g3, htl, (show (0 : Nat) ≤ maxLen by decide), (show (0 : Nat) ≤ maxLen by decide), ⟨(by decide : (0 : Int) ≤ 0), (by decide : (0 : Int) ≤ 18446744073709551615)⟩, ⟨(by decide : (0 : Int) ≤ 5), (by decide : (5 : Int) ≤ 255)⟩⟩
    have tk5 : (kc == 5) = false := by rw [beq_eq_false_iff_ne]; exact hk5
    by_cases hk6 : kc = 6
    · subst hk6
      have HS : Hid (FIN = restP 6 p r) := Lib.hid (by rw [HS.out, show kb.toNat = 6 by have := HKC.out; omega])
      clear HKC hkb
      have HS : Hid (FIN = (rowP 4096 pieceP r).bind fun q => some ((⟨6, p, 0, [], 0, false, ⟨#[]⟩, ⟨#[]⟩, ⟨#[]⟩, false, q.1⟩ : OpD), q.2)) := HS
      have hc := gets97_any RdPc (fun _ => pcV) pieceP 98 #[.pointer (some ⟨R, 0, none⟩)] enters98 4096 (by decide) r w0 wc B HRa.out (fun W => NBox W R 83 #[.pointer (some ⟨B, 0, none⟩)]) HRx.out (fun W W' S h1 h2 h3 => h1.fr h2 (fun hs => by have := h3 R hs; have := HRx.out.lt; omega)) pcV_gets (fun b W hb hj _ => rpc1_any b w0 W B R hb hj)
      obtain ⟨pp, hp⟩ : ∃ pp, rowP 4096 pieceP r = pp := ⟨_, rfl⟩
      rw [hp] at hc HS
      clear hp
      have r0 := HRx.out.cell 0
      rw [show ((4096 : Nat) : Int) = 4096 from rfl] at hc
      have HSZC := Lib.hid (show w.heap.size ≤ wc.heap.size from Nat.le_trans HE.out.size HFa.out.size)
      go_wp2_with fail
      refine hc.mono ?_
      clear hc r0 k0
      rintro e d1 ⟨hX, hF, hQ⟩
      cases pp with
      | none =>
        subst hQ
        have HX := Lib.hid hX
        have HF := Lib.hid (HFa.out.trans hF)
        clear hX hF
        go_wp2_with fail
        exact ⟨rfl, RdC.no HS.out HX.out ((Fr.of_ext HE.out _).trans HF.out)⟩
      | some xr =>
        obtain ⟨cs, r⟩ := xr
        obtain ⟨v, rfl, hv, hR⟩ := hQ
        have HZ' := Lib.hid (HZ.out.fr hF (by show ¬ Z = B; omega))
        clear HZ
        have HZ := HZ'
        clear HZ'
        have HY' := Lib.hid (HY.out.fr hF (by show ¬ Y = B; omega))
        clear HY
        have HY := HY'
        clear HY'
        have HP' := Lib.hid (HP.out.to (S' := fun k => k < w.heap.size ∨ k = Z ∨ k = Y) hF (fun q _ hh => hh.elim (fun h => .inl (by rw [show q = B from h]; omega)) id))
        clear HP
        have HP := HP'
        clear HP'
        obtain ⟨us, hO, hLT⟩ := hv
        have HZO := Lib.hid (HZ.out.not_own hO (by decide))
        have HC : Hid (Late (fun k => k < w.heap.size ∨ k = Z ∨ k = Y) (fun W => RdP W cs v) d1) := Lib.hid (fun W2 F => RdP.of_row (owns_fr F hO (fun g hg hk => by
            have hb := owns_base hO g hg
            have := HSZC.out
            rcases hk with hk | hk | hk
            · omega
            · exact HZ.out.not_own hO (by decide) (by rw [hg, hk])
            · exact HY.out.not_own hO (by decide) (by rw [hg, hk]))) (pc_cells cs us (Late.now hLT) W2))
        obtain ⟨cA, cc, rfl, -⟩ := RdS.of_owns hO
        clear hO hLT
        have HFb := Lib.hid (HFa.out.trans hF)
        clear HRa HFa hF hX
        have HRa := Lib.hid hR
        have HFa := HFb
        clear HFb hR
        have HS : Hid (FIN = some ((⟨6, p, 0, [], 0, false, ⟨#[]⟩, ⟨#[]⟩, ⟨#[]⟩, false, cs⟩ : OpD), r)) := HS
        have y0 := HZ.out.cell 10
        have z0 := HZ.out.frozen 10
        obtain ⟨d2, hw⟩ : ∃ qq, d1.setCell ⟨Z, 10, none⟩ (.slice cA cs.length cc) = qq := ⟨_, rfl⟩
        have F2 : Fr d1 d2 (isB Z) := by rw [← hw]; exact Fr.setCell _ _ _ _
        have HZ' := Lib.hid (show NBox d2 Z 66 #[.int .u8 6, .slice pA p.length pc, .int .i64 0, .slice none 0 0, .int .u64 0, .bool false, .string ⟨#[]⟩, .string ⟨#[]⟩, .string ⟨#[]⟩, .bool false, .slice cA cs.length cc] from by rw [← hw]; exact HZ.out.set 10 _)
        have HRa' := Lib.hid (HRa.out.fr F2 (fun q hq => by rw [show q = Z from hq]; omega) (by show ¬ B = Z; omega))
        have HFa' : Hid (Fr w1 d2 (isB B)) := Lib.hid (Fr.new ((HFa.out.mono fun q hq => .inl hq).trans (F2.mono fun q hq => .inr (by rw [show q = Z from hq]; exact hZ0))))
        have HY' := Lib.hid (HY.out.fr F2 (by show ¬ Y = Z; omega))
        have HP' := Lib.hid (HP.out.to (S' := fun k => k < w.heap.size ∨ k = Z ∨ k = Y) F2 (fun q _ hh => hh.elim (fun h => .inr (.inl h)) id))
        have HC' := Lib.hid (HC.out.to (S' := fun k => k < w.heap.size ∨ k = Z ∨ k = Y) F2 (fun q _ hh => hh.elim (fun h => .inr (.inl h)) id))
        have HW2 := Lib.hid hw
        clear hw F2
        clear HZ
        have HZ := HZ'
        clear HZ'
        clear HRa
        have HRa := HRa'
        clear HRa'
        clear HFa
        have HFa := HFa'
        clear HFa'
        clear HY
        have HY := HY'
        clear HY'
        clear HP
        have HP := HP'
        clear HP'
        clear HC
        have HC := HC'
        clear HC'
        go_upto_region 16 with fail
        rw [HW2.out]
        clear HW2 y0 z0
        have y0 := HY.out.cell 0
        have f0 := HY.out.frozen 0
        have z0 := HZ.out.cell 0
        have y1 := HY.out.cell 1
        have f1 := HY.out.frozen 1
        have z1 := HZ.out.cell 1
        have y2 := HY.out.cell 2
        have f2 := HY.out.frozen 2
        have z2 := HZ.out.cell 2
        have y3 := HY.out.cell 3
        have f3 := HY.out.frozen 3
        have z3 := HZ.out.cell 3
        have y4 := HY.out.cell 4
        have f4 := HY.out.frozen 4
        have z4 := HZ.out.cell 4
        have y5 := HY.out.cell 5
        have f5 := HY.out.frozen 5
        have z5 := HZ.out.cell 5
        have y6 := HY.out.cell 6
        have f6 := HY.out.frozen 6
        have z6 := HZ.out.cell 6
        have y7 := HY.out.cell 7
        have f7 := HY.out.frozen 7
        have z7 := HZ.out.cell 7
        have y8 := HY.out.cell 8
        have f8 := HY.out.frozen 8
        have z8 := HZ.out.cell 8
        have y9 := HY.out.cell 9
        have f9 := HY.out.frozen 9
        have z9 := HZ.out.cell 9
        have y10 := HY.out.cell 10
        have f10 := HY.out.frozen 10
        have z10 := HZ.out.cell 10
        go_wp2_with fail
        refine bodyPost_ret (results_st rfl _ rfl (HY.out.eleven _ _ _ _ _ _ _ _ _ _ _) Try.underlying66 rfl info66) rfl ?_
        have F2 := Fr.eleven d2 Y (.int .u8 6) (.slice pA p.length pc) (.int .i64 0) (.slice none 0 0) (.int .u64 0) (.bool false) (.string ⟨#[]⟩) (.string ⟨#[]⟩) (.string ⟨#[]⟩) (.bool false) (.slice cA cs.length cc)
        obtain ⟨rv2, hbx2, hrd2⟩ := HRa.out.box
        refine RdC.yes (x := ⟨6, p, 0, [], 0, false, ⟨#[]⟩, ⟨#[]⟩, ⟨#[]⟩, false, cs⟩) HS.out ?_ ⟨Fr.ext HRa.out.ext F2 (fun q hq => by rw [show q = Y from hq]; omega), HRa.out.hB, rv2, hbx2.fr F2 (fun hh => by have : B = Y := hh; omega), hrd2⟩ (Fr.new (((Fr.of_ext HE.out _).trans (HFa.out.mono fun q hq => .inl hq)).trans (F2.mono fun q hq => .inr (by rw [show q = Y from hq]; exact hw0))))
        have all := (HP.out.and ((show Late (fun k => k < w.heap.size ∨ k = Z ∨ k = Y) (fun W => RdI W [] (.slice none 0 0)) _ from Late.all fun W => RdS.nil_ _ _).and HC.out)).to (S' := old w.heap.size) F2 (fun q _ hh => hh.elim (fun h => .inr (.inr h)) .inl)
        exact all.imp fun W ⟨g1, g2, g3⟩ => ⟨_, _, _, rfl, g1, g2, g3, (show (0 : Nat) ≤ maxLen by decide), (show (0 : Nat) ≤ maxLen by decide), (show (0 : Nat) ≤ maxLen by decide), ⟨(by decide : (0 : Int) ≤ 0), (by decide : (0 : Int) ≤ 18446744073709551615)⟩, ⟨(by decide : (0 : Int) ≤ 6), (by decide : (6 : Int) ≤ 255)⟩⟩
    have tk6 : (kc == 6) = false := by rw [beq_eq_false_iff_ne]; exact hk6
    have HS : Hid (FIN = none) := Lib.hid (HS.out.trans (restNo _ _ _ (by have := HKC.out; omega)))
    have hwant := want_no wc
    clear HKC
    go_wp2_with fail
    refine hwant.mono ?_
    rintro e w7 ⟨rfl, rfl⟩
    go_wp2_with fail
    exact ⟨rfl, RdC.no HS.out HRa.out.ext ((Fr.of_ext HE.out _).trans HFa.out)⟩
def RdO (W : World) (x : OpD) (v : Value) : Prop := x.rd W v
theorem opV_gets (lo : Nat) (x : OpD) (v : Value) (W : World) (h : opV lo x v W) : ∃ c0 c1 c2 c3 c4 c5 c6 c7 c8 c9 c10, v = .agg #[c0, c1, c2, c3, c4, c5, c6, c7, c8, c9, c10] ∧ (c0.oneCell' = true ∧ c1.oneCell' = true ∧ c2.oneCell' = true ∧ c3.oneCell' = true ∧ c4.oneCell' = true ∧ c5.oneCell' = true ∧ c6.oneCell' = true ∧ c7.oneCell' = true ∧ c8.oneCell' = true ∧ c9.oneCell' = true ∧ c10.oneCell' = true) ∧ Late (old lo) (fun W => RdO W x (.agg #[c0, c1, c2, c3, c4, c5, c6, c7, c8, c9, c10])) W := by
  obtain ⟨pA, pc, tA, tc, cA, cc, rfl⟩ := h.open
  exact ⟨_, _, _, _, _, _, _, _, _, _, _, rfl, ⟨rfl, rfl, rfl, rfl, rfl, rfl, rfl, rfl, rfl, rfl, rfl⟩, h⟩
theorem T22 : SliceT Try.prog 22 66 (.agg #[.int .u8 0, .slice none 0 0, .int .i64 0, .slice none 0 0, .int .u64 0, .bool false, .string ⟨#[]⟩, .string ⟨#[]⟩, .string ⟨#[]⟩, .bool false, .slice none 0 0]) 11 160 := SliceT.mk' Try.underlying22 (by kernel_rfl) rfl (by decide)
set_option maxRecDepth 100000 in
set_option maxHeartbeats 4000000 in
theorem gets63_any (R : World → OpD → Value → Prop) (V : Nat → OpD → Value → World → Prop) (f : Rd (OpD)) (fnc : FuncId) (cap : Array Value) (hfn : ∀ args W, (callFunc fnc args).run Try.prog W = .ok (.enter fnc args) W) (most : Nat) (hm : most ≤ 4096) (bs : List UInt8) (w0 w : World) (B : Nat) (h : RS w0 w B bs)
    (J : World → Prop) (hj : J w) (hJ : ∀ W W' S, J W → Fr W W' S → (∀ k, S k → k = B ∨ w.heap.size ≤ k) → J W')
    (hV : ∀ lo x v W, V lo x v W → ∃ c0 c1 c2 c3 c4 c5 c6 c7 c8 c9 c10, v = .agg #[c0, c1, c2, c3, c4, c5, c6, c7, c8, c9, c10] ∧ (c0.oneCell' = true ∧ c1.oneCell' = true ∧ c2.oneCell' = true ∧ c3.oneCell' = true ∧ c4.oneCell' = true ∧ c5.oneCell' = true ∧ c6.oneCell' = true ∧ c7.oneCell' = true ∧ c8.oneCell' = true ∧ c9.oneCell' = true ∧ c10.oneCell' = true) ∧ Late (old lo) (fun W => R W x (.agg #[c0, c1, c2, c3, c4, c5, c6, c7, c8, c9, c10])) W)
    (hone : ∀ b W, RS w0 W B b → J W → w.heap.size ≤ W.heap.size → Calls Try.prog fnc cap W (RdC w0 W B (V W.heap.size) (f b))) :
    Calls Try.prog 63 #[.pointer (some ⟨B, 0, none⟩), .int .i64 (most : Int), .func (.func fnc) cap #[]] w (RdC w0 w B (rowV2 R 66 11 w.heap.size) (rowP most f bs)) := by
  have hc := rsmall_any (most + 1) (by omega) bs w0 w B h
  have HS : Hid (rowP most f bs = match smallP (most + 1) bs with | none => none | some (n, r) => goOnA [] (manyP f n r)) := Lib.hid (row_go most f bs)
  have HSM := Lib.hid (fun (n : Nat) (r : List UInt8) (hh : smallP (most + 1) bs = some (n, r)) => small_lt' hh)
  obtain ⟨p, hp⟩ : ∃ p, smallP (most + 1) bs = p := ⟨_, rfl⟩
  rw [hp] at hc HS HSM
  have q0 : (((most + 1 : Nat) : Int)) = (most : Int) + 1 := by omega
  rw [q0] at hc
  have HB0 := Lib.hid h.ext.size
  have HB1 : Hid (B < w.heap.size) := Lib.hid (by obtain ⟨rv0, hbx0, -⟩ := h.box; exact hbx0.lt)
  have HJ := Lib.hid hJ
  have HV := Lib.hid hV
  have HONE := Lib.hid hone
  have HJ0 := Lib.hid hj
  clear hp h hJ hV hone hj
  go_enter Try.func63, Try.ntmps63
  go_wp2_with fail
  refine hc.mono ?_
  clear hc
  rintro e w1 ⟨hX, hF, hP⟩
  cases p with
  | none =>
    subst hP
    have HX := Lib.hid hX
    have HF := Lib.hid hF
    clear hX hF
    go_wp2_with fail
    exact ⟨rfl, RdC.no HS.out HX.out HF.out⟩
  | some nr =>
    obtain ⟨n, r0⟩ := nr
    obtain ⟨v, rfl, hv, hR⟩ := hP
    unfold intV at hv
    subst hv
    have hn := HSM.out n r0 rfl
    have HR := Lib.hid hR
    have HF := Lib.hid hF
    have HJ1 := Lib.hid (HJ.out _ _ _ HJ0.out hF (fun k hk => .inl hk))
    clear hR hX hF
    go_wp2_with fail
    go_loopw [7, 12] (fun s7 s12 wr => ∃ (i : Nat) (acc : List (OpD)) (b : List UInt8), s12 = .int .i64 (i : Int) ∧ i ≤ n ∧ acc.length = i ∧ rowV2 R 66 11 w.heap.size acc s7 wr ∧ RS w0 wr B b ∧ J wr ∧ Fr w wr (isB B) ∧ Hid (rowP most f bs = goOnA acc (manyP f (n - i) b))) (fun _ i _ => n - (intOf i).toNat)
    case atStart => exact ⟨0, [], r0, rfl, Nat.zero_le _, rfl, ⟨[], ⟨rfl, .inl ⟨rfl, rfl⟩⟩, Late.all fun _ => rfl⟩, HR.out, HJ1.out, HF.out, HS⟩
    case round =>
      obtain ⟨i, acc, b, rfl, hi, hal, ⟨us, hO, hLT⟩, hR, hj, hF, HN⟩ := hrel
      have q1 : (0 : Int) ≤ (i : Int) := by omega
      rcases Nat.lt_or_ge i n with hlt | hlt
      · have q2 : (i : Int) < (n : Int) := by omega
        have hc := HONE.out b wr hR hj hF.size
        have HN2 := Lib.hid (HN.out.trans ((congrArg (fun m => goOnA acc (manyP f m b)) (show n - i = (n - (i + 1)) + 1 by omega)).trans (many_stepA f acc (n - (i + 1)) b)))
        obtain ⟨p, hp⟩ : ∃ p, f b = p := ⟨_, rfl⟩
        rw [hp] at hc HN2
        obtain ⟨rv, hbx, -⟩ := hR.box
        have hno := hbx.not_own hO (by decide)
        have HO := Lib.hid hO
        have HLT := Lib.hid hLT
        have HF := Lib.hid hF
        have HJR := Lib.hid hj
        have HAL : Hid (acc.length = i) := Lib.hid hal
        have hal2 : acc.length < n := by omega
        obtain ⟨vA, vC, rfl, -⟩ := RdS.of_owns hO
        clear hp hR hO hF HN hal hbx hj hLT
        go_wp2_with fail
        refine hc.mono ?_
        clear hc
        rintro e w2 ⟨hX2, hF2, hP⟩
        cases p with
        | none =>
          subst hP
          have HX := Lib.hid hX2
          have HF3 := Lib.hid (HF.out.trans hF2)
          clear hX2 hF2
          go_wp2_with fail
          exact ⟨rfl, RdC.no HN2.out HX.out HF3.out⟩
        | some yr =>
          obtain ⟨y, r⟩ := yr
          obtain ⟨v, rfl, hv, hR2⟩ := hP
          obtain ⟨c0, c1, c2, c3, c4, c5, c6, c7, c8, c9, c10, rfl, ⟨o0, o1, o2, o3, o4, o5, o6, o7, o8, o9, o10⟩, hLY⟩ := HV.out _ _ _ _ hv
          obtain ⟨w3, hw3⟩ : ∃ W, w2.alloc (.cells #[c0, c1, c2, c3, c4, c5, c6, c7, c8, c9, c10] 66) = W := ⟨_, rfl⟩
          obtain ⟨S, hS⟩ : ∃ S, w2.heap.size = S := ⟨_, rfl⟩
          have X3 : Ext w2 w3 := by rw [← hw3]; exact (Ext.refl _).alloc _
          have HRD : Hid (RdS w3 11 1 [c0, c1, c2, c3, c4, c5, c6, c7, c8, c9, c10] (.slice (some ⟨S, 0, none⟩) 1 1)) := Lib.hid (by rw [← hw3, ← hS]; exact RdS.one (cs := #[c0, c1, c2, c3, c4, c5, c6, c7, c8, c9, c10]) rfl)
          have hO2 := owns_fr hF2 HO.out (fun g hg hk => hno (by rw [hg]; exact congrArg some hk))
          have HOO := Lib.hid (owns_ext X3 hO2)
          have HR3 := Lib.hid (hR2.more X3)
          have HF3 := Lib.hid ((HF.out.trans hF2).trans (Fr.of_ext X3 _))
          have HJ3 := Lib.hid (HJ.out _ _ _ (HJ.out _ _ _ HJR.out hF2 (fun k hk => .inl hk)) (Fr.of_ext X3 (fun _ => False)) (fun k hk => hk.elim))
          have HSZ := Lib.hid (Nat.le_trans (HF.out.trans hF2).size X3.size)
          have HL3 := Lib.hid (HLT.out.to (S' := rowS w.heap.size (.slice vA acc.length vC)) (hF2.trans (Fr.of_ext X3 _)) (fun k _ hh => hh.elim (fun hk => .inl (by rw [show k = B from hk]; exact HB1.out)) id))
          have HY3 := Lib.hid (hLY.ext X3)
          have HW3 := Lib.hid hw3
          have HSS := Lib.hid hS
          have HN3 : Hid (rowP most f bs = goOnA (acc ++ [y]) (manyP f (n - (i + 1)) r)) := HN2
          have HONES : Hid (∀ u ∈ [c0, c1, c2, c3, c4, c5, c6, c7, c8, c9, c10], u.oneCell' = true) := Lib.hid (by simp [o0, o1, o2, o3, o4, o5, o6, o7, o8, o9, o10])
          clear hX2 hF2 hR2 hw3 X3 hS hO2 hv hLY HN2 o0 o1 o2 o3 o4 o5 o6 o7 o8 o9 o10
          go_wp2_with (first | (rw [HW3.out, HSS.out]; clear HW3 HSS) | (at_builtin; refine wpList_append_rd rfl rfl T22 (v := _) (by rfl) HOO.out (by rfl) HRD.out HONES.out (by omega) (by simp only [maxLen]; omega) HSZ.out ?_; intro v4 w4 O1 hg hat))
          refine ⟨⟨i + 1, acc ++ [y], r, by go_num, by omega, by rw [List.length_append, HAL.out]; rfl, rowV2.add HO.out HL3.out HY3.out rfl HF.out.size hg hat O1, HR3.out.fr (Fr.grown hg) (fun k hk => Nat.le_trans HB0.out (owns_base HOO.out k hk)) hno, HJ.out _ _ _ HJ3.out (Fr.grown hg) (fun k hk => .inr (owns_base HOO.out k hk)), Fr.new ((HF3.out.mono fun k hk => .inl hk).trans ((Fr.grown hg).mono fun k hk => .inr (owns_base HOO.out k hk))), HN3⟩, by simp [intOf]; omega⟩
      · have HP : Hid (rowP most f bs = some (acc, b)) := Lib.hid (by
          rw [HN.out, show n - i = 0 by omega]
          show some (acc ++ [], b) = _
          rw [List.append_nil])
        have HR2 := Lib.hid hR
        have HO := Lib.hid hO
        have HLT := Lib.hid hLT
        have HF := Lib.hid hF
        obtain ⟨vA, vC, rfl, -⟩ := RdS.of_owns hO
        clear hR hO hF hj HN hal hLT
        go_wp2_with fail
        go_ret
        exact RdC.yes HP.out ⟨us, HO.out, HLT.out⟩ HR2.out HF.out
end Go.Proofs.Ytoplaokimahdiaa.Wi
