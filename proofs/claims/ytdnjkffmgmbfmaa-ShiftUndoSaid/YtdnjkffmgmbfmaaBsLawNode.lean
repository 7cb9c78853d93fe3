/- Chapter 11: the statement ShiftNode. -/
import Derived.Test.YtdnjkffmgmbfmaaBsWorks
namespace Go.Proofs.Ytdnjkffmgmbfmaa.Bs
open Go.RowKit Go.Proofs.Ytdnjkffmgmbfmaa.Bw

theorem RdN.to {B : Nat} {w : World} {x : Option (List Int)} {r : Value} (h : RdN B w x r) : ∃ (A : Option Addr) (c : Nat), r = .tuple #[.slice A (x.getD []).length c, .bool x.isSome] ∧ w.ownsRow B 3 1 (.slice A (x.getD []).length c) (x.getD []).length ((x.getD []).map (Value.int .i64)) := by
  cases x with
  | none => exact ⟨none, 0, h, ⟨rfl, .inl ⟨rfl, rfl⟩⟩⟩
  | some q =>
    obtain ⟨r', rfl, ho⟩ := h
    obtain ⟨A, c, rfl, _⟩ := RdS.of_owns ho
    exact ⟨A, c, rfl, ho⟩
def Sh.gapV (o : Sh) (p : List Int) (at_ : Int) (first : Bool) : Int := match o.node p with | some _ => (if o.moves then o.gapAt p at_ first else at_) | none => 0
theorem RdG.to {B : Nat} {w : World} {o : Sh} {p : List Int} {at_ : Int} {first : Bool} {r : Value} (h : RdG B w o p at_ first r) : ∃ (A : Option Addr) (c : Nat), r = .tuple #[.slice A ((o.node p).getD []).length c, .int .i64 (o.gapV p at_ first), .bool (o.node p).isSome] ∧ RdI w ((o.node p).getD []) (.slice A ((o.node p).getD []).length c) := by
  unfold RdG at h
  unfold Sh.gapV
  cases hx : o.node p with
  | none => rw [hx] at h; exact ⟨none, 0, h, RdS.nil_ _ _⟩
  | some q =>
    rw [hx] at h
    obtain ⟨r', rfl, ho⟩ := h
    have hr := RdS.of_owns ho
    obtain ⟨A, c, rfl, _⟩ := hr
    exact ⟨A, c, rfl, RdS.of_owns ho⟩

set_option maxRecDepth 100000 in
set_option maxHeartbeats 4000000 in
theorem lawNode (o : OpD) (v : Value) (pv : Value) (p : List Int) (w : World) (h : o.rd w v) (hp : RdI w p pv) : Calls Try.prog 3 #[v, pv] w (Ret w fun r _ => r = .bool true) := by
  obtain ⟨pv, tv, cv, rfl, hP, hT, hC, s1, s2, s3⟩ := h
  have h : o.rd w (.agg #[.int .u8 o.kind, pv, .int .i64 o.at_, tv, .int .u64 o.id, .bool o.leaf, .string o.label, .string o.key, .string o.value, .bool o.gone, cv]) := ⟨pv, tv, cv, rfl, hP, hT, hC, s1, s2, s3⟩
  have hP0 := hP
  have hT0 := hT
  have hC0 := hC
  obtain ⟨pA, pc, rfl, _, _, hpc, _⟩ := hP0
  obtain ⟨tA, tc, rfl, _, _, htc, _⟩ := hT0
  obtain ⟨cA, cc, rfl, _⟩ := hC0
  have hpl : o.path.length ≤ pc := by obtain ⟨_, _, e, _, h1, _⟩ := hP; simp only [Value.slice.injEq] at e; omega
  have htl : o.to.length ≤ tc := by obtain ⟨_, _, e, _, h1, _⟩ := hT; simp only [Value.slice.injEq] at e; omega
  unfold maxLen at hpc htc
  have hp0 := hp
  obtain ⟨xA, xc, rfl, _, x1, x2, x3⟩ := hp0
  unfold maxLen at x2
  obtain ⟨w1, hw1⟩ : ∃ w1, w.alloc (.cells #[.int .u8 o.kind, .slice pA o.path.length pc, .int .i64 o.at_, .slice tA o.to.length tc, .int .u64 o.id, .bool o.leaf, .string o.label, .string o.key, .string o.value, .bool o.gone, .slice cA o.pcs.length cc] 26) = w1 := ⟨_, rfl⟩
  have hE1 : Ext w w1 := by rw [← hw1]; exact (Ext.refl w).alloc _
  have B0 : w1.cell? ⟨w.heap.size, 0, none⟩ = some (.int .u8 o.kind) := by rw [← hw1]; exact (NBox.new _ _ _).cell 0
  have B1 : w1.cell? ⟨w.heap.size, 1, none⟩ = some (.slice pA o.path.length pc) := by rw [← hw1]; exact (NBox.new _ _ _).cell 1
  have B2 : w1.cell? ⟨w.heap.size, 2, none⟩ = some (.int .i64 o.at_) := by rw [← hw1]; exact (NBox.new _ _ _).cell 2
  have B3 : w1.cell? ⟨w.heap.size, 3, none⟩ = some (.slice tA o.to.length tc) := by rw [← hw1]; exact (NBox.new _ _ _).cell 3
  have B4 : w1.cell? ⟨w.heap.size, 4, none⟩ = some (.int .u64 o.id) := by rw [← hw1]; exact (NBox.new _ _ _).cell 4
  have B5 : w1.cell? ⟨w.heap.size, 5, none⟩ = some (.bool o.leaf) := by rw [← hw1]; exact (NBox.new _ _ _).cell 5
  have B6 : w1.cell? ⟨w.heap.size, 6, none⟩ = some (.string o.label) := by rw [← hw1]; exact (NBox.new _ _ _).cell 6
  have B7 : w1.cell? ⟨w.heap.size, 7, none⟩ = some (.string o.key) := by rw [← hw1]; exact (NBox.new _ _ _).cell 7
  have B8 : w1.cell? ⟨w.heap.size, 8, none⟩ = some (.string o.value) := by rw [← hw1]; exact (NBox.new _ _ _).cell 8
  have B9 : w1.cell? ⟨w.heap.size, 9, none⟩ = some (.bool o.gone) := by rw [← hw1]; exact (NBox.new _ _ _).cell 9
  have B10 : w1.cell? ⟨w.heap.size, 10, none⟩ = some (.slice cA o.pcs.length cc) := by rw [← hw1]; exact (NBox.new _ _ _).cell 10
  have E := Ext.refl w1
  have H1 := Lib.hid hw1
  clear hw1
  have hc8 : ∀ W, Ext w1 W → Calls Try.prog 8 #[.agg #[.int .u8 o.kind, .slice pA o.path.length pc, .int .i64 o.at_, .slice tA o.to.length tc, .int .u64 o.id, .bool o.leaf, .string o.label, .string o.key, .string o.value, .bool o.gone, .slice cA o.pcs.length cc], .int .i64 300] W (Ret W fun r _ => r = .bool (o.light 300)) := fun W hW => light_any o _ 300 W (OpD.rd_ext (hE1.trans hW) h) (by omega)
  rcases hlt : o.light 300 with _ | _
  · simp only [hlt] at hc8
    clear h hP hT hC hp s1 s2 s3 hpl htl hlt
    go_enter Try.func3, Try.ntmps3
    go_wp2_with (first | (rw [H1.out]; clear H1) | (go_at_call 8; refine (hc8 _ E).mono ?_; clear hc8; rintro e u8 ⟨r, rfl, rfl, hE⟩; replace E := Ext.trans E hE; skip; have D0 := E.cell B0; have D1 := E.cell B1; have D2 := E.cell B2; have D3 := E.cell B3; have D4 := E.cell B4; have D5 := E.cell B5; have D6 := E.cell B6; have D7 := E.cell B7; have D8 := E.cell B8; have D9 := E.cell B9; have D10 := E.cell B10; clear hE) | (go_at_call 9; refine (works_any _).mono ?_; rintro e uw ⟨r, rfl, rfl, hE⟩; replace E := Ext.trans E hE; clear hE))
    go_ret
    exact ret_bool (by rfl) (hE1.trans E)
  obtain ⟨hl1, hl2⟩ := light_open hlt
  simp only [hlt] at hc8
  rcases Nat.lt_or_ge 300 p.length with hpp | hpp
  · have d1 : decide ((300 : Int) < (p.length : Int)) = true := decide_eq_true (by omega)
    have d2 : decide (300 < p.length) = true := decide_eq_true hpp
    clear h hP hT hC hp s1 s2 s3 hpl htl hlt
    go_enter Try.func3, Try.ntmps3
    go_wp2_with (first | (rw [H1.out]; clear H1) | (go_at_call 8; refine (hc8 _ E).mono ?_; clear hc8; rintro e u8 ⟨r, rfl, rfl, hE⟩; replace E := Ext.trans E hE; skip; have D0 := E.cell B0; have D1 := E.cell B1; have D2 := E.cell B2; have D3 := E.cell B3; have D4 := E.cell B4; have D5 := E.cell B5; have D6 := E.cell B6; have D7 := E.cell B7; have D8 := E.cell B8; have D9 := E.cell B9; have D10 := E.cell B10; clear hE) | (go_at_call 9; refine (works_any _).mono ?_; rintro e uw ⟨r, rfl, rfl, hE⟩; replace E := Ext.trans E hE; clear hE))
    go_ret
    exact ret_bool (by rfl) (hE1.trans E)
  have d1 : decide ((300 : Int) < (p.length : Int)) = false := decide_eq_false (by omega)
  have d2 : decide (300 < p.length) = false := decide_eq_false (by omega)
  have hcC : ∀ W, Ext w1 W → Calls Try.prog 10 #[.slice xA p.length xc] W (Ret W fun r w' => w'.ownsRow w1.heap.size 3 1 r p.length (p.map (Value.int .i64))) := fun W hW => (copied_any p _ W (RdS.ext (hE1.trans hW) hp) (by omega)).mono (by
    rintro e w' ⟨r, rfl, ho, hE⟩
    exact ⟨r, rfl, owns_mono ho hW.size, hE⟩)
  have hNn : ∀ W (x : Value), Ext w1 W → RdI W p x → Calls Try.prog 11 #[.agg #[.int .u8 o.kind, .slice pA o.path.length pc, .int .i64 o.at_, .slice tA o.to.length tc, .int .u64 o.id, .bool o.leaf, .string o.label, .string o.key, .string o.value, .bool o.gone, .slice cA o.pcs.length cc], x] W (Ret W fun r w' => RdN W.heap.size w' (o.sh.node p) r) := fun W x hW hx => node_any o _ _ p W (OpD.rd_ext (hE1.trans hW) h) hx (by omega) (by omega) (by omega)
  have hNr : ∀ W, Ext w1 W → Calls Try.prog 12 #[.agg #[.int .u8 o.kind, .slice pA o.path.length pc, .int .i64 o.at_, .slice tA o.to.length tc, .int .u64 o.id, .bool o.leaf, .string o.label, .string o.key, .string o.value, .bool o.gone, .slice cA o.pcs.length cc], .slice xA p.length xc] W (Ret W fun r w' => RdN W.heap.size w' (o.sh.node p) r) := fun W hW => nodeR_any o _ _ p W (OpD.rd_ext (hE1.trans hW) h) (RdS.ext (hE1.trans hW) hp) (by omega) (by omega)
  clear h hP hT hC s1 s2 s3 hpl htl hlt
  have hql : ((o.sh.node p).getD []).length ≤ 1000000 := by
    cases hx : o.sh.node p with
    | none => simp
    | some q =>
      have h1 := node_len o.sh hx
      have h2 : o.sh.to.length ≤ 300 := hl2
      simp only [Option.getD_some]; omega
  generalize hnq : o.sh.node p = nq at *
  clear hnq
  go_enter Try.func3, Try.ntmps3
  go_wp2_with (first | (rw [H1.out]; clear H1) | (go_at_call 8; refine (hc8 _ E).mono ?_; clear hc8; rintro e u8 ⟨r, rfl, rfl, hE⟩; replace E := Ext.trans E hE; skip; have D0 := E.cell B0; have D1 := E.cell B1; have D2 := E.cell B2; have D3 := E.cell B3; have D4 := E.cell B4; have D5 := E.cell B5; have D6 := E.cell B6; have D7 := E.cell B7; have D8 := E.cell B8; have D9 := E.cell B9; have D10 := E.cell B10; clear hE))
  refine (hcC _ E).mono ?_
  clear hcC
  rintro e w4 ⟨r, rfl, hown, hE⟩
  have EC := Ext.trans E hE
  clear hE
  obtain ⟨yA, yc, rfl, _⟩ := RdS.of_owns hown
  have hyr : RdI w4 p (.slice yA p.length yc) := RdS.of_owns hown
  have hcN := hNn w4 _ EC hyr
  have F0 := EC.cell B0; have F1 := EC.cell B1; have F2 := EC.cell B2; have F3 := EC.cell B3; have F4 := EC.cell B4; have F5 := EC.cell B5; have F6 := EC.cell B6; have F7 := EC.cell B7; have F8 := EC.cell B8; have F9 := EC.cell B9; have F10 := EC.cell B10
  clear hNn hown
  go_wp2_with fail
  refine hcN.mono ?_
  clear hcN
  rintro e w5 ⟨r, rfl, hrN, hE5⟩
  obtain ⟨aA, ac, rfl, hoa⟩ := RdN.to hrN
  clear hrN
  have E15 := EC.trans hE5
  have G0 := E15.cell B0; have G1 := E15.cell B1; have G2 := E15.cell B2; have G3 := E15.cell B3; have G4 := E15.cell B4; have G5 := E15.cell B5; have G6 := E15.cell B6; have G7 := E15.cell B7; have G8 := E15.cell B8; have G9 := E15.cell B9; have G10 := E15.cell B10
  have hcR := hNr w5 E15
  clear hNr
  go_wp2_with fail
  refine hcR.mono ?_
  clear hcR
  rintro e w6 ⟨r, rfl, hrN, hE6⟩
  obtain ⟨bA, bc, rfl, hob⟩ := RdN.to hrN
  clear hrN
  have E46 := hE5.trans hE6
  replace hoa := owns_ext hE6 hoa
  generalize nq.getD [] = q at *
  generalize nq.isSome = qb at *
  have hcS := sameInts_any q q _ _ w6 (RdS.of_owns hoa) (RdS.of_owns hob)
  rw [show decide (q = q) = true from decide_eq_true rfl] at hcS
  clear F0 G0 D0 F1 G1 D1 F2 G2 D2 F3 G3 D3 F4 G4 D4 F5 G5 D5 F6 G6 D6 F7 G7 D7 F8 G8 D8 F9 G9 D9 F10 G10 D10
  clear hob
  rcases qb with _ | _
  · have nb1 : (false != false) = false := rfl
    have nb2 : (true != true) = false := rfl
    go_wp2_with fail
    refine hcS.mono ?_
    clear hcS
    rintro e w7 ⟨r, rfl, rfl, hE7⟩
    have E47 := E46.trans hE7
    replace hoa := owns_ext hE7 hoa
    rcases Nat.eq_zero_or_pos q.length with hq0 | hq0
    · have z1 : decide (0 < q.length) = false := decide_eq_false (by omega)
      have z2 : decide ((0 : Int) < (q.length : Int)) = false := decide_eq_false (by omega)
      clear hq0
      go_wp2_with fail
      go_loopw [10] (fun s10 wr => s10 = .int .i64 0 ∧ Ext w4 wr) (fun _ _ => 0)
      case atStart => exact ⟨rfl, E47⟩
      case round =>
        obtain ⟨rfl, hX⟩ := hrel
        have hcF := sameInts_any p p _ _ wr (RdS.ext hX hyr) (RdS.ext (hE1.trans (EC.trans hX)) hp)
        rw [show decide (p = p) = true from decide_eq_true rfl] at hcF
        go_wp2_with fail
        refine hcF.mono ?_
        clear hcF
        rintro e w8 ⟨r, rfl, rfl, hE8⟩
        go_wp2_with fail
        refine (works_any _).mono ?_
        rintro e w9 ⟨r, rfl, rfl, hE9⟩
        go_wp2_with fail
        go_ret
        exact ret_bool (by rfl) ((((hE1.trans EC).trans hX).trans hE8).trans hE9)
    · obtain ⟨g, gc, hsl, hgb, _⟩ := World.ownsRow.form hoa hq0
      simp only [Value.slice.injEq, true_and] at hsl
      obtain ⟨rfl, rfl⟩ := hsl
      obtain ⟨cur, hcur, hsz, hcap, hcm⟩ : ∃ cur, NBox w7 g 3 cur ∧ cur.size = ac ∧ q.length ≤ ac ∧ ac ≤ maxLen := by
        rcases hoa.2 with ⟨h1, _⟩ | ⟨g', cap, cur, hv, _, hh, h4, h5, h6, _⟩
        · cases h1
        · simp only [Value.slice.injEq, Option.some.injEq, Addr.mk.injEq, true_and, and_true] at hv
          obtain ⟨rfl, rfl⟩ := hv
          exact ⟨cur, hh, by rw [h6, Nat.mul_one], h4, h5⟩
      unfold maxLen at hcm
      clear hoa
      go_wp2_with fail
      go_loopw [10] (fun s10 wr => ∃ (i : Nat) (cr : Array Value), s10 = .int .i64 i ∧ i ≤ q.length ∧ NBox wr g 3 cr ∧ cr.size = ac ∧ Ext w4 wr) (fun s _ => q.length - (intOf s).toNat)
      case atStart => exact ⟨0, cur, rfl, Nat.zero_le _, hcur, hsz, E47⟩
      case round =>
        obtain ⟨i, cr, rfl, hi, hnb, hcs, hX⟩ := hrel
        have q1 : (0 : Int) ≤ (i : Int) := by omega
        rcases Nat.lt_or_ge i q.length with hlt | hlt
        · have q2 : (i : Int) < (q.length : Int) := by omega
          obtain ⟨x, hx⟩ : ∃ x, cr[i]? = some x := ⟨_, Array.getElem?_eq_getElem (by omega)⟩
          have c1 : wr.cell? ⟨g, i, none⟩ = some x := (hnb.cell i).trans hx
          have c2 : wr.frozen? ⟨g, i, none⟩ = false := hnb.frozen i
          clear hx
          go_wp2_with fail
          go_roundw
          case rel => exact ⟨i + 1, _, by go_num, by omega, NBox.set hnb i _, by simpa using hcs, Below.setCell hX (p := ⟨g, i, none⟩) hgb _⟩
          case measure => simp [intOf]; omega
        · have q2 : decide ((i : Int) < (q.length : Int)) = false := decide_eq_false (by omega)
          have hcF := sameInts_any p p _ _ wr (RdS.ext hX hyr) (RdS.ext (hE1.trans (EC.trans hX)) hp)
          rw [show decide (p = p) = true from decide_eq_true rfl] at hcF
          go_wp2_with fail
          refine hcF.mono ?_
          clear hcF
          rintro e w8 ⟨r, rfl, rfl, hE8⟩
          go_wp2_with fail
          refine (works_any _).mono ?_
          rintro e w9 ⟨r, rfl, rfl, hE9⟩
          go_wp2_with fail
          go_ret
          exact ret_bool (by rfl) ((((hE1.trans EC).trans hX).trans hE8).trans hE9)
  · have nb1 : (false != false) = false := rfl
    have nb2 : (true != true) = false := rfl
    go_wp2_with fail
    refine hcS.mono ?_
    clear hcS
    rintro e w7 ⟨r, rfl, rfl, hE7⟩
    have E47 := E46.trans hE7
    replace hoa := owns_ext hE7 hoa
    rcases Nat.eq_zero_or_pos q.length with hq0 | hq0
    · have z1 : decide (0 < q.length) = false := decide_eq_false (by omega)
      have z2 : decide ((0 : Int) < (q.length : Int)) = false := decide_eq_false (by omega)
      clear hq0
      go_wp2_with fail
      go_loopw [10] (fun s10 wr => s10 = .int .i64 0 ∧ Ext w4 wr) (fun _ _ => 0)
      case atStart => exact ⟨rfl, E47⟩
      case round =>
        obtain ⟨rfl, hX⟩ := hrel
        have hcF := sameInts_any p p _ _ wr (RdS.ext hX hyr) (RdS.ext (hE1.trans (EC.trans hX)) hp)
        rw [show decide (p = p) = true from decide_eq_true rfl] at hcF
        go_wp2_with fail
        refine hcF.mono ?_
        clear hcF
        rintro e w8 ⟨r, rfl, rfl, hE8⟩
        go_wp2_with fail
        refine (works_any _).mono ?_
        rintro e w9 ⟨r, rfl, rfl, hE9⟩
        go_wp2_with fail
        go_ret
        exact ret_bool (by rfl) ((((hE1.trans EC).trans hX).trans hE8).trans hE9)
    · obtain ⟨g, gc, hsl, hgb, _⟩ := World.ownsRow.form hoa hq0
      simp only [Value.slice.injEq, true_and] at hsl
      obtain ⟨rfl, rfl⟩ := hsl
      obtain ⟨cur, hcur, hsz, hcap, hcm⟩ : ∃ cur, NBox w7 g 3 cur ∧ cur.size = ac ∧ q.length ≤ ac ∧ ac ≤ maxLen := by
        rcases hoa.2 with ⟨h1, _⟩ | ⟨g', cap, cur, hv, _, hh, h4, h5, h6, _⟩
        · cases h1
        · simp only [Value.slice.injEq, Option.some.injEq, Addr.mk.injEq, true_and, and_true] at hv
          obtain ⟨rfl, rfl⟩ := hv
          exact ⟨cur, hh, by rw [h6, Nat.mul_one], h4, h5⟩
      unfold maxLen at hcm
      clear hoa
      go_wp2_with fail
      go_loopw [10] (fun s10 wr => ∃ (i : Nat) (cr : Array Value), s10 = .int .i64 i ∧ i ≤ q.length ∧ NBox wr g 3 cr ∧ cr.size = ac ∧ Ext w4 wr) (fun s _ => q.length - (intOf s).toNat)
      case atStart => exact ⟨0, cur, rfl, Nat.zero_le _, hcur, hsz, E47⟩
      case round =>
        obtain ⟨i, cr, rfl, hi, hnb, hcs, hX⟩ := hrel
        have q1 : (0 : Int) ≤ (i : Int) := by omega
        rcases Nat.lt_or_ge i q.length with hlt | hlt
        · have q2 : (i : Int) < (q.length : Int) := by omega
          obtain ⟨x, hx⟩ : ∃ x, cr[i]? = some x := ⟨_, Array.getElem?_eq_getElem (by omega)⟩
          have c1 : wr.cell? ⟨g, i, none⟩ = some x := (hnb.cell i).trans hx
          have c2 : wr.frozen? ⟨g, i, none⟩ = false := hnb.frozen i
          clear hx
          go_wp2_with fail
          go_roundw
          case rel => exact ⟨i + 1, _, by go_num, by omega, NBox.set hnb i _, by simpa using hcs, Below.setCell hX (p := ⟨g, i, none⟩) hgb _⟩
          case measure => simp [intOf]; omega
        · have q2 : decide ((i : Int) < (q.length : Int)) = false := decide_eq_false (by omega)
          have hcF := sameInts_any p p _ _ wr (RdS.ext hX hyr) (RdS.ext (hE1.trans (EC.trans hX)) hp)
          rw [show decide (p = p) = true from decide_eq_true rfl] at hcF
          go_wp2_with fail
          refine hcF.mono ?_
          clear hcF
          rintro e w8 ⟨r, rfl, rfl, hE8⟩
          go_wp2_with fail
          refine (works_any _).mono ?_
          rintro e w9 ⟨r, rfl, rfl, hE9⟩
          go_wp2_with fail
          go_ret
          exact ret_bool (by rfl) ((((hE1.trans EC).trans hX).trans hE8).trans hE9)
end Go.Proofs.Ytdnjkffmgmbfmaa.Bs
