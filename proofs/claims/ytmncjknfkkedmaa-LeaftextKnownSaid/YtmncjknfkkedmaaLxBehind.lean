/- Chapter 05: what becomes of an edit behind another one, as the document has it: walked. -/
import Derived.Test.YtmncjknfkkedmaaLxView
import Derived.Test.YtmncjknfkkedmaaLxRInvert
namespace Go.Proofs.Ytmncjknfkkedmaa.Lx
open Go.RowKit Go.Proofs.Ytmncjknfkkedmaa.Bw Go.Proofs.Ytmncjknfkkedmaa.Bs

theorem RdS.lits (W : World) (l : List Pc) (hl : l.length ≤ maxLen) : RdS (W.alloc (.cells (pcVals l).toArray 29)) 3 l.length (pcVals l) (.slice (some ⟨W.heap.size, 0, none⟩) l.length l.length) := by
  refine ⟨_, _, rfl, pcVals_len l, Nat.le_refl _, hl, fun _ => ⟨W.heap.size, 0, rfl, fun j u hu => ?_⟩⟩
  rw [Nat.zero_add, (NBox.new W 29 (pcVals l).toArray).cell]
  simpa using hu
theorem vals_one' (l : List Pc) : ∀ u ∈ pcVals l, u.oneCell' = true := by
  intro u hu
  obtain ⟨p, _, hp⟩ := List.mem_flatMap.1 hu
  simp only [Pc.vals, List.mem_cons, List.not_mem_nil, or_false] at hp
  rcases hp with rfl | rfl | rfl <;> rfl
theorem bhStep_nn (first : Bool) (x y : ByteArray × Bool) : Nn (bhStep first x y) ∧ wt (bhStep first x y) ≤ x.1.size + y.1.size + 1 := by
  obtain ⟨x1, x2⟩ := x
  obtain ⟨y1, y2⟩ := y
  have e : ((⟨#[]⟩ : ByteArray).size : Int) = 0 := rfl
  constructor
  · intro p hp
    cases first <;> cases x2 <;> cases y2 <;> simp [bhStep] at hp <;> (rcases hp with rfl | rfl | rfl) <;> exact ⟨by dsimp only; omega, by dsimp only; omega⟩
  · cases first <;> cases x2 <;> cases y2 <;> simp [bhStep, wt, e] <;> omega
theorem bhP_nn (first : Bool) : ∀ (a b : Vw), (∀ x ∈ a, x.1.size ≤ 1000000) → (∀ x ∈ b, x.1.size ≤ 1000000) → Nn (bhP first a b) ∧ wt (bhP first a b) ≤ 2000001 * (a.length : Int)
  | [], b, _, _ => by
    have e : bhP first [] b = [] := by cases b <;> rfl
    rw [e]
    exact ⟨fun _ h => absurd h List.not_mem_nil, Int.le_refl _⟩
  | x :: r, [], _, _ => ⟨fun _ h => absurd h List.not_mem_nil, by show (0 : Int) ≤ _; omega⟩
  | x :: r, y :: s, ha, hb => by
    obtain ⟨h1, h2⟩ := bhStep_nn first x y
    obtain ⟨h3, h4⟩ := bhP_nn first r s (fun z hz => ha z (List.mem_cons_of_mem _ hz)) (fun z hz => hb z (List.mem_cons_of_mem _ hz))
    have h5 := ha x List.mem_cons_self
    have h6 := hb y List.mem_cons_self
    refine ⟨h1.append h3, ?_⟩
    show wt (bhStep first x y ++ bhP first r s) ≤ 2000001 * ((r.length + 1 : Nat) : Int)
    rw [wt_append]
    omega
theorem bhP_at (first : Bool) {a b : Vw} {i : Nat} {x y : ByteArray × Bool} (ha : a[i]? = some x) (hb : b[i]? = some y) : bhP first (a.drop i) (b.drop i) = bhStep first x y ++ bhP first (a.drop (i + 1)) (b.drop (i + 1)) := by rw [drop_at ha, drop_at hb]; rfl
theorem bhP_nil (first : Bool) {a b : Vw} (h : a = []) : bhP first a b = [] := by rw [h]; cases b <;> rfl

set_option maxRecDepth 100000 in
set_option maxHeartbeats 4000000 in
theorem behind_any (first : Bool) (a b : Vw) (va vb : Value) (w : World) (ha : VAt w (a.map Prod.fst) (a.map Prod.snd) va) (hb : VAt w (b.map Prod.fst) (b.map Prod.snd) vb) (hl : a.length = b.length) (hlen : a.length ≤ 30000) (ba : ∀ x ∈ a, x.1.size ≤ 1000000) (bb : ∀ x ∈ b, x.1.size ≤ 1000000) :
    Calls Try.prog 40 #[va, vb, .bool first] w fun e w' => ∃ v', e = .returned v' ∧ w'.ownsRow w.heap.size 29 3 v' (normL (bhP first a b)).length (pcVals (normL (bhP first a b))) ∧ Ext w w' := by
  obtain ⟨a1, a2, ac1, ac2, rfl, A1, A2, _, _⟩ := ha
  obtain ⟨b1, b2, bc1, bc2, rfl, B1, B2, _, _⟩ := hb
  obtain ⟨n, hn⟩ : ∃ n, b.length = n := ⟨_, rfl⟩
  rw [hn] at hl
  simp only [List.length_map]
  rw [hl, hn]
  rw [hl] at hlen
  have HL := Lib.hid hl
  have HN := Lib.hid hn
  clear hl hn
  go_enter Try.func40, Try.ntmps40
  go_wp2_with fail
  obtain ⟨w2, hw2⟩ : ∃ W, (w.alloc (.cells #[.slice (some ⟨a1, 0, none⟩) n ac1, .slice (some ⟨a2, 0, none⟩) n ac2] 69)).alloc (.cells #[.slice (some ⟨b1, 0, none⟩) n bc1, .slice (some ⟨b2, 0, none⟩) n bc2] 69) = W := ⟨_, rfl⟩
  obtain ⟨X, hX⟩ : ∃ X, w.heap.size = X := ⟨_, rfl⟩
  have E2 : Ext w w2 := by rw [← hw2]; exact ((Ext.refl w).alloc _).alloc _
  have BX : NBox w2 X 69 #[.slice (some ⟨a1, 0, none⟩) n ac1, .slice (some ⟨a2, 0, none⟩) n ac2] := by
    rw [← hw2, ← hX]; exact (NBox.new w 69 _).ext ((Ext.refl _).alloc _)
  have BY : NBox w2 (X + 1) 69 #[.slice (some ⟨b1, 0, none⟩) n bc1, .slice (some ⟨b2, 0, none⟩) n bc2] := by
    have hs : (w.alloc (.cells #[.slice (some ⟨a1, 0, none⟩) n ac1, .slice (some ⟨a2, 0, none⟩) n ac2] 69)).heap.size = X + 1 := by rw [← hX]; simp
    rw [← hw2, ← hs]; exact NBox.new _ 69 _
  replace A1 := A1.ext E2
  replace A2 := A2.ext E2
  replace B1 := B1.ext E2
  replace B2 := B2.ext E2
  rw [hw2, hX]
  clear hw2
  go_loopw [7, 8] (fun s7 s8 wr => ∃ (i : Nat) (out : List Pc), s8 = .int .i64 i ∧ i ≤ n ∧ wr.ownsRow w2.heap.size 29 3 s7 out.length (pcVals out) ∧ out.length ≤ 3 * i ∧ Hid (out ++ bhP first (a.drop i) (b.drop i) = bhP first a b) ∧ Ext w2 wr) (fun _ i _ => n - (intOf i).toNat)
  case atStart => exact ⟨0, [], rfl, Nat.zero_le _, ⟨rfl, .inl ⟨rfl, rfl⟩⟩, Nat.le_refl _, Lib.hid rfl, Ext.refl _⟩
  case round =>
    obtain ⟨i, out, rfl, hi, hO, hol, HW, hE⟩ := hrel
    have x0 := (BX.ext hE).cell 0
    have x1 := (BX.ext hE).cell 1
    have y0 := (BY.ext hE).cell 0
    have y1 := (BY.ext hE).cell 1
    rcases Nat.lt_or_ge i n with hlt | hlt
    · obtain ⟨⟨ap, ad⟩, ha⟩ : ∃ x, a[i]? = some x := ⟨_, List.getElem?_eq_getElem (by rw [HL.out]; exact hlt)⟩
      obtain ⟨⟨bp, bd⟩, hb⟩ : ∃ x, b[i]? = some x := ⟨_, List.getElem?_eq_getElem (by rw [HN.out]; exact hlt)⟩
      have q1 : (0 : Int) ≤ (i : Int) := by omega
      have q2 : (i : Int) < (n : Int) := by omega
      have e1 : wr.cell? ⟨a1, i, none⟩ = some (.string ap) := by rw [(A1.ext hE).cell]; exact strV_get (by rw [List.getElem?_map, ha]; rfl)
      have e2 : wr.cell? ⟨a2, i, none⟩ = some (.bool ad) := by rw [(A2.ext hE).cell]; exact boolV_get (by rw [List.getElem?_map, ha]; rfl)
      have e3 : wr.cell? ⟨b1, i, none⟩ = some (.string bp) := by rw [(B1.ext hE).cell]; exact strV_get (by rw [List.getElem?_map, hb]; rfl)
      have e4 : wr.cell? ⟨b2, i, none⟩ = some (.bool bd) := by rw [(B2.ext hE).cell]; exact boolV_get (by rw [List.getElem?_map, hb]; rfl)
      have lX := (BX.ext hE).lt
      have lY := (BY.ext hE).lt
      have l1 := (A1.ext hE).lt
      have l2 := (A2.ext hE).lt
      have l3 := (B1.ext hE).lt
      have l4 := (B2.ext hE).lt
      have hs1 := ba _ (List.mem_of_getElem? ha)
      have hs2 := bb _ (List.mem_of_getElem? hb)
      simp only at hs1 hs2
      have HD : Hid (out ++ (bhStep first (ap, ad) (bp, bd) ++ bhP first (a.drop (i + 1)) (b.drop (i + 1))) = bhP first a b) := Lib.hid (by rw [← bhP_at first ha hb]; exact HW.out)
      obtain ⟨lA, lc, rfl, _⟩ := RdS.of_owns hO
      have mX := BX.lt
      have mY := BY.lt
      have m2 := A2.lt
      have m4 := B2.lt
      clear ha hb HW BX BY A1 A2 B1 B2
      cases first with
      | true =>
        go_upto_region 8 with fail
        obtain ⟨w4, hw4⟩ : ∃ W, ((wr.alloc (.cells #[.int .i64 bp.size, .int .i64 0, .string ⟨#[]⟩] 29)).alloc (.cells #[.int .i64 0, .int .i64 0, .string ap] 29)) = W := ⟨_, rfl⟩
        have X4 : Ext wr w4 := by rw [← hw4]; exact ((Ext.refl wr).alloc _).alloc _
        have bt : NBox w4 wr.heap.size 29 #[.int .i64 bp.size, .int .i64 0, .string ⟨#[]⟩] := by rw [← hw4]; exact (NBox.new wr 29 _).ext ((Ext.refl _).alloc _)
        have bo : NBox w4 (wr.heap.size + 1) 29 #[.int .i64 0, .int .i64 0, .string ap] := by
          have hs : (wr.alloc (.cells #[.int .i64 bp.size, .int .i64 0, .string ⟨#[]⟩] 29)).heap.size = wr.heap.size + 1 := by simp
          rw [← hw4, ← hs]; exact NBox.new _ 29 _
        rw [hw4]
        clear hw4
        have t0 := bt.cell 0
        have t1 := bt.cell 1
        have t2 := bt.cell 2
        have o0 := bo.cell 0
        have o1 := bo.cell 1
        have o2 := bo.cell 2
        have O4 := owns_ext X4 hO
        have E4 := hE.trans X4
        have hRd : RdS (w4.alloc (.cells #[.int .i64 0, .int .i64 0, .string ap, .int .i64 bp.size, .int .i64 0, .string ⟨#[]⟩] 29)) 3 2 [.int .i64 0, .int .i64 0, .string ap, .int .i64 bp.size, .int .i64 0, .string ⟨#[]⟩] (.slice (some ⟨w4.heap.size, 0, none⟩) 2 2) := RdS.lits w4 [⟨0, 0, ap⟩, ⟨bp.size, 0, ⟨#[]⟩⟩] (by simp [maxLen])
        have hone : ∀ u ∈ ([.int .i64 0, .int .i64 0, .string ap, .int .i64 bp.size, .int .i64 0, .string ⟨#[]⟩] : List Value), u.oneCell' = true := vals_one' [⟨0, 0, ap⟩, ⟨bp.size, 0, ⟨#[]⟩⟩]
        have O4' : (w4.alloc (.cells #[.int .i64 0, .int .i64 0, .string ap, .int .i64 bp.size, .int .i64 0, .string ⟨#[]⟩] 29)).ownsRow w2.heap.size 29 3 (.slice lA out.length lc) out.length (pcVals out) := owns_ext ((Ext.refl w4).alloc _) O4
        have hsz : w2.heap.size ≤ (w4.alloc (.cells #[.int .i64 0, .int .i64 0, .string ap, .int .i64 bp.size, .int .i64 0, .string ⟨#[]⟩] 29)).heap.size := Nat.le_trans E4.size ((Ext.refl w4).alloc _).size
        have HRD := Lib.hid hRd
        have HON := Lib.hid hone
        have HO4 := Lib.hid O4'
        have HSZ := Lib.hid hsz
        clear hRd hone O4' hsz
        go_wp2_with (at_builtin; refine wpList_append_rd rfl rfl T22 (v := _) (by rfl) HO4.out (by rfl) HRD.out HON.out (by omega) (by simp only [maxLen]; omega) HSZ.out ?_)
        intro v5 w5 O5 hg5 hat5
        have F5 := Fr.grown hg5
        have hown : ∀ k, (Value.slice lA out.length lc).ownBlock = some k → w2.heap.size ≤ k := fun k hk => owns_base O4 k hk
        have E5 : Ext w2 w5 := Fr.ext (E4.alloc _) F5 hown
        have X45 : ∀ (B k : Nat) (u : Value), B < w2.heap.size → wr.cell? ⟨B, k, none⟩ = some u → w5.cell? ⟨B, k, none⟩ = some u := fun B k u hB hu => F5.cell (fun h => by have := hown B h; omega) ((X4.alloc _).cell hu)
        replace e2 := X45 _ _ _ m2 e2
        replace e4 := X45 _ _ _ m4 e4
        replace x1 := X45 _ _ _ mX x1
        replace y1 := X45 _ _ _ mY y1
        have O5' : w5.ownsRow w2.heap.size 29 3 v5 (out.length + 2) (pcVals (out ++ [⟨0, 0, ap⟩, ⟨bp.size, 0, ⟨#[]⟩⟩])) := by rw [pcVals_append]; exact O5
        replace O5 := O5'
        clear HRD HON HO4 HSZ O5' X45 t0 t1 t2 o0 o1 o2 bt bo O4 E4 e1 e3 x0 y0 hO hg5 hat5
        obtain ⟨l5, k5, rfl, _⟩ := RdS.of_owns O5
        have HD := HD.out
        cases bd with
        | true =>
          have step : bhStep true (ap, ad) (bp, true) = [⟨0, 0, ap⟩, ⟨bp.size, 0, ⟨#[]⟩⟩] := rfl
          rw [step] at HD
          have HD2 : Hid ((out ++ [⟨0, 0, ap⟩, ⟨bp.size, 0, ⟨#[]⟩⟩]) ++ bhP true (a.drop (i + 1)) (b.drop (i + 1)) = bhP true a b) := Lib.hid (by rw [← HD]; simp only [List.append_assoc])
          have ho2 : (out ++ [⟨0, 0, ap⟩, ⟨bp.size, 0, ⟨#[]⟩⟩] : List Pc).length = out.length + 2 := by simp
          clear HD step
          go_wp2_with fail
          go_roundw
          case rel => exact ⟨i + 1, out ++ [⟨0, 0, ap⟩, ⟨bp.size, 0, ⟨#[]⟩⟩], by go_num, by omega, by rw [ho2]; exact O5, by rw [ho2]; omega, HD2, E5⟩
          case measure => simp [intOf]; omega
        | false =>
          cases ad with
          | true =>
            have step : bhStep true (ap, true) (bp, false) = [⟨0, 0, ap⟩, ⟨bp.size, 0, ⟨#[]⟩⟩] ++ [⟨0, 1, ⟨#[]⟩⟩] := rfl
            rw [step] at HD
            have HD2 : Hid ((out ++ [⟨0, 0, ap⟩, ⟨bp.size, 0, ⟨#[]⟩⟩] ++ [⟨0, 1, ⟨#[]⟩⟩]) ++ bhP true (a.drop (i + 1)) (b.drop (i + 1)) = bhP true a b) := Lib.hid (by rw [← HD]; simp only [List.append_assoc])
            have ho2 : (out ++ [⟨0, 0, ap⟩, ⟨bp.size, 0, ⟨#[]⟩⟩] : List Pc).length = out.length + 2 := by simp
            clear HD step
            have hRd : RdS (w5.alloc (.cells #[.int .i64 0, .int .i64 1, .string ⟨#[]⟩] 29)) 3 1 [.int .i64 0, .int .i64 1, .string ⟨#[]⟩] (.slice (some ⟨w5.heap.size, 0, none⟩) 1 1) := RdS.lits w5 [⟨0, 1, ⟨#[]⟩⟩] (by simp [maxLen])
            have hone : ∀ u ∈ ([.int .i64 0, .int .i64 1, .string ⟨#[]⟩] : List Value), u.oneCell' = true := vals_one' [⟨0, 1, ⟨#[]⟩⟩]
            have O5' : (w5.alloc (.cells #[.int .i64 0, .int .i64 1, .string ⟨#[]⟩] 29)).ownsRow w2.heap.size 29 3 (.slice l5 (out.length + 2) k5) (out.length + 2) (pcVals (out ++ [⟨0, 0, ap⟩, ⟨bp.size, 0, ⟨#[]⟩⟩])) := owns_ext ((Ext.refl w5).alloc _) O5
            have hsz : w2.heap.size ≤ (w5.alloc (.cells #[.int .i64 0, .int .i64 1, .string ⟨#[]⟩] 29)).heap.size := Nat.le_trans E5.size ((Ext.refl w5).alloc _).size
            have HRD := Lib.hid hRd
            have HON := Lib.hid hone
            have HO5 := Lib.hid O5'
            have HSZ := Lib.hid hsz
            clear hRd hone O5' hsz
            go_wp2_with (at_builtin; refine wpList_append_rd rfl rfl T22 (v := _) (by rfl) HO5.out (by rfl) HRD.out HON.out (by omega) (by simp only [maxLen]; omega) HSZ.out ?_)
            intro v6 w6 O6 hg6 hat6
            have F6 := Fr.grown hg6
            have E6 : Ext w2 w6 := Fr.ext (E5.alloc _) F6 (fun k hk => owns_base O5 k hk)
            go_wp2_with fail
            go_roundw
            case rel => exact ⟨i + 1, out ++ [⟨0, 0, ap⟩, ⟨bp.size, 0, ⟨#[]⟩⟩] ++ [⟨0, 1, ⟨#[]⟩⟩], by go_num, by omega, by rw [List.length_append, ho2, pcVals_append]; exact O6, by rw [List.length_append, ho2, List.length_singleton]; omega, HD2, E6⟩
            case measure => simp [intOf]; omega
          | false =>
            have step : bhStep true (ap, false) (bp, false) = [⟨0, 0, ap⟩, ⟨bp.size, 0, ⟨#[]⟩⟩] ++ [⟨1, 0, ⟨#[]⟩⟩] := rfl
            rw [step] at HD
            have HD2 : Hid ((out ++ [⟨0, 0, ap⟩, ⟨bp.size, 0, ⟨#[]⟩⟩] ++ [⟨1, 0, ⟨#[]⟩⟩]) ++ bhP true (a.drop (i + 1)) (b.drop (i + 1)) = bhP true a b) := Lib.hid (by rw [← HD]; simp only [List.append_assoc])
            have ho2 : (out ++ [⟨0, 0, ap⟩, ⟨bp.size, 0, ⟨#[]⟩⟩] : List Pc).length = out.length + 2 := by simp
            clear HD step
            have hRd : RdS (w5.alloc (.cells #[.int .i64 1, .int .i64 0, .string ⟨#[]⟩] 29)) 3 1 [.int .i64 1, .int .i64 0, .string ⟨#[]⟩] (.slice (some ⟨w5.heap.size, 0, none⟩) 1 1) := RdS.lits w5 [⟨1, 0, ⟨#[]⟩⟩] (by simp [maxLen])
            have hone : ∀ u ∈ ([.int .i64 1, .int .i64 0, .string ⟨#[]⟩] : List Value), u.oneCell' = true := vals_one' [⟨1, 0, ⟨#[]⟩⟩]
            have O5' : (w5.alloc (.cells #[.int .i64 1, .int .i64 0, .string ⟨#[]⟩] 29)).ownsRow w2.heap.size 29 3 (.slice l5 (out.length + 2) k5) (out.length + 2) (pcVals (out ++ [⟨0, 0, ap⟩, ⟨bp.size, 0, ⟨#[]⟩⟩])) := owns_ext ((Ext.refl w5).alloc _) O5
            have hsz : w2.heap.size ≤ (w5.alloc (.cells #[.int .i64 1, .int .i64 0, .string ⟨#[]⟩] 29)).heap.size := Nat.le_trans E5.size ((Ext.refl w5).alloc _).size
            have HRD := Lib.hid hRd
            have HON := Lib.hid hone
            have HO5 := Lib.hid O5'
            have HSZ := Lib.hid hsz
            clear hRd hone O5' hsz
            go_wp2_with (at_builtin; refine wpList_append_rd rfl rfl T22 (v := _) (by rfl) HO5.out (by rfl) HRD.out HON.out (by omega) (by simp only [maxLen]; omega) HSZ.out ?_)
            intro v6 w6 O6 hg6 hat6
            have F6 := Fr.grown hg6
            have E6 : Ext w2 w6 := Fr.ext (E5.alloc _) F6 (fun k hk => owns_base O5 k hk)
            go_wp2_with fail
            go_roundw
            case rel => exact ⟨i + 1, out ++ [⟨0, 0, ap⟩, ⟨bp.size, 0, ⟨#[]⟩⟩] ++ [⟨1, 0, ⟨#[]⟩⟩], by go_num, by omega, by rw [List.length_append, ho2, pcVals_append]; exact O6, by rw [List.length_append, ho2, List.length_singleton]; omega, HD2, E6⟩
            case measure => simp [intOf]; omega
      | false =>
        go_upto_region 9 with fail
        obtain ⟨w4, hw4⟩ : ∃ W, ((wr.alloc (.cells #[.int .i64 bp.size, .int .i64 0, .string ⟨#[]⟩] 29)).alloc (.cells #[.int .i64 0, .int .i64 0, .string ap] 29)) = W := ⟨_, rfl⟩
        have X4 : Ext wr w4 := by rw [← hw4]; exact ((Ext.refl wr).alloc _).alloc _
        have bt : NBox w4 wr.heap.size 29 #[.int .i64 bp.size, .int .i64 0, .string ⟨#[]⟩] := by rw [← hw4]; exact (NBox.new wr 29 _).ext ((Ext.refl _).alloc _)
        have bo : NBox w4 (wr.heap.size + 1) 29 #[.int .i64 0, .int .i64 0, .string ap] := by
          have hs : (wr.alloc (.cells #[.int .i64 bp.size, .int .i64 0, .string ⟨#[]⟩] 29)).heap.size = wr.heap.size + 1 := by simp
          rw [← hw4, ← hs]; exact NBox.new _ 29 _
        rw [hw4]
        clear hw4
        have t0 := bt.cell 0
        have t1 := bt.cell 1
        have t2 := bt.cell 2
        have o0 := bo.cell 0
        have o1 := bo.cell 1
        have o2 := bo.cell 2
        have O4 := owns_ext X4 hO
        have E4 := hE.trans X4
        have hRd : RdS (w4.alloc (.cells #[.int .i64 bp.size, .int .i64 0, .string ⟨#[]⟩, .int .i64 0, .int .i64 0, .string ap] 29)) 3 2 [.int .i64 bp.size, .int .i64 0, .string ⟨#[]⟩, .int .i64 0, .int .i64 0, .string ap] (.slice (some ⟨w4.heap.size, 0, none⟩) 2 2) := RdS.lits w4 [⟨bp.size, 0, ⟨#[]⟩⟩, ⟨0, 0, ap⟩] (by simp [maxLen])
        have hone : ∀ u ∈ ([.int .i64 bp.size, .int .i64 0, .string ⟨#[]⟩, .int .i64 0, .int .i64 0, .string ap] : List Value), u.oneCell' = true := vals_one' [⟨bp.size, 0, ⟨#[]⟩⟩, ⟨0, 0, ap⟩]
        have O4' : (w4.alloc (.cells #[.int .i64 bp.size, .int .i64 0, .string ⟨#[]⟩, .int .i64 0, .int .i64 0, .string ap] 29)).ownsRow w2.heap.size 29 3 (.slice lA out.length lc) out.length (pcVals out) := owns_ext ((Ext.refl w4).alloc _) O4
        have hsz : w2.heap.size ≤ (w4.alloc (.cells #[.int .i64 bp.size, .int .i64 0, .string ⟨#[]⟩, .int .i64 0, .int .i64 0, .string ap] 29)).heap.size := Nat.le_trans E4.size ((Ext.refl w4).alloc _).size
        have HRD := Lib.hid hRd
        have HON := Lib.hid hone
        have HO4 := Lib.hid O4'
        have HSZ := Lib.hid hsz
        clear hRd hone O4' hsz
        go_wp2_with (at_builtin; refine wpList_append_rd rfl rfl T22 (v := _) (by rfl) HO4.out (by rfl) HRD.out HON.out (by omega) (by simp only [maxLen]; omega) HSZ.out ?_)
        intro v5 w5 O5 hg5 hat5
        have F5 := Fr.grown hg5
        have hown : ∀ k, (Value.slice lA out.length lc).ownBlock = some k → w2.heap.size ≤ k := fun k hk => owns_base O4 k hk
        have E5 : Ext w2 w5 := Fr.ext (E4.alloc _) F5 hown
        have X45 : ∀ (B k : Nat) (u : Value), B < w2.heap.size → wr.cell? ⟨B, k, none⟩ = some u → w5.cell? ⟨B, k, none⟩ = some u := fun B k u hB hu => F5.cell (fun h => by have := hown B h; omega) ((X4.alloc _).cell hu)
        replace e2 := X45 _ _ _ m2 e2
        replace e4 := X45 _ _ _ m4 e4
        replace x1 := X45 _ _ _ mX x1
        replace y1 := X45 _ _ _ mY y1
        have O5' : w5.ownsRow w2.heap.size 29 3 v5 (out.length + 2) (pcVals (out ++ [⟨bp.size, 0, ⟨#[]⟩⟩, ⟨0, 0, ap⟩])) := by rw [pcVals_append]; exact O5
        replace O5 := O5'
        clear HRD HON HO4 HSZ O5' X45 t0 t1 t2 o0 o1 o2 bt bo O4 E4 e1 e3 x0 y0 hO hg5 hat5
        obtain ⟨l5, k5, rfl, _⟩ := RdS.of_owns O5
        have HD := HD.out
        cases bd with
        | true =>
          have step : bhStep false (ap, ad) (bp, true) = [⟨bp.size, 0, ⟨#[]⟩⟩, ⟨0, 0, ap⟩] := rfl
          rw [step] at HD
          have HD2 : Hid ((out ++ [⟨bp.size, 0, ⟨#[]⟩⟩, ⟨0, 0, ap⟩]) ++ bhP false (a.drop (i + 1)) (b.drop (i + 1)) = bhP false a b) := Lib.hid (by rw [← HD]; simp only [List.append_assoc])
          have ho2 : (out ++ [⟨bp.size, 0, ⟨#[]⟩⟩, ⟨0, 0, ap⟩] : List Pc).length = out.length + 2 := by simp
          clear HD step
          go_wp2_with fail
          go_roundw
          case rel => exact ⟨i + 1, out ++ [⟨bp.size, 0, ⟨#[]⟩⟩, ⟨0, 0, ap⟩], by go_num, by omega, by rw [ho2]; exact O5, by rw [ho2]; omega, HD2, E5⟩
          case measure => simp [intOf]; omega
        | false =>
          cases ad with
          | true =>
            have step : bhStep false (ap, true) (bp, false) = [⟨bp.size, 0, ⟨#[]⟩⟩, ⟨0, 0, ap⟩] ++ [⟨0, 1, ⟨#[]⟩⟩] := rfl
            rw [step] at HD
            have HD2 : Hid ((out ++ [⟨bp.size, 0, ⟨#[]⟩⟩, ⟨0, 0, ap⟩] ++ [⟨0, 1, ⟨#[]⟩⟩]) ++ bhP false (a.drop (i + 1)) (b.drop (i + 1)) = bhP false a b) := Lib.hid (by rw [← HD]; simp only [List.append_assoc])
            have ho2 : (out ++ [⟨bp.size, 0, ⟨#[]⟩⟩, ⟨0, 0, ap⟩] : List Pc).length = out.length + 2 := by simp
            clear HD step
            have hRd : RdS (w5.alloc (.cells #[.int .i64 0, .int .i64 1, .string ⟨#[]⟩] 29)) 3 1 [.int .i64 0, .int .i64 1, .string ⟨#[]⟩] (.slice (some ⟨w5.heap.size, 0, none⟩) 1 1) := RdS.lits w5 [⟨0, 1, ⟨#[]⟩⟩] (by simp [maxLen])
            have hone : ∀ u ∈ ([.int .i64 0, .int .i64 1, .string ⟨#[]⟩] : List Value), u.oneCell' = true := vals_one' [⟨0, 1, ⟨#[]⟩⟩]
            have O5' : (w5.alloc (.cells #[.int .i64 0, .int .i64 1, .string ⟨#[]⟩] 29)).ownsRow w2.heap.size 29 3 (.slice l5 (out.length + 2) k5) (out.length + 2) (pcVals (out ++ [⟨bp.size, 0, ⟨#[]⟩⟩, ⟨0, 0, ap⟩])) := owns_ext ((Ext.refl w5).alloc _) O5
            have hsz : w2.heap.size ≤ (w5.alloc (.cells #[.int .i64 0, .int .i64 1, .string ⟨#[]⟩] 29)).heap.size := Nat.le_trans E5.size ((Ext.refl w5).alloc _).size
            have HRD := Lib.hid hRd
            have HON := Lib.hid hone
            have HO5 := Lib.hid O5'
            have HSZ := Lib.hid hsz
            clear hRd hone O5' hsz
            go_wp2_with (at_builtin; refine wpList_append_rd rfl rfl T22 (v := _) (by rfl) HO5.out (by rfl) HRD.out HON.out (by omega) (by simp only [maxLen]; omega) HSZ.out ?_)
            intro v6 w6 O6 hg6 hat6
            have F6 := Fr.grown hg6
            have E6 : Ext w2 w6 := Fr.ext (E5.alloc _) F6 (fun k hk => owns_base O5 k hk)
            go_wp2_with fail
            go_roundw
            case rel => exact ⟨i + 1, out ++ [⟨bp.size, 0, ⟨#[]⟩⟩, ⟨0, 0, ap⟩] ++ [⟨0, 1, ⟨#[]⟩⟩], by go_num, by omega, by rw [List.length_append, ho2, pcVals_append]; exact O6, by rw [List.length_append, ho2, List.length_singleton]; omega, HD2, E6⟩
            case measure => simp [intOf]; omega
          | false =>
            have step : bhStep false (ap, false) (bp, false) = [⟨bp.size, 0, ⟨#[]⟩⟩, ⟨0, 0, ap⟩] ++ [⟨1, 0, ⟨#[]⟩⟩] := rfl
            rw [step] at HD
            have HD2 : Hid ((out ++ [⟨bp.size, 0, ⟨#[]⟩⟩, ⟨0, 0, ap⟩] ++ [⟨1, 0, ⟨#[]⟩⟩]) ++ bhP false (a.drop (i + 1)) (b.drop (i + 1)) = bhP false a b) := Lib.hid (by rw [← HD]; simp only [List.append_assoc])
            have ho2 : (out ++ [⟨bp.size, 0, ⟨#[]⟩⟩, ⟨0, 0, ap⟩] : List Pc).length = out.length + 2 := by simp
            clear HD step
            have hRd : RdS (w5.alloc (.cells #[.int .i64 1, .int .i64 0, .string ⟨#[]⟩] 29)) 3 1 [.int .i64 1, .int .i64 0, .string ⟨#[]⟩] (.slice (some ⟨w5.heap.size, 0, none⟩) 1 1) := RdS.lits w5 [⟨1, 0, ⟨#[]⟩⟩] (by simp [maxLen])
            have hone : ∀ u ∈ ([.int .i64 1, .int .i64 0, .string ⟨#[]⟩] : List Value), u.oneCell' = true := vals_one' [⟨1, 0, ⟨#[]⟩⟩]
            have O5' : (w5.alloc (.cells #[.int .i64 1, .int .i64 0, .string ⟨#[]⟩] 29)).ownsRow w2.heap.size 29 3 (.slice l5 (out.length + 2) k5) (out.length + 2) (pcVals (out ++ [⟨bp.size, 0, ⟨#[]⟩⟩, ⟨0, 0, ap⟩])) := owns_ext ((Ext.refl w5).alloc _) O5
            have hsz : w2.heap.size ≤ (w5.alloc (.cells #[.int .i64 1, .int .i64 0, .string ⟨#[]⟩] 29)).heap.size := Nat.le_trans E5.size ((Ext.refl w5).alloc _).size
            have HRD := Lib.hid hRd
            have HON := Lib.hid hone
            have HO5 := Lib.hid O5'
            have HSZ := Lib.hid hsz
            clear hRd hone O5' hsz
            go_wp2_with (at_builtin; refine wpList_append_rd rfl rfl T22 (v := _) (by rfl) HO5.out (by rfl) HRD.out HON.out (by omega) (by simp only [maxLen]; omega) HSZ.out ?_)
            intro v6 w6 O6 hg6 hat6
            have F6 := Fr.grown hg6
            have E6 : Ext w2 w6 := Fr.ext (E5.alloc _) F6 (fun k hk => owns_base O5 k hk)
            go_wp2_with fail
            go_roundw
            case rel => exact ⟨i + 1, out ++ [⟨bp.size, 0, ⟨#[]⟩⟩, ⟨0, 0, ap⟩] ++ [⟨1, 0, ⟨#[]⟩⟩], by go_num, by omega, by rw [List.length_append, ho2, pcVals_append]; exact O6, by rw [List.length_append, ho2, List.length_singleton]; omega, HD2, E6⟩
            case measure => simp [intOf]; omega
    · have HF : Hid (out = bhP first a b) := Lib.hid (by rw [← HW.out, bhP_nil first (List.drop_eq_nil_of_le (by rw [HL.out]; exact hlt)), List.append_nil])
      obtain ⟨z1, z2⟩ := bhP_nn first a b ba bb
      rw [HL.out] at z2
      rw [← HF.out] at z1 z2
      have okp : ∀ q ∈ out, okStr q.put := fun q hq => by
        have h1 := wt_mem z1 hq
        have h2 := z1 q hq
        unfold okStr maxLen; omega
      have hn := normR_any out _ wr (RdP.of_owns hO okp) z1 (by omega) (by omega)
      have EE := E2.trans hE
      obtain ⟨lA, lc, rfl, _⟩ := RdS.of_owns hO
      clear HW hO hE okp hol z1 z2 A1 A2 B1 B2
      go_wp2_with fail
      refine hn.mono ?_
      clear hn
      rintro e w5 ⟨v5, rfl, O5, E5⟩
      go_wp2_with fail
      go_ret
      rw [← HF.out]
      exact ⟨_, rfl, owns_mono O5 (by have := EE.size; omega), EE.trans E5⟩
end Go.Proofs.Ytmncjknfkkedmaa.Lx
