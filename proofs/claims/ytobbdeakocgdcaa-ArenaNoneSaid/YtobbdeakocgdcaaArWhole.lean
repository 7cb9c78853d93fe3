/- Chapter 07: Whole (17). -/
import Derived.Test.YtobbdeakocgdcaaArCount
namespace Go.Proofs.Ytobbdeakocgdcaa.Ar
open Go.RowKit Go.Proofs.Ytobbdeakocgdcaa.Bw

/-- Each number stands once among the live ones and the free ones. -/
theorem TI.once {S : St} {d : Nat → Nat} (h : TI S d) {l : List Nat} (hp : PreL S [0] l) : ∀ x ∈ cntL (l ++ S.free) S.sl.length, x = 1 := by
  intro x hx
  unfold cntL at hx
  obtain ⟨m, hm, rfl⟩ := List.mem_map.1 hx
  have hm := List.mem_range.1 hm
  obtain ⟨r, hr0, hr1, _⟩ := h.root
  have hliv : ∀ k ∈ [0], ∃ s : Sl, S.sl[k]? = some s ∧ s.live = true := by intro k hk; rw [List.mem_singleton.1 hk]; exact ⟨r, hr0, hr1⟩
  have hnd := hp.nodup h hliv (List.pairwise_singleton _ _)
  obtain ⟨s, hs⟩ : ∃ s, S.sl[m]? = some s := ⟨_, List.getElem?_eq_getElem hm⟩
  rw [List.count_append]
  rcases hl : s.live with _ | _
  · have h1 := (h.dead m s hs hl).2
    have h2 : m ∉ l := by
      intro hml
      obtain ⟨⟨s', h3, h4⟩, _⟩ := hp.under h hliv m hml
      rw [hs] at h3; cases h3
      rw [hl] at h4; cases h4
    rw [List.count_eq_zero.2 h2, h.fnd.count, if_pos h1]
  · have h1 : m ∈ l := hp.all h (h.top (d m) m s (Nat.le_refl _) hs hl) ⟨s, hs, hl⟩ (by simp)
    have h2 : m ∉ S.free := by
      intro hf
      obtain ⟨s', h3, h4⟩ := h.fr m hf
      rw [hs] at h3; cases h3
      rw [hl] at h4; cases h4
    rw [List.count_eq_zero.2 h2, hnd.count, if_pos h1]
theorem count_le_len (l : List Nat) (x : Nat) : l.count x ≤ l.length := List.count_le_length

section
variable {w : World} {ρ : Nat → Tg} {base A : Nat} {S : St} {sv fv : Value} {bs : List Nat}
theorem whole_nil (w : World) : Calls Try.prog 17 #[.pointer none] w fun e w' => e = .returned (.bool false) ∧ w' = w := by
  go_enter Try.func17, Try.ntmps17
  go_wp2_with fail
  go_ret
  exact ⟨rfl, rfl⟩
set_option maxRecDepth 100000 in
set_option maxHeartbeats 8000000 in
theorem whole_any {d : Nat → Nat} (h : AP w ρ base A S sv fv bs) (ht : TI S d) (hbig : bs.length ≤ 1000000) :
    Calls Try.prog 17 #[.pointer (some ⟨A, 0, none⟩)] w (Ret w fun r _ => r = .bool true) := by
  obtain ⟨r, hr0, hr1, hr2⟩ := ht.root
  obtain ⟨l', hp, -⟩ := ht.pre1 hr0 hr1
  obtain ⟨l, hll⟩ : ∃ l, 0 :: l' = l := ⟨_, rfl⟩
  rw [hll] at hp
  have hliv : ∀ k ∈ [0], ∃ s : Sl, S.sl[k]? = some s ∧ s.live = true := by intro k hk; rw [List.mem_singleton.1 hk]; exact ⟨r, hr0, hr1⟩
  have hlle : l.length ≤ S.sl.length := nodup_len _ _ (hp.nodup ht hliv (List.pairwise_singleton _ _)) hp.lt
  have hones := ht.once hp
  have hlv : ∀ x ∈ l, ∃ s : Sl, S.sl[x]? = some s ∧ s.live = true := fun x hx => (hp.under ht hliv x hx).1
  obtain ⟨N, hN⟩ : ∃ N, S.sl.length = N := ⟨_, rfl⟩
  have hNb : N ≤ 1000000 := by rw [← hN]; exact h.big.1
  have hfb := h.big.2.1
  have hroom : N ≤ 16 * bs.length := by rw [← hN]; exact h.room
  have hmk : ∀ W, (Instr.makeSlice 33 (.int .i64 (N : Int)) (.int .i64 (N : Int))).run Try.prog W = .ok (.slice (some ⟨W.heap.size, 0, none⟩) N N) (W.alloc (.cells (madeCells #[.int .i64 0] N) 3)) := fun W => run_make_row' (P := Try.prog) 33 3 (.int .i64 0) 8 Try.underlying33 (by kernel_rfl) rfl .i64 .i64 N (by omega) (by omega) W
  have c1 : w.cell? ⟨A, 1, none⟩ = some (.int .i64 (N : Int)) := by rw [h.box.cell, ← hN]; rfl
  have HH := Lib.hid h
  have HT := Lib.hid ht
  have HP := Lib.hid hp
  rw [hN] at hones
  have HONE := Lib.hid hones
  -- a slot of the arena, in whatever world goes on from w
  have HSL := Lib.hid (show ∀ m, m < N → ∃ b kv, (∀ W, Ext w W → Calls Try.prog 29 #[.pointer (some ⟨A, 0, none⟩), .int .i64 (m : Int)] W fun e w' => e = .returned (.pointer (some ⟨b, m % 16 * 8, none⟩)) ∧ w' = W) ∧
      (∀ W, Ext w W → W.cell? ⟨b, m % 16 * 8, none⟩ = some (.bool (S.get m).live) ∧ W.cell? ⟨b, m % 16 * 8 + 6, none⟩ = some (.int .i64 (S.get m).parent) ∧ W.cell? ⟨b, m % 16 * 8 + 7, none⟩ = some kv ∧ W.ownsRow base 3 1 kv (S.get m).kids.length (ints (S.get m).kids)) from by
    intro m hm
    have hm16 : m < 16 * bs.length := Nat.lt_of_lt_of_le hm hroom
    obtain ⟨b, cs, av, kv, f1, f2, f3, f4, f5, f6⟩ := h.slot hm16
    have hsl : slotAt bs m = ⟨b, m % 16 * 8, none⟩ := by rw [slotAt, f2]
    refine ⟨b, kv, fun W E => ?_, fun W E => ?_⟩
    · have := at_any (h.ext E) m hm16 hbig
      rwa [hsl] at this
    · have g := f3.ext E
      exact ⟨by rw [g.cell]; exact f5 0 _ rfl, by rw [g.cell]; exact f5 6 _ rfl, by rw [g.cell]; exact f5 7 _ rfl, owns_ext E f6.ks⟩)
  have HKD := Lib.hid (show ∀ x ∈ l, x < N ∧ (S.get x).kids.length ≤ 1000000 ∧ ∀ y ∈ (S.get x).kids, y < N ∧ (S.get y).live = true ∧ (S.get y).parent = (x : Int) from by
    intro x hx
    obtain ⟨s, hs, hl⟩ := hlv x hx
    refine ⟨by rw [← hN]; exact lt_of_get hs, h.big.2.2 x, fun y hy => ?_⟩
    rw [St.get_of hs] at hy
    obtain ⟨_, t, h1, h2, h3⟩ := ht.down x s hs hl y hy
    rw [St.get_of h1]
    exact ⟨by rw [← hN]; exact lt_of_get h1, h2, h3⟩)
  have HFR := Lib.hid (show ∀ x ∈ S.free, x < N from fun x hx => by obtain ⟨s, hs, _⟩ := ht.fr x hx; rw [← hN]; exact lt_of_get hs)
  have HFV := Lib.hid (show ∀ W, Ext w W → W.cell? ⟨A, 2, none⟩ = some fv ∧ W.ownsRow base 3 1 fv S.free.length (ints S.free) from fun W E => ⟨(h.box.ext E).cell 2, owns_ext E h.fre⟩)
  have HR0 := Lib.hid (show (S.get 0).parent = -1 from by rw [St.get_of hr0]; exact hr2)
  have h0N : 0 < N := by rw [← hN]; exact lt_of_get hr0
  have hln : l.length ≤ N := by rw [← hN]; exact hlle
  obtain ⟨W1, hW1⟩ : ∃ W, w.alloc (.cells (madeCells #[.int .i64 0] N) 3) = W := ⟨_, rfl⟩
  have E1 : Ext w W1 := by rw [← hW1]; exact (Ext.refl _).alloc _
  have hsee : W1.ownsRow w.heap.size 3 1 (.slice (some ⟨w.heap.size, 0, none⟩) N N) N (ints (cntL (l.take 0) N)) := by
    have hb : NBox W1 w.heap.size 3 (madeCells #[.int .i64 0] N) := by rw [← hW1]; exact NBox.new _ _ _
    have hsz : (madeCells #[Value.int .i64 0] N).size = N := by rw [size_madeCells]
    refine owns_mk (Nat.le_refl _) hb (Nat.le_refl _) (by simp only [maxLen]; omega) (by rw [hsz, Nat.mul_one]) (by rw [ints_len, cntL_len, Nat.mul_one]) (fun j u hu => ?_)
    obtain ⟨c, hc, rfl⟩ := ints_get hu
    have hj : j < N := by have := (List.getElem?_eq_some_iff.1 hc).1; rwa [cntL_len] at this
    rw [List.take_zero, cntL_at hj] at hc
    obtain rfl : 0 = c := by simpa using hc
    simp [madeCells, hj, Nat.mod_one]
  have hsub := subtree_any (h.ext E1) 0 l hp (by omega) hbig
  have hsz1 : w.heap.size < W1.heap.size := by rw [← hW1, World.size_alloc]; omega
  have HW1 := Lib.hid hW1
  have HSEE := Lib.hid hsee
  have HE1 := Lib.hid E1
  clear h ht hp hN hones hlv hliv hr0 hr1 hr2 hlle hll hroom hW1 hsee E1 HH HT HP
  go_enter Try.func17, Try.ntmps17
  go_upto_region 4 with fail
  rw [HW1.out]
  go_wp2_with (go_at_call 39; refine hsub.mono ?_; clear hsub; rintro e w2 ⟨lv, rfl, hO, E2⟩; obtain ⟨lA, lc, rfl, -, -⟩ := owns_slice hO)
  have HX0 := Lib.hid (HE1.out.trans E2)
  have HS0 := Lib.hid (owns_ext E2 HSEE.out)
  have HO0 := Lib.hid hO
  clear hO E2 HSEE HE1 HW1 c1 hmk
  go_loopw [20] (fun s20 wr => ∃ k : Nat, s20 = .int .i64 (k : Int) ∧ k ≤ l.length ∧ Hid (Ext w wr) ∧ Hid (wr.ownsRow w.heap.size 3 1 (.slice (some ⟨w.heap.size, 0, none⟩) N N) N (ints (cntL (l.take k) N))) ∧ Hid (wr.ownsRow W1.heap.size 3 1 (.slice lA l.length lc) l.length (ints l))) (fun s20 _ => l.length - (intOf s20).toNat)
  case atStart => exact ⟨0, rfl, Nat.zero_le _, HX0, HS0, HO0⟩
  case round =>
    clear HX0 HS0 HO0
    obtain ⟨k, rfl, hk, HX, HS, HO⟩ := hrel
    rcases Nat.lt_or_ge k l.length with hkl | hkl
    · obtain ⟨x, hx⟩ : ∃ x, l[k]? = some x := ⟨_, List.getElem?_eq_getElem hkl⟩
      obtain ⟨hxN, hkxl, hkids⟩ := HKD.out x (List.mem_of_getElem? hx)
      obtain ⟨g, hlA⟩ : ∃ g, lA = some ⟨g, 0, none⟩ := by
        rcases owns_form HO.out with ⟨_, q, _⟩ | ⟨g, _, _, q, _⟩
        · omega
        · exact ⟨g, by cases q; rfl⟩
      subst hlA
      have hgw : w.heap.size < g := Nat.lt_of_lt_of_le hsz1 (HO.out.lt g rfl).1
      obtain ⟨cx, -⟩ := owns_at HO.out (ints_at hx)
      obtain ⟨cc, fc⟩ := owns_at HS.out (ints_at (cntL_at (l := l.take k) hxN))
      have hcb : (l.take k).count x ≤ 1000000 := by
        have := count_le_len (l.take k) x
        rw [List.length_take] at this
        omega
      obtain ⟨cn, hcn⟩ : ∃ c, (l.take k).count x = c := ⟨_, rfl⟩
      rw [hcn] at cc hcb
      have F1 := Fr.setCell wr w.heap.size x (.int .i64 ((cn : Int) + 1))
      obtain ⟨W2, hW2⟩ : ∃ W, wr.setCell ⟨w.heap.size, x, none⟩ (.int .i64 ((cn : Int) + 1)) = W := ⟨_, rfl⟩
      rw [hW2] at F1
      have HX2 := Lib.hid (Fr.ext HX.out F1 (fun i e => Nat.le_of_eq (Eq.symm e)))
      have HO2 := Lib.hid (owns_fr F1 HO.out (fun y hy e => by cases hy; have : g = w.heap.size := e; omega))
      have HS2 := Lib.hid (show W2.ownsRow w.heap.size 3 1 (.slice (some ⟨w.heap.size, 0, none⟩) N N) N (ints (cntL (l.take (k + 1)) N)) from by
        have := owns_set HS.out x (.int .i64 ((cn : Int) + 1))
        rw [hW2] at this
        rw [List.take_add_one, hx]
        show W2.ownsRow _ 3 1 _ N (ints (cntL (l.take k ++ [x]) N))
        rw [← cntL_set, hcn]
        have e : ints ((cntL (l.take k) N).set x (cn + 1)) = (ints (cntL (l.take k) N)).set x (.int .i64 ((cn : Int) + 1)) := by rw [ints, ints, List.map_set]; rfl
        rw [e]; exact this)
      have HW2 := Lib.hid hW2
      clear hW2 F1 HX HS HO hcn
      obtain ⟨b, kv, hat, hcs⟩ := HSL.out x hxN
      obtain ⟨-, -, c7, hks⟩ := hcs W2 HX2.out
      obtain ⟨kA, kc, rfl, -, -⟩ := owns_slice hks
      have HAT := Lib.hid hat
      have HKS := Lib.hid hks
      have HKIDS := Lib.hid hkids
      clear hat hcs hks hkids
      generalize S.get x = sx at *
      go_upto_region 8 with fail
      rw [HW2.out]
      clear cc fc cx
      go_wp2_with (go_at_call 29; refine (HAT.out _ HX2.out).mono ?_; rintro e u ⟨rfl, rfl⟩)
      go_loopw [37] (fun s37 wr => ∃ j : Nat, s37 = .int .i64 (j : Int) ∧ j ≤ sx.kids.length ∧ Hid (wr = u)) (fun s37 _ => sx.kids.length - (intOf s37).toNat)
      case atStart => exact ⟨0, rfl, Nat.zero_le _, Lib.hid rfl⟩
      case round =>
        obtain ⟨j, rfl, hj, HR⟩ := hrel
        obtain rfl := HR.out
        clear HR
        rcases Nat.lt_or_ge j sx.kids.length with hjl | hjl
        · obtain ⟨y, hy⟩ : ∃ y, sx.kids[j]? = some y := ⟨_, List.getElem?_eq_getElem hjl⟩
          obtain ⟨hyN, hyl, hyp⟩ := HKIDS.out y (List.mem_of_getElem? hy)
          obtain ⟨gk, hkA⟩ : ∃ g, kA = some ⟨g, 0, none⟩ := by
            rcases owns_form HKS.out with ⟨_, q, _⟩ | ⟨g, _, _, q, _⟩
            · omega
            · exact ⟨g, by cases q; rfl⟩
          subst hkA
          obtain ⟨cy, -⟩ := owns_at HKS.out (ints_at hy)
          obtain ⟨b', kv', hat', hcs'⟩ := HSL.out y hyN
          obtain ⟨e0, e6, -, -⟩ := hcs' _ HX2.out
          rw [hyl] at e0
          rw [hyp] at e6
          have HAT' := Lib.hid hat'
          clear hat' hcs' hyl hyp hy c7
          go_wp2_with (go_at_call 29; refine (HAT'.out _ HX2.out).mono ?_; rintro e v ⟨rfl, rfl⟩)
          go_roundw
          case rel => exact ⟨j + 1, by go_num, by omega, Lib.hid trivial⟩
          case measure => simp [intOf]; omega
        · go_wp2_with fail
          go_roundw
          case rel => exact ⟨k + 1, by go_num, by omega, HX2, HS2, HO2⟩
          case measure => simp [intOf]; omega
    · obtain rfl : k = l.length := by omega
      rw [List.take_length] at HS
      obtain ⟨c2, hfo⟩ := HFV.out _ HX.out
      obtain ⟨fA, fc, rfl, -, -⟩ := owns_slice hfo
      clear HO hfo
      have HS0 := Lib.hid (show wr.ownsRow w.heap.size 3 1 (.slice (some ⟨w.heap.size, 0, none⟩) N N) N (ints (cntL (l ++ S.free.take 0) N)) from by rw [List.take_zero, List.append_nil]; exact HS.out)
      clear HS
      go_wp2_with fail
      go_loopw [65] (fun s65 wr => ∃ k : Nat, s65 = .int .i64 (k : Int) ∧ k ≤ S.free.length ∧ Hid (Ext w wr) ∧ Hid (wr.ownsRow w.heap.size 3 1 (.slice (some ⟨w.heap.size, 0, none⟩) N N) N (ints (cntL (l ++ S.free.take k) N)))) (fun s65 _ => S.free.length - (intOf s65).toNat)
      case atStart => exact ⟨0, rfl, Nat.zero_le _, HX, HS0⟩
      case round =>
        clear HX HS0
        obtain ⟨k, rfl, hk, HX, HS⟩ := hrel
        rcases Nat.lt_or_ge k S.free.length with hkl | hkl
        · obtain ⟨x, hx⟩ : ∃ x, S.free[k]? = some x := ⟨_, List.getElem?_eq_getElem hkl⟩
          have hxN := HFR.out x (List.mem_of_getElem? hx)
          obtain ⟨-, hfo⟩ := HFV.out _ HX.out
          obtain ⟨g, hfA⟩ : ∃ g, fA = some ⟨g, 0, none⟩ := by
            rcases owns_form hfo with ⟨_, q, _⟩ | ⟨g, _, _, q, _⟩
            · omega
            · exact ⟨g, by cases q; rfl⟩
          subst hfA
          obtain ⟨cx, -⟩ := owns_at hfo (ints_at hx)
          obtain ⟨cc, fc'⟩ := owns_at HS.out (ints_at (cntL_at (l := l ++ S.free.take k) hxN))
          have hcb : (l ++ S.free.take k).count x ≤ 2000000 := by
            have := count_le_len (l ++ S.free.take k) x
            rw [List.length_append, List.length_take] at this
            omega
          obtain ⟨cn, hcn⟩ : ∃ c, (l ++ S.free.take k).count x = c := ⟨_, rfl⟩
          rw [hcn] at cc hcb
          have F1 := Fr.setCell wr w.heap.size x (.int .i64 ((cn : Int) + 1))
          obtain ⟨W2, hW2⟩ : ∃ W, wr.setCell ⟨w.heap.size, x, none⟩ (.int .i64 ((cn : Int) + 1)) = W := ⟨_, rfl⟩
          rw [hW2] at F1
          have HX2 := Lib.hid (Fr.ext HX.out F1 (fun i e => Nat.le_of_eq (Eq.symm e)))
          have HS2 := Lib.hid (show W2.ownsRow w.heap.size 3 1 (.slice (some ⟨w.heap.size, 0, none⟩) N N) N (ints (cntL (l ++ S.free.take (k + 1)) N)) from by
            have := owns_set HS.out x (.int .i64 ((cn : Int) + 1))
            rw [hW2] at this
            rw [List.take_add_one, hx]
            show W2.ownsRow _ 3 1 _ N (ints (cntL (l ++ (S.free.take k ++ [x])) N))
            rw [← List.append_assoc, ← cntL_set, hcn]
            have e : ints ((cntL (l ++ S.free.take k) N).set x (cn + 1)) = (ints (cntL (l ++ S.free.take k) N)).set x (.int .i64 ((cn : Int) + 1)) := by rw [ints, ints, List.map_set]; rfl
            rw [e]; exact this)
          have HW2 := Lib.hid hW2
          clear hW2 F1 HX HS hcn hfo hx
          go_upto_region 19 with fail
          rw [HW2.out]
          clear cc fc' cx
          go_wp2_with fail
          go_roundw
          case rel => exact ⟨k + 1, by go_num, by omega, HX2, HS2⟩
          case measure => simp [intOf]; omega
        · obtain rfl : k = S.free.length := by omega
          rw [List.take_length] at HS
          have hrow := HS.out
          have hlen : (cntL (l ++ S.free) N).length = N := cntL_len _ _
          rw [show wr.ownsRow w.heap.size 3 1 (.slice (some ⟨w.heap.size, 0, none⟩) N N) N (ints (cntL (l ++ S.free) N)) = wr.ownsRow w.heap.size 3 1 (.slice (some ⟨w.heap.size, 0, none⟩) N N) (cntL (l ++ S.free) N).length (ints (cntL (l ++ S.free) N)) by rw [hlen]] at hrow
          have hc40 := contains_ones _ _ _ _ hrow HONE.out (by omega)
          obtain ⟨b, kv, hat, hcs⟩ := HSL.out 0 h0N
          obtain ⟨-, c6, -, -⟩ := hcs _ HX.out
          rw [HR0.out] at c6
          have hat0 := hat _ HX.out
          clear hrow hlen HS hat hcs c2
          go_wp2_with (first
            | (go_at_call 40; refine hc40.mono ?_; rintro e v ⟨rfl, rfl⟩)
            | (go_at_call 29; refine hat0.mono ?_; rintro e v ⟨rfl, rfl⟩))
          go_ret
          exact ⟨_, rfl, rfl, HX.out⟩
end
end Go.Proofs.Ytobbdeakocgdcaa.Ar
