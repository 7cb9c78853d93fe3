/- Chapter 07: Remove (24). -/
import Derived.Test.YtobbdeakocgdcaaArSub
namespace Go.Proofs.Ytobbdeakocgdcaa.Ar
open Go.RowKit Go.Proofs.Ytobbdeakocgdcaa.Bw

section
variable {w : World} {ρ : Nat → Tg} {base A : Nat} {S : St} {sv fv : Value} {bs : List Nat}
theorem subtree_any (h : AP w ρ base A S sv fv bs) (n : Nat) (l : List Nat) (hp0 : PreL S [n] l) (hll : l.length ≤ 1000000) (hbig : bs.length ≤ 1000000) :
    Calls Try.prog 39 #[.pointer (some ⟨A, 0, none⟩), .int .i64 (n : Int)] w (Ret w fun r w' => w'.ownsRow w.heap.size 3 1 r l.length (ints l)) := callsIn_wide.1 (sub_in h n l hp0 hll hbig)

/-- A slot is emptied. -/
theorem AP.empty (h : AP w ρ base A S sv fv bs) {x b : Nat} {cs : Array Value} {av kv : Value} (hx : x < S.sl.length) (hb : bs[x / 16]? = some b) (hc : NBox w b 86 cs) (hsz : cs.size = 128) (hl : Lies (fun i => cs[i]?) (x % 16 * 8) (slCells (S.get x) av kv)) :
    AP (w.setCells b (x % 16 * 8 + 0) zero8) ρ base A ⟨S.sl.set x Sl.zero, S.free⟩ sv fv bs ∧ Step w ρ (w.setCells b (x % 16 * 8 + 0) zero8) ρ := by
  refine ⟨?_, h.put_step (Fr.refl _ (fun k => ρ k = .kids x)) hb _ (fun _ _ => rfl)⟩
  exact h.put (s' := Sl.zero) (av' := .slice none 0 0) (kv' := .slice none 0 0) hx (Fr.refl _ _) (fun _ _ => rfl) (fun g hg => (h.old g hg).2) hb hc hsz hl (by simp [zero8, slCells]) (zero_in _ _ _ _) rfl (Nat.zero_le _)
/-- One more number is free. -/
theorem AP.freePush (h : AP w ρ base A S sv fv bs) {x : Nat} {o : Obj} {w9 : World} {v9 : Value} (hg : (w.alloc o).grownBy w9 fv.ownBlock) (hat : v9.ownBlock = fv.ownBlock ∨ v9.ownBlock = some (w.alloc o).heap.size) (hO : w9.ownsRow base 3 1 v9 (S.free.length + 1) (ints S.free ++ [.int .i64 (x : Int)])) (hlen : S.free.length < 1000000) :
    NBox w9 A 65 #[sv, .int .i64 (S.sl.length : Int), fv] ∧ ∃ ρ', AP (w9.setCell ⟨A, 2, none⟩ v9) ρ' base A ⟨S.sl, S.free ++ [x]⟩ sv v9 bs ∧ Step w ρ (w9.setCell ⟨A, 2, none⟩ v9) ρ' := by
  have EA : Ext w (w.alloc o) := (Ext.refl _).alloc _
  have hsz : (w.alloc o).heap.size = w.heap.size + 1 := by simp [World.size_alloc]
  have F9 : Fr w w9 (fun k => ρ k = .free) := ⟨hg.os.trans EA.os, hg.tape.trans EA.tape, hg.output.trans EA.output, by have := hg.size; omega, fun k hk hn => (hg.block k (by omega) (fun e => hn (h.fret k e.symm))).trans (EA.block k hk)⟩
  have b9 : NBox w9 A 65 #[sv, .int .i64 (S.sl.length : Int), fv] := h.box.fr F9 (by rw [h.boxt]; intro e; cases e)
  have FA := Fr.setCell w9 A 2 v9
  have hvA : ∀ g, v9.ownBlock = some g → ¬ g = A := by
    intro g hg' e
    subst e
    rcases hat with h1 | h1
    · have := h.fret g (h1.symm.trans hg')
      rw [h.boxt] at this; cases this
    · have := Option.some.inj (h1.symm.trans hg')
      have := h.box.lt
      omega
  refine ⟨b9, tagNew ρ w.heap.size v9.ownBlock .free, ?_, ⟨?_, fun g hg => tagNew_old hg⟩⟩
  · refine h.freed (f := S.free ++ [x]) ((F9.mono (fun _ _ h => .inr (.inl h))).trans (FA.mono (fun _ _ h => .inl h))) (b9.set 2 _) ?_ (fun g hg' => ?_) (fun g hg => tagNew_old hg) (tagNew_lt ?_ ?_) (by simp; omega)
    · rw [List.length_append, ints_app]
      exact owns_fr FA hO hvA
    · rcases hat with h1 | h1
      · rw [tagNew_old (h.fre.lt g (h1.symm.trans hg')).2]
        exact h.fret g (h1.symm.trans hg')
      · have := Option.some.inj (h1.symm.trans hg')
        exact tagNew_new (by omega) hg'
    · exact Nat.le_trans F9.size FA.size
    · intro g hg'
      have := (hO.lt g hg').2
      simpa [World.setCell] using this
  · refine (F9.mono (T := fun k => ρ k ≠ .no) (fun k _ e => by rw [e]; intro e; cases e)).trans (FA.mono (fun k _ e => by rw [e, h.boxt]; intro e; cases e))

theorem remove_nil (n : Int) (w : World) : Calls Try.prog 24 #[.pointer none, .int .i64 n] w fun e w' => e = .returned (.int .i64 1) ∧ w' = w := by
  go_enter Try.func24, Try.ntmps24
  go_wp2_with fail
  go_ret
  exact ⟨rfl, rfl⟩
theorem remove_no (h : AP w ρ base A S sv fv bs) (n : Int) (hn : ∀ k : Nat, n = (k : Int) → k < S.sl.length → (S.get k).live = false) (hbig : bs.length ≤ 1000000) :
    Calls Try.prog 24 #[.pointer (some ⟨A, 0, none⟩), .int .i64 n] w fun e w' => e = .returned (.int .i64 5) ∧ w' = w := by
  have hc := live_no h n hn hbig
  clear h hn
  go_enter Try.func24, Try.ntmps24
  go_wp2_with (go_at_call 42; refine hc.mono ?_; rintro e w1 ⟨rfl, rfl⟩)
  go_ret
  exact ⟨rfl, rfl⟩
theorem remove_root (h : AP w ρ base A S sv fv bs) (h0 : 0 < S.sl.length) (hl : (S.get 0).live = true) (hbig : bs.length ≤ 1000000) :
    Calls Try.prog 24 #[.pointer (some ⟨A, 0, none⟩), .int .i64 0] w fun e w' => e = .returned (.int .i64 82) ∧ w' = w := by
  have hc := live_yes h 0 h0 hl hbig
  generalize slotAt bs 0 = sp at *
  clear h hl
  go_enter Try.func24, Try.ntmps24
  go_wp2_with (go_at_call 42; refine hc.mono ?_; rintro e w1 ⟨rfl, rfl⟩)
  go_ret
  exact ⟨rfl, rfl⟩

set_option maxRecDepth 100000 in
set_option maxHeartbeats 4000000 in
theorem remove_yes (h : AP w ρ base A S sv fv bs) (n p : Nat) (l : List Nat) (hn : n < S.sl.length) (hl : (S.get n).live = true) (h0 : n ≠ 0) (hp : p < S.sl.length) (hpar : (S.get n).parent = (p : Int)) (hm : n ∈ (S.get p).kids)
    (hpre : PreL (S.setKids p ((S.get p).kids.erase n)) [n] l) (hll : l.length ≤ 900000) (hfl : S.free.length ≤ 90000) (hlt : ∀ x ∈ l, x < S.sl.length) (hbig : bs.length ≤ 1000000) :
    Calls Try.prog 24 #[.pointer (some ⟨A, 0, none⟩), .int .i64 (n : Int)] w fun e w' => e = .returned (.int .i64 0) ∧ ∃ ρ' fv', AP w' ρ' base A (S.remove n p l) sv fv' bs ∧ Step w ρ w' ρ' := by
  have hc := live_yes h n hn hl hbig
  have hu := unlink_any h n p hn hp hpar hm hbig
  have t1 : decide ((n : Int) = 0) = false := decide_eq_false (by omega)
  have t2 : ((n : Int) == 0) = false := by simp; omega
  obtain ⟨S1, hS1⟩ : ∃ S1, S.setKids p ((S.get p).kids.erase n) = S1 := ⟨_, rfl⟩
  have hrem : S.remove n p l = S1.zeroAll l := by rw [St.remove, hS1]
  have hlen1 : S1.sl.length = S.sl.length := by rw [← hS1, St.setKids]; simp
  have hfr1 : S1.free = S.free := by rw [← hS1]; rfl
  rw [hS1] at hpre hu
  rw [hrem]
  generalize slotAt bs n = sp at *
  clear hrem hS1 hl hpar hm
  rw [← hlen1] at hlt
  rw [← hfr1] at hfl
  clear hlen1 hfr1 hn hp
  have hll1 : l.length ≤ 1000000 := by omega
  go_enter Try.func24, Try.ntmps24
  go_wp2_with (first
    | (go_at_call 42; refine hc.mono ?_; rintro e w1 ⟨rfl, rfl⟩)
    | (go_at_call 46; refine hu.mono ?_; clear hu hc; rintro e w2 ⟨rfl, ρ2, h2, S2⟩; have hsub := subtree_any h2 n l hpre hll1 hbig)
    | (go_at_call 39; refine hsub.mono ?_; clear hsub; rintro e w3 ⟨r, rfl, hO3, E3⟩; have h3 := h2.ext E3; obtain ⟨lA, lc, rfl, -, -⟩ := owns_slice hO3))
  have HL := Lib.hid (show ∀ wr ρ', Step w3 ρ2 wr ρ' → wr.ownsRow w2.heap.size 3 1 (.slice lA l.length lc) l.length (ints l) from fun wr ρ' hS => by
    refine owns_fr hS.fr hO3 (fun g hg e => e ?_)
    have hge := (hO3.lt g hg).1
    rcases hx : ρ2 g with _ | _ | _ | _ | _ | _ | _
    · rfl
    all_goals (have := (h2.old g (by rw [hx]; intro e; cases e)).2; omega))
  have H3 := Lib.hid h3
  have HS2 := Lib.hid (S2.trans (Step.ext E3))
  have HS1l := Lib.hid (show S1.sl.length ≤ 16 * bs.length from h2.room)
  clear h h2 h3 S2 E3 hpre hO3
  go_loopw [25] (fun s25 wr => ∃ (k : Nat) (ρ' : Nat → Tg) (fv' : Value), s25 = .int .i64 (k : Int) ∧ k ≤ l.length ∧ Hid (AP wr ρ' base A (S1.zeroAll (l.take k)) sv fv' bs) ∧ Hid (Step w3 ρ2 wr ρ')) (fun s25 _ => l.length - (intOf s25).toNat)
  case atStart => exact ⟨0, ρ2, _, rfl, Nat.zero_le _, Lib.hid (by rw [List.take_zero, zeroAll_nil]; exact H3.out), Lib.hid (Step.refl _ _)⟩
  case round =>
    obtain ⟨k, ρ', fv', rfl, hk, HA, HS⟩ := hrel
    rcases Nat.lt_or_ge k l.length with hkl | hkl
    · obtain ⟨x, hx⟩ : ∃ x, l[k]? = some x := ⟨_, List.getElem?_eq_getElem hkl⟩
      have hxl := hlt x (List.mem_of_getElem? hx)
      have hx16 : x < 16 * bs.length := Nat.lt_of_lt_of_le hxl HS1l.out
      have hA := HA.out
      have hxz : x < (S1.zeroAll (l.take k)).sl.length := by rw [St.zeroAll]; exact Nat.lt_of_lt_of_eq hxl (foldl_len _ _).symm
      have hc := at_any hA x hx16 hbig
      obtain ⟨b, cs, av, kv, f1, f2, f3, f4, f5, f6⟩ := hA.slot hx16
      have hsl : slotAt bs x = ⟨b, x % 16 * 8, none⟩ := by rw [slotAt, f2]
      rw [hsl] at hc
      obtain ⟨hA1, hS1⟩ := hA.empty hxz f1 f3 f4 f5
      have hrow := HL.out wr ρ' HS.out
      obtain ⟨g, hlA⟩ : ∃ g, lA = some ⟨g, 0, none⟩ := by
        rcases owns_form hrow with ⟨_, q, _⟩ | ⟨g, _, _, q, _⟩
        · omega
        · exact ⟨g, by cases q; rfl⟩
      have cx : wr.cell? ⟨g, k, none⟩ = some (.int .i64 (x : Int)) := by
        have := hrow.cells (g := g) (by rw [hlA]; rfl) k _ (ints_at hx)
        rwa [Addr.add_lit, Nat.zero_add] at this
      have hlc : (l.length : Int) ≤ 1000000 := by omega
      subst hlA
      obtain ⟨aA, ac, hav, -⟩ := id f6.da.ats
      obtain ⟨kA, kc, hkv, -⟩ := owns_slice f6.ks
      obtain ⟨q, hq⟩ : ∃ q, (S1.zeroAll (l.take k)).get x = q := ⟨_, rfl⟩
      have hqa : ((S1.zeroAll (l.take k)).get x).da.attrs = q.attrs := by rw [hq]; rfl
      rw [hqa] at hav
      rw [hq] at f5 hkv
      rw [hav, hkv] at f5
      have c0 : wr.cell? ⟨b, x % 16 * 8, none⟩ = some (.bool q.live) := by rw [f3.cell]; exact f5 0 _ rfl
      have g0 : wr.frozen? ⟨b, x % 16 * 8, none⟩ = false := f3.frozen _
      have c1 : wr.cell? ⟨b, x % 16 * 8 + 1, none⟩ = some (.int .u64 q.id) := by rw [f3.cell]; exact f5 1 _ rfl
      have g1 : wr.frozen? ⟨b, x % 16 * 8 + 1, none⟩ = false := f3.frozen _
      have c2 : wr.cell? ⟨b, x % 16 * 8 + 2, none⟩ = some (.bool q.leaf) := by rw [f3.cell]; exact f5 2 _ rfl
      have g2 : wr.frozen? ⟨b, x % 16 * 8 + 2, none⟩ = false := f3.frozen _
      have c3 : wr.cell? ⟨b, x % 16 * 8 + 3, none⟩ = some (.string q.label) := by rw [f3.cell]; exact f5 3 _ rfl
      have g3 : wr.frozen? ⟨b, x % 16 * 8 + 3, none⟩ = false := f3.frozen _
      have c4 : wr.cell? ⟨b, x % 16 * 8 + 4, none⟩ = some (.slice aA q.attrs.length ac) := by rw [f3.cell]; exact f5 4 _ rfl
      have g4 : wr.frozen? ⟨b, x % 16 * 8 + 4, none⟩ = false := f3.frozen _
      have c5 : wr.cell? ⟨b, x % 16 * 8 + 5, none⟩ = some (.string q.text) := by rw [f3.cell]; exact f5 5 _ rfl
      have g5 : wr.frozen? ⟨b, x % 16 * 8 + 5, none⟩ = false := f3.frozen _
      have c6 : wr.cell? ⟨b, x % 16 * 8 + 6, none⟩ = some (.int .i64 q.parent) := by rw [f3.cell]; exact f5 6 _ rfl
      have g6 : wr.frozen? ⟨b, x % 16 * 8 + 6, none⟩ = false := f3.frozen _
      have c7 : wr.cell? ⟨b, x % 16 * 8 + 7, none⟩ = some (.slice kA q.kids.length kc) := by rw [f3.cell]; exact f5 7 _ rfl
      have g7 : wr.frozen? ⟨b, x % 16 * 8 + 7, none⟩ = false := f3.frozen _
      obtain ⟨w4, hw4⟩ : ∃ W, World.setCell (World.setCell (World.setCell (World.setCell (World.setCell (World.setCell (World.setCell (World.setCell (wr) ⟨b, x % 16 * 8, none⟩ (.bool false)) ⟨b, x % 16 * 8 + 1, none⟩ (.int .u64 0)) ⟨b, x % 16 * 8 + 2, none⟩ (.bool false)) ⟨b, x % 16 * 8 + 3, none⟩ (.string ⟨#[]⟩)) ⟨b, x % 16 * 8 + 4, none⟩ (.slice none 0 0)) ⟨b, x % 16 * 8 + 5, none⟩ (.string ⟨#[]⟩)) ⟨b, x % 16 * 8 + 6, none⟩ (.int .i64 0)) ⟨b, x % 16 * 8 + 7, none⟩ (.slice none 0 0) = W := ⟨_, rfl⟩
      rw [show wr.setCells b (x % 16 * 8 + 0) zero8 = w4 from hw4] at hA1 hS1
      have HW4 := Lib.hid hw4
      have hfl4 : (S1.zeroAll (l.take k)).free.length ≤ 990000 := by
        show (S1.free ++ l.take k).length ≤ 990000
        rw [List.length_append, List.length_take]; omega
      have hnext : S1.zeroAll (l.take (k + 1)) = ⟨(S1.zeroAll (l.take k)).sl.set x Sl.zero, (S1.zeroAll (l.take k)).free ++ [x]⟩ := by
        rw [List.take_add_one, hx]; exact zeroAll_snoc S1 _ x
      have HN := Lib.hid hnext
      obtain ⟨SF, hSF⟩ : ∃ SF : St, (⟨(S1.zeroAll (l.take k)).sl.set x Sl.zero, (S1.zeroAll (l.take k)).free⟩ : St) = SF := ⟨_, rfl⟩
      have hSFf : (S1.zeroAll (l.take k)).free = SF.free := by rw [← hSF]
      have hSFs : (S1.zeroAll (l.take k)).sl.set x Sl.zero = SF.sl := by rw [← hSF]
      rw [hSF] at hA1
      rw [hSFf] at hfl4
      have HN2 := Lib.hid (show S1.zeroAll (l.take (k + 1)) = ⟨SF.sl, SF.free ++ [x]⟩ from by rw [HN.out, hSFf, hSFs])
      obtain ⟨fA, fc, rfl, -, -⟩ := owns_slice hA1.fre
      have E4 : Ext w4 (w4.alloc (.cells #[.int .i64 (x : Int)] 3)) := (Ext.refl _).alloc _
      have hone := Lib.hid (show RdS (w4.alloc (.cells #[.int .i64 (x : Int)] 3)) 1 1 [.int .i64 (x : Int)] (.slice (some ⟨w4.heap.size, 0, none⟩) 1 1) from RdS.one (cs := #[.int .i64 (x : Int)]) (size := 1) rfl)
      have hfre := Lib.hid (owns_ext E4 hA1.fre)
      have HA1 := Lib.hid hA1
      have HSS := Lib.hid (HS.out.trans hS1)
      have hlo4 : base ≤ (w4.alloc (.cells #[.int .i64 (x : Int)] 3)).heap.size := Nat.le_trans hA1.lo E4.size
      have d2 : w4.cell? ⟨A, 2, none⟩ = some (.slice fA SF.free.length fc) := hA1.box.cell 2
      clear hA hA1 hS1 hrow f1 f2 f3 f4 f5 f6 hw4 hsl hx hnext HN hSF hSFf hSFs hav hkv hq hqa E4 hxz hxl hx16
      go_upto_region 12 with (go_at_call 29; refine hc.mono ?_; rintro e u ⟨rfl, rfl⟩)
      rw [HW4.out]
      clear c0 g0 c1 g1 c2 g2 c3 g3 c4 g4 c5 g5 c6 g6 c7 g7 cx
      go_wp2_with (at_builtin; refine wpList_append_rd rfl rfl T33 (v := _) rfl hfre.out rfl hone.out (by intro u hu; rw [List.mem_singleton.1 hu]; rfl) (by omega) (by simp only [maxLen]; omega) hlo4 ?_; intro v9 w9 hO9 hg9 hat9; obtain ⟨A9, c9, rfl, -, -⟩ := owns_slice hO9
                   obtain ⟨b9, ρ9, hA9, hS9⟩ := HA1.out.freePush hg9 hat9 hO9 (by omega)
                   have e2 := b9.cell 2
                   have g2 := b9.frozen 2)
      go_roundw
      case rel => exact ⟨k + 1, ρ9, _, by go_num, by omega, Lib.hid (by rw [HN2.out]; exact hA9), Lib.hid (HSS.out.trans hS9)⟩
      case measure => simp [intOf]; omega
    · obtain rfl : k = l.length := by omega
      rw [List.take_length] at HA
      have hlc : (l.length : Int) ≤ 1000000 := by omega
      go_wp2_with fail
      go_ret
      exact ⟨rfl, ρ', fv', HA.out, HS2.out.trans HS.out⟩
end
end Go.Proofs.Ytobbdeakocgdcaa.Ar
