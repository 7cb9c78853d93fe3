/- Chapter 07: data of its own (28), what a slot takes (44). -/
import Derived.Test.YtobbdeakocgdcaaArAt
import Derived.Test.YtobbdeakocgdcaaArOps
import Derived.Deep.Cut
import Derived.Deep.CutRange
import Derived.Deep.RegionHeld3
import Derived.BigQuiet
import Derived.Deep.QuietTactic
namespace Go.Proofs.Ytobbdeakocgdcaa.Ar
open Go.RowKit Go.Proofs.Ytobbdeakocgdcaa.Bw

theorem results_st {P : Program} {fn : Func} {p : Tmp} {ty : TypeId} (h : fn.results = #[.cell p ty]) (tmps : Array Value) {w : World} {g : Nat} {cs : Array Value} {d : TypeDesc}
    (hp : tmps.getD p undef = .pointer (some ⟨g, 0, none⟩)) (hg : NBox w g ty cs) (hu : P.underlying ty = some d) (hd : (match d with | .struct _ | .array _ _ => true | _ => false) = true) (hi : (P.info? ty).map (·.size) = some cs.size) :
    (results fn tmps).run P w = .ok (.agg cs) w := results_cell_row h tmps w g ty cs (0, 0) d hp hg hu hd hi
theorem results_st2 {P : Program} {fn : Func} {p u : Tmp} {ty : TypeId} (h : fn.results = #[.cell p ty, .tmp u]) {tmps : Array Value} {w : World} {g : Nat} {cs : Array Value} {d : TypeDesc} {b : Bool}
    (hp : tmps.getD p undef = .pointer (some ⟨g, 0, none⟩)) (hu' : tmps.getD u undef = .bool b) (hg : NBox w g ty cs)
    (hu : P.underlying ty = some d) (hd : (match d with | .struct _ | .array _ _ => true | _ => false) = true) (hi : (P.info? ty).map (·.size) = some cs.size) :
    (results fn tmps).run P w = .ok (.tuple #[.agg cs, .bool b]) w := by
  rw [results_cell_tmp h, hp, hu']
  simp [asAddr, run_loadVar_row w g ty ty cs (0, 0) d hg hu hd hi, Result.andThen]
theorem NBox.set5 {W : World} {B : Nat} {t : TypeId} {a b c d e : Value} (h : NBox W B t #[a, b, c, d, e]) (a' b' c' d' e' : Value) : NBox (((((W.setCell ⟨B, 0, none⟩ a').setCell ⟨B, 1, none⟩ b').setCell ⟨B, 2, none⟩ c').setCell ⟨B, 3, none⟩ d').setCell ⟨B, 4, none⟩ e') B t #[a', b', c', d', e'] := by
  have := ((((h.set 0 a').set 1 b').set 2 c').set 3 d').set 4 e'
  simpa using this
theorem Fr.set5 (W : World) (B : Nat) (a' b' c' d' e' : Value) (o0 o1 o2 o3 o4 : Nat) : Fr W (((((W.setCell ⟨B, o0, none⟩ a').setCell ⟨B, o1, none⟩ b').setCell ⟨B, o2, none⟩ c').setCell ⟨B, o3, none⟩ d').setCell ⟨B, o4, none⟩ e') (fun k => k = B) :=
  ((((Fr.setCell W B o0 a').trans (Fr.setCell _ B o1 b')).trans (Fr.setCell _ B o2 c')).trans (Fr.setCell _ B o3 d')).trans (Fr.setCell _ B o4 e')

theorem info25 : (Try.prog.info? 25).map (·.size) = some 5 := by kernel_rfl
set_option maxHeartbeats 2000000 in
/-- Data of its own. -/
theorem own_any (d : Da) (av : Value) (w : World) (h : DataIn w d av) : Calls Try.prog 28 #[d.val av] w fun e w' => ∃ av', e = .returned (d.val av') ∧ w'.ownsRow w.heap.size 61 2 av' d.attrs.length (attrCells d.attrs) ∧ Ext w w' := by
  obtain ⟨A, c, rfl, -⟩ := id h.ats
  obtain ⟨w1, hw1⟩ : ∃ W, w.alloc (.cells #[.int .u64 d.id, .bool d.leaf, .string d.label, .slice A d.attrs.length c, .string d.text] 25) = W := ⟨_, rfl⟩
  obtain ⟨w2, hw2⟩ : ∃ W, w1.alloc (.cells #[.int .u64 0, .bool false, .string ⟨#[]⟩, .slice none 0 0, .string ⟨#[]⟩] 25) = W := ⟨_, rfl⟩
  have hs1 : w1.heap.size = w.heap.size + 1 := by rw [← hw1, World.size_alloc]
  have hs2 : w2.heap.size = w.heap.size + 2 := by rw [← hw2, World.size_alloc, hs1]
  have E1 : Ext w w1 := by rw [← hw1]; exact (Ext.refl _).alloc _
  have E2 : Ext w1 w2 := by rw [← hw2]; exact (Ext.refl _).alloc _
  have B1 : NBox w2 w.heap.size 25 #[.int .u64 d.id, .bool d.leaf, .string d.label, .slice A d.attrs.length c, .string d.text] := by
    refine NBox.ext E2 ?_
    rw [← hw1]; exact NBox.new _ _ _
  have B2 : NBox w2 (w.heap.size + 1) 25 #[.int .u64 0, .bool false, .string ⟨#[]⟩, .slice none 0 0, .string ⟨#[]⟩] := by rw [← hw2, ← hs1]; exact NBox.new _ _ _
  have hc := cloneA_any _ _ _ w2 ((h.ext (E1.trans E2)).ats) (by have := h.few; omega) (attrCells_one _)
  have h12 := Lib.hid (show (w.alloc (.cells #[.int .u64 d.id, .bool d.leaf, .string d.label, .slice A d.attrs.length c, .string d.text] 25)).alloc (.cells #[.int .u64 0, .bool false, .string ⟨#[]⟩, .slice none 0 0, .string ⟨#[]⟩] 25) = w2 from by rw [hw1, hw2])
  have c3 := B1.cell 3
  clear hw1 hw2 h
  go_enter Try.func28, Try.ntmps28
  unfold Da.val
  go_upto_region 1 with fail
  rw [h12.out]
  go_wp2_with (go_at_call 48; refine hc.mono ?_; clear hc c3; rintro e w3 ⟨av, rfl, hown, E3⟩; obtain ⟨A2, c9, rfl, -, -⟩ := owns_slice hown; have P1 := B1.ext E3; have P2 := B2.ext E3; have c0 := P1.cell 0; have c1 := P1.cell 1; have c2 := P1.cell 2; have c3 := P1.cell 3; have c4 := P1.cell 4; have f3 := P1.frozen 3
               have b0 := P2.cell 0; have b1 := P2.cell 1; have b2 := P2.cell 2; have b3 := P2.cell 3; have b4 := P2.cell 4; have g0 := P2.frozen 0; have g1 := P2.frozen 1; have g2 := P2.frozen 2; have g3 := P2.frozen 3; have g4 := P2.frozen 4)
  have F1 := Fr.setCell w3 w.heap.size 3 (.slice A2 d.attrs.length c9)
  have P3 := P2.fr F1 (by omega)
  have F2 := Fr.set5 (w3.setCell ⟨w.heap.size, 3, none⟩ (.slice A2 d.attrs.length c9)) (w.heap.size + 1) (.int .u64 d.id) (.bool d.leaf) (.string d.label) (.slice A2 d.attrs.length c9) (.string d.text) 0 1 2 3 4
  have FA := (F1.mono (T := fun k => k = w.heap.size ∨ k = w.heap.size + 1) (fun _ _ h => .inl h)).trans (F2.mono (fun _ _ h => .inr h))
  refine bodyPost_ret (results_st rfl _ rfl (NBox.set5 P3 _ _ _ _ _) Try.underlying25 rfl info25) rfl ⟨_, rfl, ?_, ?_⟩
  · exact owns_fr FA (owns_mono hown (by omega)) (fun g hg h => by have := owns_base hown g hg; omega)
  · exact Fr.ext (E1.trans (E2.trans E3)) FA (fun i h => by omega)

set_option maxHeartbeats 1000000 in
theorem takes_any {w : World} {ρ : Nat → Tg} {base A : Nat} {S : St} {sv fv : Value} {bs : List Nat} (h : AP w ρ base A S sv fv bs) (n : Nat) (g : Int) (hn : n < S.sl.length) :
    Calls Try.prog 44 #[.pointer (some (slotAt bs n)), .int .i64 g] w fun e w' => e = .returned (.int .i64 ((S.get n).takes g)) ∧ w' = w := by
  have hn16 : n < 16 * bs.length := Nat.lt_of_lt_of_le hn h.room
  obtain ⟨b, cs, av, kv, h1, h2, h3, h4, h5, h6⟩ := h.slot hn16
  have hs : slotAt bs n = ⟨b, n % 16 * 8, none⟩ := by rw [slotAt, h2]
  rw [hs]
  obtain ⟨kA, kc, rfl, hk1, hk2⟩ := owns_slice h6.ks
  have c2 : w.cell? ⟨b, n % 16 * 8 + 2, none⟩ = some (.bool (S.get n).leaf) := by rw [h3.cell]; exact h5 2 _ rfl
  have c7 : w.cell? ⟨b, n % 16 * 8 + 7, none⟩ = some (.slice kA (S.get n).kids.length kc) := by rw [h3.cell]; exact h5 7 _ rfl
  have hkl := h.big.2.2 n
  have HT := Lib.hid (show (S.get n).takes g = if (S.get n).leaf = true then 83 else if g < 0 ∨ ((S.get n).kids.length : Int) < g then 81 else 0 from rfl)
  clear h h1 h2 h3 h4 h5 h6 hs
  rw [HT.out]
  generalize S.get n = s at *
  clear HT
  obtain ⟨lf, hlf⟩ : ∃ l, s.leaf = l := ⟨_, rfl⟩
  rw [hlf] at c2 ⊢
  cases lf with
  | true =>
    go_enter Try.func44, Try.ntmps44
    go_wp2_with fail
    go_ret
    exact ⟨rfl, rfl⟩
  | false =>
    rw [if_neg (by simp)]
    rcases Int.lt_or_le g 0 with h0 | h0
    · have t1 : decide (g < 0) = true := decide_eq_true h0
      rw [if_pos (.inl h0)]
      go_enter Try.func44, Try.ntmps44
      go_wp2_with fail
      go_ret
      exact ⟨rfl, rfl⟩
    · have t1 : decide (g < 0) = false := decide_eq_false (by omega)
      rcases Int.lt_or_le (s.kids.length : Int) g with h7 | h7
      · have t2 : decide ((s.kids.length : Int) < g) = true := decide_eq_true h7
        rw [if_pos (.inr h7)]
        go_enter Try.func44, Try.ntmps44
        go_wp2_with fail
        go_ret
        exact ⟨rfl, rfl⟩
      · have t2 : decide ((s.kids.length : Int) < g) = false := decide_eq_false (by omega)
        rw [if_neg (by omega)]
        go_enter Try.func44, Try.ntmps44
        go_wp2_with fail
        go_ret
        exact ⟨rfl, rfl⟩
end Go.Proofs.Ytobbdeakocgdcaa.Ar
