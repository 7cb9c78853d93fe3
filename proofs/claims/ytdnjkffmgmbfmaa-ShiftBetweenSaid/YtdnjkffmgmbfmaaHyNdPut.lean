/- SyNdAt turned to this seat. (Printed by gport.py.) -/
import Derived.Test.YtdnjkffmgmbfmaaHyNdLong
import Derived.StillTailTactics
import Derived.Test.YtdnjkffmgmbfmaaProg
import Derived.BigQuiet
import Derived.Deep.QuietTactic
import Derived.WalkSpells
import Derived.Deep.AppendLies
import Derived.Deep.RegionHeld3
import Derived.Deep.DrawnRows
namespace Go.Proofs.Ytdnjkffmgmbfmaa.Bw
open Go.RowKit
/-- A result: a node and whether there is one. -/
def RdO (w : World) (o : Option Nd) (r : Value) : Prop := ∃ v, r = .tuple #[v, .bool o.isSome] ∧ (o.getD Nd.zero).rd w v
def zeroV : Value := .agg #[.int .u64 0, .bool false, .string ByteArray.empty, .slice none 0 0, .string ByteArray.empty, .slice none 0 0]
theorem zero_rd (w : World) : Nd.zero.rd w zeroV := by
  unfold Nd.zero Nd.rd
  exact ⟨_, none, 0, rfl, ⟨by omega, by omega⟩, by simp [okStr], by simp [okStr], ⟨none, 0, rfl, by simp, by simp [maxLen], fun h => absurd rfl h⟩, by simp, by simp [maxLen], fun h => absurd rfl h⟩
theorem at_none {t : Nd} {i : Int} {p : List Int} (h : i < 0 ∨ (t.kids.length : Int) ≤ i) : t.at? (i :: p) = none := by rw [Nd.at?, if_pos h]
theorem at_some {t k : Nd} {i : Int} {p : List Int} (h0 : 0 ≤ i) (h : t.kids[i.toNat]? = some k) : t.at? (i :: p) = k.at? p := by
  have := (List.getElem?_eq_some_iff.1 h).1
  rw [Nd.at?, if_neg (by omega), h]
theorem at_nil {t : Nd} : t.at? [] = some t := by rw [Nd.at?]
theorem RdI_get {w : World} {p : List Int} {v : Value} (h : RdS w 1 p.length (p.map (Value.int .i64)) v) {i : Nat} {x : Int} (hx : p[i]? = some x) : ∃ b off c, v = .slice (some ⟨b, off, none⟩) p.length c ∧ w.cell? ⟨b, off + i, none⟩ = some (.int .i64 x) := by
  obtain ⟨A, c, rfl, _, _, _, h5⟩ := h
  have hi := (List.getElem?_eq_some_iff.1 hx).1
  obtain ⟨b, off, rfl, h6⟩ := h5 (by omega)
  exact ⟨b, off, c, rfl, h6 i _ (by rw [List.getElem?_map, hx]; rfl)⟩
theorem NBox.set {W : World} {B : Nat} {t : TypeId} {cs : Array Value} (h : NBox W B t cs) (i : Nat) (u : Value) : NBox (W.setCell ⟨B, i, none⟩ u) B t (cs.setIfInBounds i u) := by
  unfold NBox at h ⊢
  simp [World.setCell, Array.getElem?_modify, h]
theorem NBox.frozen {W : World} {B : Nat} {t : TypeId} {cs : Array Value} (h : NBox W B t cs) (i : Nat) : W.frozen? ⟨B, i, none⟩ = false := by
  unfold NBox at h; simp [World.frozen?, h]
theorem NBox.f6 {W : World} {B : Nat} {t : TypeId} {cs : Array Value} (h : NBox W B t cs) : W.frozen? ⟨B, 0, none⟩ = false ∧ W.frozen? ⟨B, 1, none⟩ = false ∧ W.frozen? ⟨B, 2, none⟩ = false ∧ W.frozen? ⟨B, 3, none⟩ = false ∧ W.frozen? ⟨B, 4, none⟩ = false ∧ W.frozen? ⟨B, 5, none⟩ = false := ⟨h.frozen 0, h.frozen 1, h.frozen 2, h.frozen 3, h.frozen 4, h.frozen 5⟩
theorem NBox.other {W : World} {B : Nat} {t : TypeId} {cs : Array Value} (h : NBox W B t cs) {p : Addr} (hp : B ≠ p.block) (u : Value) : NBox (W.setCell p u) B t cs :=
  (Below.heap_setCell W p u B hp).trans h
theorem NBox.lt {W : World} {B : Nat} {t : TypeId} {cs : Array Value} (h : NBox W B t cs) : B < W.heap.size := (Array.getElem?_eq_some_iff.1 h).1
theorem results_node {P : Program} {fn : Func} {p u : Tmp} {ty : TypeId} (h : fn.results = #[.cell p ty, .tmp u]) {tmps : Array Value} {w : World} {g : Nat} {cs : Array Value} {d : TypeDesc} {b : Bool}
    (hp : tmps.getD p undef = .pointer (some ⟨g, 0, none⟩)) (hu' : tmps.getD u undef = .bool b) (hg : NBox w g ty cs)
    (hu : P.underlying ty = some d) (hd : (match d with | .struct _ | .array _ _ => true | _ => false) = true) (hi : (P.info? ty).map (·.size) = some cs.size) :
    (results fn tmps).run P w = .ok (.tuple #[.agg cs, .bool b]) w := by
  rw [results_cell_tmp h, hp, hu']
  simp [asAddr, run_loadVar_row w g ty ty cs (0, 0) d hg hu hd hi, Result.andThen]
theorem Ext.set6 {w W : World} (h : Ext w W) {B : Nat} (hB : w.heap.size ≤ B) (a b c d e f : Value) :
    Ext w ((((((W.setCell ⟨B, 0, none⟩ a).setCell ⟨B, 1, none⟩ b).setCell ⟨B, 2, none⟩ c).setCell ⟨B, 3, none⟩ d).setCell ⟨B, 4, none⟩ e).setCell ⟨B, 5, none⟩ f) :=
  Below.setCell (Below.setCell (Below.setCell (Below.setCell (Below.setCell (Below.setCell h (p := ⟨B, 0, none⟩) hB _) (p := ⟨B, 1, none⟩) hB _) (p := ⟨B, 2, none⟩) hB _) (p := ⟨B, 3, none⟩) hB _) (p := ⟨B, 4, none⟩) hB _) (p := ⟨B, 5, none⟩) hB _
theorem NBox.set6 {W : World} {B : Nat} {t : TypeId} {x0 x1 x2 x3 x4 x5 : Value} (h : NBox W B t #[x0, x1, x2, x3, x4, x5]) (a b c d e f : Value) :
    NBox ((((((W.setCell ⟨B, 0, none⟩ a).setCell ⟨B, 1, none⟩ b).setCell ⟨B, 2, none⟩ c).setCell ⟨B, 3, none⟩ d).setCell ⟨B, 4, none⟩ e).setCell ⟨B, 5, none⟩ f) B t #[a, b, c, d, e, f] := by
  have := (((((h.set 0 a).set 1 b).set 2 c).set 3 d).set 4 e).set 5 f
  simpa using this
theorem NBox.far6 {W : World} {B B' : Nat} {t : TypeId} {cs : Array Value} (h : NBox W B t cs) (hne : B ≠ B') (a b c d e f : Value) :
    NBox ((((((W.setCell ⟨B', 0, none⟩ a).setCell ⟨B', 1, none⟩ b).setCell ⟨B', 2, none⟩ c).setCell ⟨B', 3, none⟩ d).setCell ⟨B', 4, none⟩ e).setCell ⟨B', 5, none⟩ f) B t cs :=
  (((((h.other (p := ⟨B', 0, none⟩) hne a).other (p := ⟨B', 1, none⟩) hne b).other (p := ⟨B', 2, none⟩) hne c).other (p := ⟨B', 3, none⟩) hne d).other (p := ⟨B', 4, none⟩) hne e).other (p := ⟨B', 5, none⟩) hne f
theorem info42 : (Try.prog.info? 42).map (·.size) = some 6 := by kernel_rfl
end Go.Proofs.Ytdnjkffmgmbfmaa.Bw
namespace Go.Proofs.Ytdnjkffmgmbfmaa.Bw
open Go.RowKit
theorem NBox.drew {W : World} {B : Nat} {t : TypeId} {cs : Array Value} (h : NBox W B t cs) : NBox W.drew B t cs := h
theorem NBox.drewN {W : World} {B : Nat} {t : TypeId} {cs : Array Value} (h : NBox W B t cs) (n : Nat) : NBox (W.drewN n) B t cs := h
set_option maxRecDepth 100000 in
set_option maxHeartbeats 2000000 in
theorem rat_old (t : Nd) (v : Value) (p : List Int) (q : Value) (wo w : World) (hWo : Sub wo w) (hr : t.rd wo v) (hq : RdS w 1 p.length (p.map (Value.int .i64)) q) : Calls Try.prog 22 #[v, q] w (Ret w fun r _ => RdO wo (t.at? p) r) := by
  obtain ⟨A, qc, rfl, _, q2, q3, q4⟩ := hq
  have hq : RdS w 1 p.length (p.map (Value.int .i64)) (.slice A p.length qc) := ⟨A, qc, rfl, by simp, q2, q3, q4⟩
  obtain ⟨av, kv, rfl, i0, i1, hl, ht, hA, hK⟩ := Nd.rd_open hr
  unfold maxLen at q3
  obtain ⟨w1, hw1⟩ : ∃ w1, w.alloc (.cells #[.int .u64 t.id, .bool t.leaf, .string t.label, av, .string t.text, kv] 42) = w1 := ⟨_, rfl⟩
  obtain ⟨w0, hw0⟩ : ∃ w0, w1.alloc (.cells #[.int .u64 0, .bool false, .string ⟨#[]⟩, .slice none 0 0, .string ⟨#[]⟩, .slice none 0 0] 42) = w0 := ⟨_, rfl⟩
  have hE0 : Ext w w0 := by rw [← hw0, ← hw1]; exact ((Ext.refl w).alloc _).alloc _
  have hs1 : w1.heap.size = w.heap.size + 1 := by rw [← hw1]; simp
  have hb1 : NBox w0 w.heap.size 42 #[.int .u64 t.id, .bool t.leaf, .string t.label, av, .string t.text, kv] := by rw [← hw0, ← hw1]; exact (NBox.new w _ _).ext ((Ext.refl _).alloc _)
  have hb2 : NBox w0 (w.heap.size + 1) 42 #[.int .u64 0, .bool false, .string ⟨#[]⟩, .slice none 0 0, .string ⟨#[]⟩, .slice none 0 0] := by rw [← hw0, ← hs1]; exact NBox.new w1 _ _
  have H0 := Lib.hid (show (w.alloc (.cells #[.int .u64 t.id, .bool t.leaf, .string t.label, av, .string t.text, kv] 42)).alloc (.cells #[.int .u64 0, .bool false, .string ⟨#[]⟩, .slice none 0 0, .string ⟨#[]⟩, .slice none 0 0] 42) = w0 by rw [hw1, hw0])
  clear hw0 hw1 hs1
  obtain ⟨aA, ac, rfl, _⟩ := hA
  obtain ⟨kA, kc, rfl, _⟩ := hK
  go_enter Try.func22, Try.ntmps22
  go_wp2_with fail
  rw [H0.out]
  go_loopw [6] (fun s6 wr => ∃ (i : Nat) (k : Nd) (aA : Option Addr) (ac : Nat) (kA : Option Addr) (kc : Nat), s6 = .int .i64 i ∧ i ≤ p.length ∧ Hid (k.at? (p.drop i) = t.at? p) ∧ Ext w wr ∧
    k.rd wo (.agg #[.int .u64 k.id, .bool k.leaf, .string k.label, .slice aA k.attrs.length ac, .string k.text, .slice kA k.kids.length kc]) ∧
    NBox wr w.heap.size 42 #[.int .u64 k.id, .bool k.leaf, .string k.label, .slice aA k.attrs.length ac, .string k.text, .slice kA k.kids.length kc] ∧
    NBox wr (w.heap.size + 1) 42 #[.int .u64 0, .bool false, .string ⟨#[]⟩, .slice none 0 0, .string ⟨#[]⟩, .slice none 0 0]) (fun i _ => p.length - (intOf i).toNat)
  case atStart => exact ⟨0, t, aA, ac, kA, kc, rfl, Nat.zero_le _, rfl, hE0, hr, hb1, hb2⟩
  case round =>
    clear hr hb1 hb2 hE0 i0 i1 hl ht
    obtain ⟨i, k, aA', ac', kA', kc', rfl, hi, HW, hE, hk, hb1, hb2⟩ := hrel
    obtain ⟨_, _, he, i0, i1, hl, ht, hA, ⟨_, _, he2, k1, k2, k3⟩⟩ := Nd.rd_open hk
    simp only [Value.agg.injEq, Array.mk.injEq, List.cons.injEq, and_true, true_and] at he
    obtain ⟨rfl, rfl⟩ := he
    simp only [Value.slice.injEq, true_and] at he2
    obtain ⟨rfl, rfl⟩ := he2
    have d0 : wr.cell? ⟨w.heap.size, 0, none⟩ = some (.int .u64 k.id) := hb1.cell 0
    have d1 : wr.cell? ⟨w.heap.size, 1, none⟩ = some (.bool k.leaf) := hb1.cell 1
    have d2 : wr.cell? ⟨w.heap.size, 2, none⟩ = some (.string k.label) := hb1.cell 2
    have d3 : wr.cell? ⟨w.heap.size, 3, none⟩ = some (.slice aA' k.attrs.length ac') := hb1.cell 3
    have d4 : wr.cell? ⟨w.heap.size, 4, none⟩ = some (.string k.text) := hb1.cell 4
    have d5 : wr.cell? ⟨w.heap.size, 5, none⟩ = some (.slice kA' k.kids.length kc') := hb1.cell 5
    have df0 := hb1.frozen 0; have df1 := hb1.frozen 1; have df2 := hb1.frozen 2; have df3 := hb1.frozen 3; have df4 := hb1.frozen 4; have df5 := hb1.frozen 5
    have g0 : wr.cell? ⟨w.heap.size + 1, 0, none⟩ = some (.int .u64 0) := hb2.cell 0
    have g1 : wr.cell? ⟨w.heap.size + 1, 1, none⟩ = some (.bool false) := hb2.cell 1
    have g2 : wr.cell? ⟨w.heap.size + 1, 2, none⟩ = some (.string ⟨#[]⟩) := hb2.cell 2
    have g3 : wr.cell? ⟨w.heap.size + 1, 3, none⟩ = some (.slice none 0 0) := hb2.cell 3
    have g4 : wr.cell? ⟨w.heap.size + 1, 4, none⟩ = some (.string ⟨#[]⟩) := hb2.cell 4
    have g5 : wr.cell? ⟨w.heap.size + 1, 5, none⟩ = some (.slice none 0 0) := hb2.cell 5
    have gf0 := hb2.frozen 0; have gf1 := hb2.frozen 1; have gf2 := hb2.frozen 2; have gf3 := hb2.frozen 3; have gf4 := hb2.frozen 4; have gf5 := hb2.frozen 5
    unfold maxLen at k2
    rcases Nat.lt_or_ge i p.length with hlt | hlt
    · obtain ⟨x, hx⟩ : ∃ x, p[i]? = some x := ⟨_, List.getElem?_eq_getElem hlt⟩
      obtain ⟨b, off, _, he, hc⟩ := RdI_get hq hx
      simp only [Value.slice.injEq, true_and] at he
      obtain ⟨rfl, rfl⟩ := he
      replace hc := hE.cell hc
      have HD := Lib.hid (drop_at hx)
      have hx' := Lib.hid hx
      have q1 : (0 : Int) ≤ (i : Int) := by omega
      have q2 : (i : Int) < (p.length : Int) := by omega
      clear hx
      rcases Int.lt_or_le x 0 with hn | hn
      · have HG : Hid (t.at? p = none) := by rw [← HW.out, HD.out, at_none (.inl hn)]; rfl
        clear HW HD
        go_wp2_with fail
        go_quiet (fail)
        go_wp2_with fail
        exact bodyPost_ret (results_node rfl rfl rfl (NBox.set6 (NBox.drewN hb2 _) _ _ _ _ _ _) Try.underlying42 rfl info42) rfl ⟨_, rfl, ⟨zeroV, by rw [HG.out]; rfl, by rw [HG.out]; exact zero_rd _⟩, (hE.drewN _).set6 (by omega) _ _ _ _ _ _⟩
      rcases Int.lt_or_le x k.kids.length with hn2 | hn2
      · obtain ⟨m, rfl⟩ := Int.eq_ofNat_of_zero_le hn
        obtain ⟨kid, hy⟩ : ∃ y, k.kids[m]? = some y := ⟨_, List.getElem?_eq_getElem (by omega)⟩
        obtain ⟨kb, ko, rfl, ra⟩ := k3 (by intro h; rw [h] at hn2; simp at hn2; omega)
        obtain ⟨yA, ya, yK, yk, f0, f1, f2, f3, f4, f5, hY⟩ := rdKids_get ra hy
        replace f0 := (hWo.trans hE).cell f0; replace f1 := (hWo.trans hE).cell f1; replace f2 := (hWo.trans hE).cell f2; replace f3 := (hWo.trans hE).cell f3; replace f4 := (hWo.trans hE).cell f4; replace f5 := (hWo.trans hE).cell f5
        have HN : Hid (kid.at? (p.drop (i + 1)) = t.at? p) := by rw [← HW.out, HD.out, at_some (by omega) (by rw [Int.toNat_natCast]; exact hy)]; rfl
        have q3 : (m : Int) < (k.kids.length : Int) := by omega
        clear HW HD hy ra
        go_wp2_with fail
        go_quiet (fail)
        go_wp2_with fail
        generalize hw4 : wr.drewN _ = w4
        have E4 : Ext wr w4 := by rw [← hw4]; exact (Ext.refl _).drewN _
        replace hE := hE.trans E4; replace hb1 := hb1.ext E4; replace hb2 := hb2.ext E4
        replace d0 := E4.cell d0; replace d1 := E4.cell d1; replace d2 := E4.cell d2; replace d3 := E4.cell d3; replace d4 := E4.cell d4; replace d5 := E4.cell d5
        replace f0 := E4.cell f0; replace f1 := E4.cell f1; replace f2 := E4.cell f2; replace f3 := E4.cell f3; replace f4 := E4.cell f4; replace f5 := E4.cell f5; replace hc := E4.cell hc
        replace df0 := hb1.frozen 0; replace df1 := hb1.frozen 1; replace df2 := hb1.frozen 2; replace df3 := hb1.frozen 3; replace df4 := hb1.frozen 4; replace df5 := hb1.frozen 5
        clear hw4 E4
        go_still_tail 8, (by kernel_rfl)
        change wpList _ _ _ _ _ w4.drew
        go_wp2_with fail
        go_roundw
        case rel => exact ⟨i + 1, kid, yA, ya, yK, yk, by go_num, by omega, HN, (hE.set6 (Nat.le_refl _) _ _ _ _ _ _).drew, hY, (NBox.set6 hb1 _ _ _ _ _ _).drew, (hb2.far6 (by omega) _ _ _ _ _ _).drew⟩
        case measure => simp [intOf]; omega
      · have HG : Hid (t.at? p = none) := by rw [← HW.out, HD.out, at_none (.inr hn2)]; rfl
        clear HW HD
        go_wp2_with fail
        go_quiet (fail)
        go_wp2_with fail
        exact bodyPost_ret (results_node rfl rfl rfl (NBox.set6 (NBox.drewN hb2 _) _ _ _ _ _ _) Try.underlying42 rfl info42) rfl ⟨_, rfl, ⟨zeroV, by rw [HG.out]; rfl, by rw [HG.out]; exact zero_rd _⟩, (hE.drewN _).set6 (by omega) _ _ _ _ _ _⟩
    · have HG : Hid (t.at? p = some k) := by rw [← HW.out, List.drop_eq_nil_of_le hlt, at_nil]; rfl
      clear HW
      go_wp2_with fail
      exact bodyPost_ret (results_node rfl rfl rfl (NBox.set6 hb2 _ _ _ _ _ _) Try.underlying42 rfl info42) rfl ⟨_, rfl, ⟨_, by rw [HG.out]; rfl, by rw [HG.out]; exact hk⟩, hE.set6 (by omega) _ _ _ _ _ _⟩
end Go.Proofs.Ytdnjkffmgmbfmaa.Bw
namespace Go.Proofs.Ytdnjkffmgmbfmaa.Bw
open Go.RowKit
/-- A row of cells that reads as nodes. -/
def rowK (w : World) : List Nd → List Value → Prop
  | [], xs => xs = []
  | k :: r, xs => ∃ c0 c1 c2 c3 c4 c5 rest, xs = c0 :: c1 :: c2 :: c3 :: c4 :: c5 :: rest ∧ k.rd w (.agg #[c0, c1, c2, c3, c4, c5]) ∧ rowK w r rest
theorem rowK_len {w : World} : ∀ {ks : List Nd} {xs : List Value}, rowK w ks xs → xs.length = ks.length * 6
  | [], xs, h => by rw [h]; rfl
  | k :: r, xs, ⟨_, _, _, _, _, _, rest, hx, _, hr⟩ => by rw [hx]; simp [rowK_len hr]; omega
theorem rowK_one {w : World} : ∀ {ks : List Nd} {xs : List Value}, rowK w ks xs → ∀ u ∈ xs, u.oneCell' = true
  | [], xs, h, u, hu => by rw [h] at hu; cases hu
  | k :: r, xs, ⟨a, b, c, d, e, f, rest, hx, hk, hr⟩, u, hu => by
    obtain ⟨av, kv, he, _, _, _, _, ⟨aA, ac, rfl, _⟩, ⟨kA, kc, rfl, _⟩⟩ := Nd.rd_open hk
    simp only [Value.agg.injEq, Array.mk.injEq, List.cons.injEq, and_true] at he
    obtain ⟨rfl, rfl, rfl, rfl, rfl, rfl⟩ := he
    rw [hx] at hu
    simp only [List.mem_cons] at hu
    rcases hu with rfl | rfl | rfl | rfl | rfl | rfl | hu <;> first | rfl | exact rowK_one hr u hu
theorem rowK_of_rd {w : World} {b : Nat} : ∀ {ks : List Nd} {off : Nat}, rdKids w b off ks → ∃ xs, rowK w ks xs ∧ ∀ j u, xs[j]? = some u → w.cell? ⟨b, off + j, none⟩ = some u
  | [], off, _ => ⟨[], rfl, by simp⟩
  | k :: r, off, h => by
    unfold rdKids at h
    obtain ⟨⟨c0, c1, c2, c3, c4, c5, h0, h1, h2, h3, h4, h5, hk⟩, hr⟩ := h
    obtain ⟨xs, hx, hc⟩ := rowK_of_rd hr
    refine ⟨_, ⟨c0, c1, c2, c3, c4, c5, xs, rfl, hk, hx⟩, fun j u hu => ?_⟩
    match j, hu with
    | 0, hu => simpa using (by simpa using hu : c0 = u) ▸ h0
    | 1, hu => simpa using (by simpa using hu : c1 = u) ▸ h1
    | 2, hu => simpa using (by simpa using hu : c2 = u) ▸ h2
    | 3, hu => simpa using (by simpa using hu : c3 = u) ▸ h3
    | 4, hu => simpa using (by simpa using hu : c4 = u) ▸ h4
    | 5, hu => simpa using (by simpa using hu : c5 = u) ▸ h5
    | j + 6, hu =>
      have := hc j u (by simpa using hu)
      rw [show off + (j + 6) = off + 6 + j by omega]; exact this
theorem rd_of_rowK {w : World} {b : Nat} : ∀ {ks : List Nd} {xs : List Value} {off : Nat}, rowK w ks xs → (∀ j u, xs[j]? = some u → w.cell? ⟨b, off + j, none⟩ = some u) → rdKids w b off ks
  | [], _, _, _, _ => by unfold rdKids; trivial
  | k :: r, xs, off, ⟨c0, c1, c2, c3, c4, c5, rest, hx, hk, hr⟩, hc => by
    subst hx
    unfold rdKids
    refine ⟨⟨c0, c1, c2, c3, c4, c5, hc 0 c0 rfl, hc 1 c1 rfl, hc 2 c2 rfl, hc 3 c3 rfl, hc 4 c4 rfl, hc 5 c5 rfl, hk⟩, rd_of_rowK hr fun j u hu => ?_⟩
    rw [show off + 6 + j = off + (j + 6) by omega]
    exact hc (j + 6) u (by simpa using hu)
theorem RdK.row {w : World} {ks : List Nd} {v : Value} (h : RdK w ks v) : ∃ xs, rowK w ks xs ∧ RdS w 6 ks.length xs v := by
  obtain ⟨A, c, rfl, h1, h2, h3⟩ := h
  cases ks with
  | nil => exact ⟨[], rfl, A, c, rfl, rfl, h1, h2, fun h => absurd h (by simp)⟩
  | cons k r =>
    obtain ⟨b, off, rfl, hr⟩ := h3 (by simp)
    obtain ⟨xs, hx, hc⟩ := rowK_of_rd hr
    exact ⟨xs, hx, _, c, rfl, rowK_len hx, h1, h2, fun _ => ⟨b, off, rfl, hc⟩⟩
theorem RdK.of_row {w : World} {ks : List Nd} {xs : List Value} {v : Value} (h : rowK w ks xs) (hs : RdS w 6 ks.length xs v) : RdK w ks v := by
  obtain ⟨A, c, rfl, _, h1, h2, h3⟩ := hs
  refine ⟨A, c, rfl, h1, h2, fun hk => ?_⟩
  obtain ⟨b, off, rfl, hc⟩ := h3 (List.length_pos_iff.2 hk)
  exact ⟨b, off, rfl, rd_of_rowK h hc⟩
/-- One node of a row replaced. -/
theorem rowK_set {w : World} : ∀ {ks : List Nd} {xs : List Value} {i : Nat} {k' : Nd} {c0 c1 c2 c3 c4 c5 : Value}, rowK w ks xs → i < ks.length → k'.rd w (.agg #[c0, c1, c2, c3, c4, c5]) →
    rowK w (ks.set i k') ((((((xs.set (i * 6) c0).set (i * 6 + 1) c1).set (i * 6 + 2) c2).set (i * 6 + 3) c3).set (i * 6 + 4) c4).set (i * 6 + 5) c5)
  | k :: r, xs, 0, k', c0, c1, c2, c3, c4, c5, ⟨_, _, _, _, _, _, rest, hx, _, hr⟩, _, h' => by
    subst hx
    exact ⟨c0, c1, c2, c3, c4, c5, rest, by simp, h', hr⟩
  | k :: r, xs, i + 1, k', c0, c1, c2, c3, c4, c5, ⟨a, b, c, d, e, f, rest, hx, hk, hr⟩, hi, h' => by
    subst hx
    refine ⟨a, b, c, d, e, f, _, ?_, hk, rowK_set (i := i) hr (by simpa using hi) h'⟩
    rw [show (i + 1) * 6 = i * 6 + 6 by omega]
    simp [List.set_cons_succ, Nat.add_right_comm]
theorem T24 : SliceT Try.prog 40 42 (.agg #[.int .u64 0, .bool false, .string ⟨#[]⟩, .slice none 0 0, .string ⟨#[]⟩, .slice none 0 0]) 6 96 := SliceT.mk' Try.underlying40 (by kernel_rfl) rfl (by decide)
end Go.Proofs.Ytdnjkffmgmbfmaa.Bw
namespace Go.Proofs.Ytdnjkffmgmbfmaa.Bw
theorem rowK_sub {w w' : World} (h : Sub w w') : ∀ {ks : List Nd} {xs : List Value}, rowK w ks xs → rowK w' ks xs
  | [], _, hx => hx
  | _ :: _, _, ⟨c0, c1, c2, c3, c4, c5, rest, hx, hr, hk⟩ => ⟨c0, c1, c2, c3, c4, c5, rest, hx, Nd.rd_sub h hr, rowK_sub h hk⟩
theorem NBox.six {W : World} {B : Nat} {t : TypeId} {a b c d e f : Value} (h : NBox W B t #[a, b, c, d, e, f]) :
    W.cell? ⟨B, 0, none⟩ = some a ∧ W.cell? ⟨B, 1, none⟩ = some b ∧ W.cell? ⟨B, 2, none⟩ = some c ∧ W.cell? ⟨B, 3, none⟩ = some d ∧ W.cell? ⟨B, 4, none⟩ = some e ∧ W.cell? ⟨B, 5, none⟩ = some f :=
  ⟨h.cell 0, h.cell 1, h.cell 2, h.cell 3, h.cell 4, h.cell 5⟩
open Go.RowKit
theorem put_nil {t x : Nd} : t.put [] x = some x := by rw [Nd.put]
theorem put_some {t k x k' : Nd} {i : Nat} {p : List Int} (h : t.kids[i]? = some k) (h2 : k.put p x = some k') : t.put ((i : Int) :: p) x = some (t.withKids (t.kids.set i k')) := by
  have := (List.getElem?_eq_some_iff.1 h).1
  rw [Nd.put, if_neg (by omega), Int.toNat_natCast, h]
  dsimp only
  rw [h2]
theorem put_none {t k x : Nd} {i : Nat} {p : List Int} (h : t.kids[i]? = some k) (h2 : k.put p x = none) : t.put ((i : Int) :: p) x = none := by
  have := (List.getElem?_eq_some_iff.1 h).1
  rw [Nd.put, if_neg (by omega), Int.toNat_natCast, h]
  dsimp only
  rw [h2]
theorem put_out {t x : Nd} {i : Int} {p : List Int} (h : i < 0 ∨ (t.kids.length : Int) ≤ i) : t.put (i :: p) x = none := by rw [Nd.put, if_pos h]
theorem at_put : ∀ (p : List Int) (t x : Nd), (t.at? p).isSome = (t.put p x).isSome
  | [], t, x => by rw [at_nil, put_nil]; rfl
  | i :: p, t, x => by
    by_cases h : i < 0 ∨ (t.kids.length : Int) ≤ i
    · rw [at_none h, put_out h]
    · obtain ⟨m, rfl⟩ := Int.eq_ofNat_of_zero_le (show 0 ≤ i by omega)
      obtain ⟨k, hk⟩ : ∃ k, t.kids[m]? = some k := ⟨_, List.getElem?_eq_getElem (by omega)⟩
      rw [at_some (by omega) (by rw [Int.toNat_natCast]; exact hk), at_put p k x]
      cases hp : k.put p x with
      | none => rw [put_none hk hp]
      | some k' => rw [put_some hk hp]; rfl
theorem at_split {t : Nd} {i : Int} {p : List Int} {k : Nd} (h : t.at? (i :: p) = some k) : ∃ (m : Nat) (c : Nd), i = m ∧ t.kids[m]? = some c ∧ c.at? p = some k := by
  by_cases hc : i < 0 ∨ (t.kids.length : Int) ≤ i
  · rw [at_none hc] at h; cases h
  · obtain ⟨m, rfl⟩ := Int.eq_ofNat_of_zero_le (show 0 ≤ i by omega)
    obtain ⟨c, hk⟩ : ∃ c, t.kids[m]? = some c := ⟨_, List.getElem?_eq_getElem (by omega)⟩
    rw [at_some (by omega) (by rw [Int.toNat_natCast]; exact hk)] at h
    exact ⟨m, c, rfl, hk, h⟩
/-- 'p[1:]'. -/
theorem RdI_tail {w : World} {i : Int} {p : List Int} {b off c : Nat} (h : RdS w 1 (p.length + 1) ((i :: p).map (Value.int .i64)) (.slice (some ⟨b, off, none⟩) (p.length + 1) c)) :
    RdS w 1 p.length (p.map (Value.int .i64)) (.slice (if c = 1 then some ⟨b, off, none⟩ else some ⟨b, off + 1, none⟩) p.length (c - 1)) := by
  obtain ⟨A, c', he, _, h1, h2, h3⟩ := h
  simp only [Value.slice.injEq, true_and] at he
  obtain ⟨rfl, rfl⟩ := he
  refine ⟨_, _, rfl, by simp, by omega, by omega, fun hn => ?_⟩
  obtain ⟨b', off', hh, hc⟩ := h3 (by omega)
  simp only [Option.some.injEq, Addr.mk.injEq, and_true] at hh
  obtain ⟨rfl, rfl⟩ := hh
  rw [if_neg (by omega)]
  refine ⟨b, off + 1, rfl, fun j u hu => ?_⟩
  rw [show off + 1 + j = off + (j + 1) by omega]
  exact hc (j + 1) u (by simpa using hu)
theorem own_set6 {W : World} {base : Nat} {e : TypeId} {size g n cap : Nat} {xs : List Value} (h : W.ownsRow base e size (.slice (some ⟨g, 0, none⟩) n cap) n xs) (o : Nat) (a b c d x f : Value) :
    ((((((W.setCell ⟨g, o, none⟩ a).setCell ⟨g, o + 1, none⟩ b).setCell ⟨g, o + 2, none⟩ c).setCell ⟨g, o + 3, none⟩ d).setCell ⟨g, o + 4, none⟩ x).setCell ⟨g, o + 5, none⟩ f).ownsRow base e size (.slice (some ⟨g, 0, none⟩) n cap) n
      ((((((xs.set o a).set (o + 1) b).set (o + 2) c).set (o + 3) d).set (o + 4) x).set (o + 5) f) :=
  (((((((h.stored o a).1.stored (o + 1) b).1.stored (o + 2) c).1.stored (o + 3) d).1.stored (o + 4) x).1.stored (o + 5) f).1)
theorem NBox.farAt {W : World} {B B' : Nat} {t : TypeId} {cs : Array Value} (h : NBox W B t cs) (hne : B ≠ B') (o : Nat) (a b c d e f : Value) :
    NBox ((((((W.setCell ⟨B', o, none⟩ a).setCell ⟨B', o + 1, none⟩ b).setCell ⟨B', o + 2, none⟩ c).setCell ⟨B', o + 3, none⟩ d).setCell ⟨B', o + 4, none⟩ e).setCell ⟨B', o + 5, none⟩ f) B t cs :=
  (((((h.other (p := ⟨B', o, none⟩) hne a).other (p := ⟨B', o + 1, none⟩) hne b).other (p := ⟨B', o + 2, none⟩) hne c).other (p := ⟨B', o + 3, none⟩) hne d).other (p := ⟨B', o + 4, none⟩) hne e).other (p := ⟨B', o + 5, none⟩) hne f
theorem Ext.setAt {w W : World} (h : Ext w W) {B : Nat} (hB : w.heap.size ≤ B) (o : Nat) (a b c d e f : Value) :
    Ext w ((((((W.setCell ⟨B, o, none⟩ a).setCell ⟨B, o + 1, none⟩ b).setCell ⟨B, o + 2, none⟩ c).setCell ⟨B, o + 3, none⟩ d).setCell ⟨B, o + 4, none⟩ e).setCell ⟨B, o + 5, none⟩ f) :=
  Below.setCell (Below.setCell (Below.setCell (Below.setCell (Below.setCell (Below.setCell h (p := ⟨B, o, none⟩) hB _) (p := ⟨B, o + 1, none⟩) hB _) (p := ⟨B, o + 2, none⟩) hB _) (p := ⟨B, o + 3, none⟩) hB _) (p := ⟨B, o + 4, none⟩) hB _) (p := ⟨B, o + 5, none⟩) hB _
/-- The row of a slice of one's own, where its block is the same. -/
theorem owns_same {w w' : World} {base : Nat} {e : TypeId} {size g n cap : Nat} {xs : List Value} (h : w.ownsRow base e size (.slice (some ⟨g, 0, none⟩) n cap) n xs) (hb : w'.heap[g]? = w.heap[g]?) : w'.ownsRow base e size (.slice (some ⟨g, 0, none⟩) n cap) n xs := by
  refine ⟨h.1, ?_⟩
  rcases h.2 with h2 | ⟨g', cap', cur, hv, h1, h2, r⟩
  · exact .inl h2
  · have : g' = g := by simp only [Value.slice.injEq, Option.some.injEq, Addr.mk.injEq, and_true] at hv; exact hv.1.symm
    subst this
    exact .inr ⟨g', cap', cur, hv, h1, hb.trans h2, r⟩
theorem rowK_get {w : World} : ∀ {ks : List Nd} {xs : List Value} {i : Nat} {k : Nd}, rowK w ks xs → ks[i]? = some k → ∃ aA ac kA kc, xs[i * 6]? = some (.int .u64 k.id) ∧ xs[i * 6 + 1]? = some (.bool k.leaf) ∧ xs[i * 6 + 2]? = some (.string k.label) ∧
    xs[i * 6 + 3]? = some (.slice aA k.attrs.length ac) ∧ xs[i * 6 + 4]? = some (.string k.text) ∧ xs[i * 6 + 5]? = some (.slice kA k.kids.length kc) ∧
    k.rd w (.agg #[.int .u64 k.id, .bool k.leaf, .string k.label, .slice aA k.attrs.length ac, .string k.text, .slice kA k.kids.length kc])
  | k0 :: r, xs, 0, k, ⟨c0, c1, c2, c3, c4, c5, rest, hx, hk, _⟩, he => by
    simp only [List.getElem?_cons_zero, Option.some.injEq] at he
    subst he hx
    have hk0 := hk
    obtain ⟨av, kv, he, _, _, _, _, ⟨aA, ac, rfl, _⟩, ⟨kA, kc, rfl, _⟩⟩ := Nd.rd_open hk
    simp only [Value.agg.injEq, Array.mk.injEq, List.cons.injEq, and_true] at he
    obtain ⟨rfl, rfl, rfl, rfl, rfl, rfl⟩ := he
    exact ⟨aA, ac, kA, kc, rfl, rfl, rfl, rfl, rfl, rfl, hk0⟩
  | k0 :: r, xs, i + 1, k, ⟨c0, c1, c2, c3, c4, c5, rest, hx, _, hr⟩, he => by
    simp only [List.getElem?_cons_succ] at he
    obtain ⟨aA, ac, kA, kc, h0, h1, h2, h3, h4, h5, h6⟩ := rowK_get hr he
    subst hx
    refine ⟨aA, ac, kA, kc, ?_, ?_, ?_, ?_, ?_, ?_, h6⟩
    · rw [show (i + 1) * 6 = i * 6 + 6 by omega]; exact h0
    · rw [show (i + 1) * 6 + 1 = i * 6 + 1 + 6 by omega]; exact h1
    · rw [show (i + 1) * 6 + 2 = i * 6 + 2 + 6 by omega]; exact h2
    · rw [show (i + 1) * 6 + 3 = i * 6 + 3 + 6 by omega]; exact h3
    · rw [show (i + 1) * 6 + 4 = i * 6 + 4 + 6 by omega]; exact h4
    · rw [show (i + 1) * 6 + 5 = i * 6 + 5 + 6 by omega]; exact h5
/-- The result reads in every world that goes on from wo, where the blocks that were made in the call (from w to w') are the same. -/
def RdLate (wo w w' : World) (o : Option Nd) (r : Value) : Prop := ∀ W, Sub wo W → (∀ k, w.heap.size ≤ k → k < w'.heap.size → W.heap[k]? = w'.heap[k]?) → RdO W o r
theorem heap_at6 (W : World) (B o : Nat) (a b c d e f : Value) (k : Nat) (hk : k ≠ B) :
    ((((((W.setCell ⟨B, o, none⟩ a).setCell ⟨B, o + 1, none⟩ b).setCell ⟨B, o + 2, none⟩ c).setCell ⟨B, o + 3, none⟩ d).setCell ⟨B, o + 4, none⟩ e).setCell ⟨B, o + 5, none⟩ f).heap[k]? = W.heap[k]? := by
  iterate 6 rw [Below.heap_setCell _ _ _ _ hk]
end Go.Proofs.Ytdnjkffmgmbfmaa.Bw
