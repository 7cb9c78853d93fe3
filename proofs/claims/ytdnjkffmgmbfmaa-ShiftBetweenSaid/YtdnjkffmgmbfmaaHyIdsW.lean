/- SyNdRightIn turned to this seat. (Printed by gport.py.) -/
import Derived.Test.YtdnjkffmgmbfmaaHyNdRRight
import Derived.Test.YtdnjkffmgmbfmaaProg
import Derived.Test.YtdnjkffmgmbfmaaHyNdLong
import Derived.Test.YtdnjkffmgmbfmaaBwWeighPlain
import Derived.Test.YtdnjkffmgmbfmaaHyWiLate
import Derived.Test.YtdnjkffmgmbfmaaHyLxFrame
import Derived.Test.YtdnjkffmgmbfmaaHyNdRPut
import Derived.BigQuiet
import Derived.Deep.QuietTactic
namespace Go.Proofs.Ytdnjkffmgmbfmaa.Bw
open Go.RowKit Go.Shelf
attribute [local go_sem] Oper.semAt_some
set_option maxHeartbeats 400000 in
theorem rrightTop_any (t : Nd) (v : Value) (w : World) (hr : t.rd w v) : Calls Try.prog 57 #[v] w (Ret w fun r _ => r = .bool t.right) := by
  obtain ⟨av, kv, rfl, i0, i1, hl, ht, ⟨aA, ac, rfl, _⟩, ⟨kA, kc, rfl, _⟩⟩ := Nd.rd_open hr
  rcases hlf : t.leaf with _ | _
  · have HF : Hid (t.right = t.rightAll) := by simp [Nd.right, hlf, Hid]
    rw [hlf] at hr
    have h1 := rright_any t.cnt t _ (w.alloc (.cells #[.int .u64 t.id, .bool false, .string t.label, .slice aA t.attrs.length ac, .string t.text, .slice kA t.kids.length kc] 42)) (Nat.le_refl _) (Nd.rd_ext ((Ext.refl w).alloc _) hr)
    clear hlf
    go_enter Try.func57, Try.ntmps57
    go_wp2_with (go_at_call 69; refine h1.mono ?_; rintro e w1 ⟨r, rfl, rfl, hE1⟩)
    go_ret
    exact ret_bool (by rw [HF.out]) (((Ext.refl w).alloc _).trans hE1)
  · have HF : Hid (t.right = false) := by simp [Nd.right, hlf, Hid]
    go_enter Try.func57, Try.ntmps57
    go_wp2_with fail
    go_ret
    exact ret_bool HF.out.symm ((Ext.refl w).alloc _)
end Go.Proofs.Ytdnjkffmgmbfmaa.Bw
namespace Go.Proofs.Ytdnjkffmgmbfmaa.Sy
open Go.RowKit Go.Proofs.Ytdnjkffmgmbfmaa.Bw Go.Proofs.Ytdnjkffmgmbfmaa.Bs
theorem rd_open6 {W : World} {t : Nd} {v : Value} (h : t.rd W v) : ∃ tA tc tK td, v = .agg #[.int .u64 t.id, .bool t.leaf, .string t.label, .slice tA t.attrs.length tc, .string t.text, .slice tK t.kids.length td] := by
 obtain ⟨av, kv, rfl, -, -, -, -, ⟨aA, ac, rfl, -⟩, ⟨kA, kc, rfl, -⟩⟩ := Nd.rd_open h
 exact ⟨aA, ac, kA, kc, rfl⟩
theorem NBox.six {W : World} {B : Nat} {t : TypeId} {x0 x1 x2 x3 x4 x5 : Value} (h : NBox W B t #[x0, x1, x2, x3, x4, x5]) (a0 a1 a2 a3 a4 a5 : Value) : NBox (World.setCell (World.setCell (World.setCell (World.setCell (World.setCell (World.setCell W ⟨B, 0, none⟩ a0) ⟨B, 1, none⟩ a1) ⟨B, 2, none⟩ a2) ⟨B, 3, none⟩ a3) ⟨B, 4, none⟩ a4) ⟨B, 5, none⟩ a5) B t #[a0, a1, a2, a3, a4, a5] := by
 have := (NBox.set (NBox.set (NBox.set (NBox.set (NBox.set (NBox.set h 0 a0) 1 a1) 2 a2) 3 a3) 4 a4) 5 a5)
 simpa using this
theorem Fr.six (W : World) (B : Nat) (a0 a1 a2 a3 a4 a5 : Value) : Fr W (World.setCell (World.setCell (World.setCell (World.setCell (World.setCell (World.setCell W ⟨B, 0, none⟩ a0) ⟨B, 1, none⟩ a1) ⟨B, 2, none⟩ a2) ⟨B, 3, none⟩ a3) ⟨B, 4, none⟩ a4) ⟨B, 5, none⟩ a5) (fun k => k = B) :=
 (Fr.trans (Fr.trans (Fr.trans (Fr.trans (Fr.trans (Fr.setCell _ _ _ _) (Fr.setCell _ _ _ _)) (Fr.setCell _ _ _ _)) (Fr.setCell _ _ _ _)) (Fr.setCell _ _ _ _)) (Fr.setCell _ _ _ _))
theorem results_nd {P : Program} {fn : Func} {p u : Tmp} {ty : TypeId} (h : fn.results = #[.cell p ty, .tmp u]) {tmps : Array Value} {w : World} {g : Nat} {cs : Array Value} {d : TypeDesc} {b : Value}
  (hp : tmps.getD p undef = .pointer (some ⟨g, 0, none⟩)) (hu' : tmps.getD u undef = b) (hg : NBox w g ty cs)
  (hu : P.underlying ty = some d) (hd : (match d with | .struct _ | .array _ _ => true | _ => false) = true) (hi : (P.info? ty).map (·.size) = some cs.size) :
  (results fn tmps).run P w = .ok (.tuple #[.agg cs, b]) w := by
 rw [results_cell_tmp h, hp, hu']
 simp [asAddr, run_loadVar_row w g ty ty cs (0, 0) d hg hu hd hi, Result.andThen]
/-- w has the cells of wo, which is not newer. -/
structure Wo (wo w : World) : Prop where
 sub : Sub wo w
 size : wo.heap.size ≤ w.heap.size
theorem Wo.refl (w : World) : Wo w w := ⟨Sub.refl w, Nat.le_refl _⟩
theorem Wo.ext {wo w w' : World} (h : Wo wo w) (k : Ext w w') : Wo wo w' := ⟨h.sub.trans k, Nat.le_trans h.size k.size⟩
theorem Wo.fr {wo w w' : World} {S : Nat → Prop} (h : Wo wo w) (k : Fr w w' S) (hS : ∀ i, S i → wo.heap.size ≤ i) : Wo wo w' :=
 ⟨⟨fun {p v} hp => by
  have hb := cell_block hp
  rw [cell_same (k.block p.block (Nat.lt_of_lt_of_le hb h.size) (fun hs => Nat.lt_irrefl _ (Nat.lt_of_lt_of_le hb (hS _ hs))))]
  exact h.sub.cell hp⟩, Nat.le_trans h.size k.size⟩
theorem news_sub {w w' w2 w3 W : World} (h : News w w' W) (k : News w2 w3 w') (h2 : w.heap.size ≤ w2.heap.size) (h3 : w3.heap.size ≤ w'.heap.size) : News w2 w3 W :=
 fun i a b => (h i (Nat.le_trans h2 a) (Nat.lt_of_lt_of_le b h3)).trans (k i a b)
theorem news_fr {w2 w3 A B : World} {S : Nat → Prop} (h : News w2 w3 A) (k : Fr A B S) (hs : w3.heap.size ≤ A.heap.size) (hS : ∀ i, S i → i < w2.heap.size ∨ w3.heap.size ≤ i) : News w2 w3 B :=
 fun i a b => (k.block i (Nat.lt_of_lt_of_le b hs) (fun hh => (hS i hh).elim (fun q => Nat.lt_irrefl _ (Nat.lt_of_lt_of_le q a)) (fun q => Nat.lt_irrefl _ (Nat.lt_of_lt_of_le b q)))).trans (h i a b)
theorem news_ext {w2 w3 A B : World} (h : News w2 w3 A) (k : Ext A B) (hs : w3.heap.size ≤ A.heap.size) : News w2 w3 B :=
 fun i a b => (k.block i (Nat.lt_of_lt_of_le b hs)).trans (h i a b)
theorem glue_mine {wo w2 w3 : World} (h : wo.heap.size ≤ w2.heap.size) (k : w2.heap.size ≤ w3.heap.size) : Sub wo (glue wo w2 w3) :=
 ⟨fun {p v} hp => by
  have hb := cell_block hp
  rw [cell_same (glue_old (Nat.lt_of_lt_of_le hb h) (Nat.lt_of_lt_of_le hb (Nat.le_trans h k)) hb)]
  exact hp⟩
theorem glue_news (wo w2 w3 : World) : News w2 w3 (glue wo w2 w3) := fun _ a b => glue_new a b
theorem glue_none {wo w2 w3 : World} {k : Nat} (hk : k < w2.heap.size) (h3 : k < w3.heap.size) (ho : wo.heap.size ≤ k) : (glue wo w2 w3).heap[k]? = some nothing := by
 simp [glue, hk, h3, ho]
theorem glue_to {wo w2 w3 W : World} (hS : Sub wo W) (hN : News w2 w3 W) : Sub (glue wo w2 w3) W :=
 ⟨fun {p v} hp => by
  have hb := cell_block hp
  rw [glue_size] at hb
  rcases Nat.lt_or_ge p.block w2.heap.size with h2 | h2
  ·rcases Nat.lt_or_ge p.block wo.heap.size with ho | ho
   ·rw [cell_same (glue_old h2 hb ho)] at hp
    exact hS.cell hp
   ·obtain ⟨k, i, e⟩ := p
    exact absurd hp (nothing_cell i e _ k (glue_none h2 hb ho) v)
  ·rw [cell_same ((glue_new h2 hb).trans (hN p.block h2 hb).symm)] at hp
   exact hp⟩
theorem glue_wo {wo w2 w3 : World} (h : Wo wo w2) (k : Ext w2 w3) : Wo (glue wo w2 w3) w3 := ⟨glue_to (h.sub.trans k) (News.now _ _), by rw [glue_size]; exact Nat.le_refl _⟩
/-- A node that reads late. -/
def LateN (wo w w' : World) (t : Nd) (r : Value) : Prop := ∀ W, Sub wo W → News w w' W → t.rd W r
theorem LateN.now {wo w w' : World} {t : Nd} {r : Value} (h : LateN wo w w' t r) (hW : Sub wo w') : t.rd w' r := h w' hW (News.now _ _)
theorem LateN.glue {wo w w' : World} {t : Nd} {r : Value} (h : LateN wo w w' t r) (h0 : wo.heap.size ≤ w.heap.size) (hE : w.heap.size ≤ w'.heap.size) : t.rd (glue wo w w') r := h _ (glue_mine h0 hE) (glue_news _ _ _)
theorem LateN.old {wo w w' : World} {t : Nd} {r : Value} (h : t.rd wo r) : LateN wo w w' t r := fun _ hS _ => Nd.rd_sub hS h
theorem LateN.wide {wo w w' w2 w3 : World} {t : Nd} {r : Value} (h : LateN wo w2 w3 t r) (k : News w2 w3 w') (h2 : w.heap.size ≤ w2.heap.size) (h3 : w3.heap.size ≤ w'.heap.size) : LateN wo w w' t r :=
 fun W hS hN => h W hS (news_sub hN k h2 h3)
/-- What reads late behind a glued world reads late behind its ground. -/
theorem LateN.deep {wo w w' w2 w3 w4 w5 : World} {t : Nd} {r : Value} (h : LateN (Bw.glue wo w2 w3) w4 w5 t r) (k : News w2 w3 w') (k' : News w4 w5 w') (h2 : w.heap.size ≤ w2.heap.size) (h3 : w3.heap.size ≤ w'.heap.size) (h4 : w.heap.size ≤ w4.heap.size) (h5 : w5.heap.size ≤ w'.heap.size) : LateN wo w w' t r :=
 fun W hS hN => h W (glue_to hS (news_sub hN k h2 h3)) (news_sub hN k' h4 h5)
theorem RdLate.split {wo w w' : World} {o : Option Nd} {r : Value} (h : RdLate wo w w' o r) (hW : Sub wo w') : ∃ v, r = .tuple #[v, .bool o.isSome] ∧ LateN wo w w' (o.getD Nd.zero) v := by
 obtain ⟨v, rfl, -⟩ := h w' hW (fun _ _ _ => rfl)
 refine ⟨v, rfl, fun W hS hN => ?_⟩
 obtain ⟨v', e, h'⟩ := h W hS hN
 simp only [Value.tuple.injEq, Array.mk.injEq, List.cons.injEq, and_true] at e
 rw [e]; exact h'
theorem info42 : (Try.prog.info? 42).map (·.size) = some 6 := by kernel_rfl
end Go.Proofs.Ytdnjkffmgmbfmaa.Sy
namespace Go.Proofs.Ytdnjkffmgmbfmaa.Sy
open Go.RowKit Go.Proofs.Ytdnjkffmgmbfmaa.Bw Go.Proofs.Ytdnjkffmgmbfmaa.Bs

theorem TU81 : SliceT Try.prog 81 23 (.int .u64 0) 1 8 := SliceT.mk' Try.underlying81 (by kernel_rfl) rfl (by decide)
set_option maxRecDepth 100000 in
set_option maxHeartbeats 1000000 in
theorem rids_any (N : Nat) : ∀ (t : Nd) (v : Value) (w : World), t.cnt ≤ N → t.rd w v → t.cnt ≤ 1000000 →
    Calls Try.prog 48 #[v] w (Ret w fun r w' => w'.ownsRow w.heap.size 23 1 r t.ids.length (t.ids.map (Value.int .u64))) := by
  induction N with
  | zero => intro t v w h; rw [Nd.cnt_eq] at h; omega
  | succ N ih =>
    intro t v w hN hr hM
    obtain ⟨av, kv, rfl, i0, i1, hl, ht, ⟨aA, ac, rfl, _⟩, ⟨kA, kc, rfl, k1, k2, k3⟩⟩ := Nd.rd_open hr
    have hcn := Lib.hid (Nd.ids_eq t)
    have hlen := Lib.hid (Nd.ids_len t)
    unfold maxLen at k2
    obtain ⟨w0, hw0⟩ : ∃ w0, w.alloc (.cells #[.int .u64 t.id, .bool t.leaf, .string t.label, .slice aA t.attrs.length ac, .string t.text, .slice kA t.kids.length kc] 42) = w0 := ⟨_, rfl⟩
    have hE0 : Ext w w0 := by rw [← hw0]; exact (Ext.refl w).alloc _
    have hz0 : w.heap.size + 1 ≤ w0.heap.size := by rw [← hw0]; simp
    have c5 : w0.cell? ⟨w.heap.size, 5, none⟩ = some (.slice kA t.kids.length kc) := by rw [← hw0]; simp
    have c0 : w0.cell? ⟨w.heap.size, 0, none⟩ = some (.int .u64 t.id) := by rw [← hw0]; simp
    obtain ⟨w1, hw1⟩ : ∃ w1, w0.alloc (.cells #[.int .u64 t.id] 23) = w1 := ⟨_, rfl⟩
    have hE1 : Ext w0 w1 := by rw [← hw1]; exact (Ext.refl w0).alloc _
    have hown1 : w1.ownsRow w0.heap.size 23 1 (.slice (some ⟨w0.heap.size, 0, none⟩) 1 1) 1 [.int .u64 t.id] := by
      rw [← hw1]; exact ⟨rfl, .inr ⟨_, 1, _, rfl, Nat.le_refl _, World.alloc_heap_new w0 _, Nat.le_refl _, by simp [maxLen], rfl, rfl⟩⟩
    have hsz : Hid (w0.heap.size = w.heap.size + 1) := by rw [← hw0]; simp [Hid]
    have H0 := Lib.hid hw0
    have H1 := Lib.hid hw1
    clear hw0 hw1
    go_enter Try.func48, Try.ntmps48
    go_wp2_with fail
    rw [← hsz.out, H0.out, H1.out]
    go_loopw [3, 4] (fun s3 s4 wr => ∃ (k : Nat) (l : List Int), s4 = .int .i64 k ∧ k ≤ t.kids.length ∧ wr.ownsRow w0.heap.size 23 1 s3 l.length (l.map (Value.int .u64)) ∧ Hid (l ++ idsK (t.kids.drop k) = t.ids) ∧ Ext w0 wr) (fun _ i _ => t.kids.length - (intOf i).toNat)
    case atStart => exact ⟨0, [t.id], rfl, Nat.zero_le _, hown1, hcn.out.symm, hE1⟩
    case round =>
      clear hown1 hE1
      obtain ⟨k, l, rfl, hk, hown, HW, hE⟩ := hrel
      have d5 := hE.cell c5
      rcases Nat.lt_or_ge k t.kids.length with hlt | hlt
      · obtain ⟨kid, hx⟩ : ∃ x, t.kids[k]? = some x := ⟨_, List.getElem?_eq_getElem hlt⟩
        obtain ⟨b, off, rfl, hrd⟩ := k3 (by intro h; rw [h] at hlt; simp at hlt)
        obtain ⟨aA', ac', kA', kc', e0, e1, e2, e3, e4, e5, hkid⟩ := rdKids_get (rdKids_ext (hE0.trans hE) hrd) hx
        have HD := Lib.hid (drop_at hx)
        have hcnt : kid.cnt ≤ N := by have := Nd.cnt_kid hx; omega
        have hkl : kid.cnt ≤ 1000000 := by have := Nd.cnt_kid hx; omega
        have hsum : l.length + kid.ids.length ≤ 1000000 := by
          have := congrArg List.length HW.out; rw [HD.out, idsK, hlen.out, List.length_append, List.length_append] at this; omega
        clear hx hrd k3
        go_wp2_with (first
          | (go_at_call 48; refine (ih kid _ _ hcnt hkid hkl).mono ?_; rintro e w2 ⟨r, rfl, hr2, hE2⟩)
          | (at_builtin
             refine wpList_append_rd rfl rfl TU81 (v := _) (by rfl) (owns_ext hE2 hown) (by rfl) (RdS.of_owns hr2) (ints_one _ _) (by omega) (by simp only [maxLen]; omega) (hE.trans hE2).size ?_
             intro v3 w3 hown3 hg3 hat3))
        go_roundw
        case rel => exact ⟨k + 1, l ++ kid.ids, by go_num, by omega, by rw [List.length_append, List.map_append]; exact hown3, by rw [← HW.out, HD.out, idsK, List.append_assoc]; rfl, Ext.grown (hE.trans hE2) hg3 (owns_base hown)⟩
        case measure => simp [intOf]; omega
      · have HG : Hid (l = t.ids) := by have := HW.out; rw [List.drop_eq_nil_of_le hlt, idsK, List.append_nil] at this; exact this
        clear HW
        go_wp2_with fail
        go_ret
        exact ⟨_, rfl, by have := owns_mono hown hE0.size; rw [HG.out] at this; exact this, hE0.trans hE⟩
end Go.Proofs.Ytdnjkffmgmbfmaa.Sy
