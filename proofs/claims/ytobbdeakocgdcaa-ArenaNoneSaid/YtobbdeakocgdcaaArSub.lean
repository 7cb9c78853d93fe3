/- Chapter 07: the walk of subtree (39). (Printed by garsub.py.) -/
import Derived.Test.YtobbdeakocgdcaaArSubtree
namespace Go.Proofs.Ytobbdeakocgdcaa.Ar
open Go.RowKit Go.Proofs.Ytobbdeakocgdcaa.Bw Go.Shelf
attribute [local go_sem] Oper.semAt_some

def lenV : Value → Nat
  | .slice _ n _ => n
  | _ => 0
/-- Behind the label. -/
def SubJ (w : World) (S : St) (A : Nat) (l : List Nat) (a : Act) (W : World) : Prop := ∃ (st dn rest : List Nat) (m Bk N : Nat) (kv ov stv : Value) (ds : List Deferred) (u1 u4 u7 u8 u9 u10 u11 u12 u13 u14 u15 u16 u17 u18 u19 u20 u21 u22 u23 u24 u25 u26 u27 u28 u29 u30 u31 u32 u33 u34 u35 u36 u37 u38 u39 u40 u41 u42 : Value),
  a = { tmps := #[.pointer (some ⟨A, 0, none⟩), u1, undef, undef, u4, ov, .pointer (some ⟨w.heap.size + 1, 0, none⟩), u7, u8, u9, u10, u11, u12, u13, u14, u15, u16, u17, u18, u19, u20, u21, u22, u23, u24, u25, u26, u27, u28, u29, u30, u31, u32, u33, u34, u35, u36, u37, u38, u39, u40, u41, u42], defers := ds } ∧ (Ext w W ∧ NBox W (w.heap.size + 1) 33 #[stv] ∧ W.ownsRow w.heap.size 3 1 stv (st.length + 1) (ints (st ++ [m])) ∧ W.ownsRow w.heap.size 3 1 ov dn.length (ints dn) ∧ (∀ g, stv.ownBlock = some g → ov.ownBlock ≠ some g) ∧ Marks w.heap.size N W ds ∧ w.heap.size ≤ N ∧ N ≤ W.heap.size) ∧ PreL S (m :: st.reverse) rest ∧ dn ++ rest = l ∧ Bk = 0 ∧ kv = .nilFunc
/-- In a round. -/
def SubA (w : World) (A m : Nat) (ov : Value) (k : Nat) (a : Act) : Prop := ∃ (u4 u7 u9 u10 u11 u12 u13 u14 u15 u16 u17 u18 u19 u20 u21 u22 u23 u24 u25 u26 u27 u28 u29 u30 u31 u32 u33 u34 u35 u36 u37 u38 u39 u40 u41 u42 : Value), a = { tmps := #[.pointer (some ⟨A, 0, none⟩), .int .i64 (m : Int), undef, undef, u4, ov, .pointer (some ⟨w.heap.size + 1, 0, none⟩), u7, .int .i64 (k : Int), u9, u10, u11, u12, u13, u14, u15, u16, u17, u18, u19, u20, u21, u22, u23, u24, u25, u26, u27, u28, u29, u30, u31, u32, u33, u34, u35, u36, u37, u38, u39, u40, u41, u42], defers := [] }
set_option maxRecDepth 100000 in
set_option maxHeartbeats 8000000 in
theorem sub_in {w : World} {ρ : Nat → Tg} {base A : Nat} {S : St} {sv fv : Value} {bs : List Nat} (h : AP w ρ base A S sv fv bs) (n : Nat) (l : List Nat) (hp0 : PreL S [n] l) (hll : l.length ≤ 1000000) (hbig : bs.length ≤ 1000000) :
    CallsIn Fence.wide 10 Try.prog 39 #[.pointer (some ⟨A, 0, none⟩), .int .i64 (n : Int)] w (Ret w fun r w' => w'.ownsRow w.heap.size 3 1 r l.length (ints l)) := by
  refine callsIn_of_wp_marks Try.func39 rfl trivial ?_ rfl
  refine wpIn_wide.2 ?_
  simp only [Try.ntmps39, List.size_toArray, List.length_cons, List.length_nil, Nat.reduceAdd, Nat.reduceSub, Array.replicate_succ, Array.replicate_zero, List.push_toArray, List.append_toArray, List.nil_append, List.cons_append]
  go_wp2_with fail
  refine wp_scope_jumps (rest := ?rest) 0 (SubJ w S A l) (fun a _ => l.length - lenV (a.tmps.getD 5 undef)) ?hf ?first ?pass
  case hf => exact rfl
  case first =>
    go_upto_region 3 with fail
    refine wp_label ?_
    obtain ⟨W, hW⟩ : ∃ X, (w.alloc (.cells #[.int .i64 (n : Int)] 3)).alloc (.cells #[.slice (some ⟨w.heap.size, 0, none⟩) 1 1] 33) = X := ⟨_, rfl⟩
    obtain ⟨ov, hov⟩ : ∃ v, v = Value.slice none 0 0 := ⟨_, rfl⟩
    obtain ⟨stv, hstv⟩ : ∃ v, v = Value.slice (some ⟨w.heap.size, 0, none⟩) 1 1 := ⟨_, rfl⟩
    obtain ⟨st, hst0⟩ : ∃ d : List Nat, d = [] := ⟨_, rfl⟩
    obtain ⟨dn, hdn0⟩ : ∃ d : List Nat, d = [] := ⟨_, rfl⟩
    obtain ⟨ds, hds0⟩ : ∃ d : List Deferred, d = [] := ⟨_, rfl⟩
    obtain ⟨N, hN0'⟩ : ∃ q, q = w.heap.size := ⟨_, rfl⟩
    obtain ⟨rest, hrest⟩ : ∃ r, r = l := ⟨_, rfl⟩
    obtain ⟨m, hm0⟩ : ∃ q, q = n := ⟨_, rfl⟩
    have E0 : Ext w (w.alloc (.cells #[.int .i64 (n : Int)] 3)) := (Ext.refl _).alloc _
    have E0' : Ext (w.alloc (.cells #[.int .i64 (n : Int)] 3)) W := by rw [← hW]; exact (Ext.refl _).alloc _
    have hE : Ext w W := E0.trans E0'
    have h1 : NBox W (w.heap.size + 1) 33 #[stv] := by
      have := NBox.new (w.alloc (.cells #[.int .i64 (n : Int)] 3)) 33 #[.slice (some ⟨w.heap.size, 0, none⟩) 1 1]
      rw [World.size_alloc] at this
      rw [← hW, hstv]; exact this
    have h2 : W.ownsRow w.heap.size 3 1 stv (st.length + 1) (ints (st ++ [m])) := by
      rw [hst0, hstv, hm0]
      exact owns_mk (Nat.le_refl _) ((NBox.new w 3 #[.int .i64 (n : Int)]).ext E0') (Nat.le_refl _) (by simp [maxLen]) rfl rfl (fun j u hu => by simpa [ints] using hu)
    have h3 : W.ownsRow w.heap.size 3 1 ov dn.length (ints dn) := by rw [hdn0, hov]; exact World.ownsRow_nil _ _ _ _
    have h4 : ∀ g, stv.ownBlock = some g → ov.ownBlock ≠ some g := fun g _ e => by rw [hov] at e; cases e
    have h5 : Marks w.heap.size N W ds := by rw [hds0]; exact Marks.nil _ _ _
    have hN0 : w.heap.size ≤ N := by omega
    have hN : N ≤ W.heap.size := by rw [hN0']; exact hE.size
    have hp : PreL S (m :: st.reverse) rest := by rw [hm0, hst0, hrest]; exact hp0
    have hl : dn ++ rest = l := by rw [hdn0, hrest]; rfl
    rw [hW, ← hov, ← hds0]
    clear hW hov hstv hst0 hdn0 hds0 hN0' hrest hm0 E0 E0'
    have hst := h2
    rcases owns_form hst with ⟨_, h0, _⟩ | ⟨g, cap, cs, rfl, hgb, hgx, g4, g5, g6, g7, g8⟩
    · omega
    have cm : W.cell? ⟨g, st.length, none⟩ = some (.int .i64 (m : Int)) := by rw [hgx.cell]; exact g8 _ _ (ints_at (by simp))
    have cB := h1.cell 0
    have fB := h1.frozen 0
    have hg5 : (cap : Int) ≤ 9223372036854775807 := by unfold maxLen at g5; omega
    have hown1 : W.ownsRow w.heap.size 3 1 (.slice (some ⟨g, 0, none⟩) st.length cap) st.length (ints st) := by
      refine owns_mk hgb hgx (by omega) g5 g6 (by rw [ints_len]; omega) (fun j u hu => g8 j u ?_)
      have hj := (List.getElem?_eq_some_iff.1 hu).1
      rw [ints_app, List.getElem?_append_left hj]; exact hu
    obtain ⟨W1, hW1⟩ : ∃ X, W.setCell ⟨w.heap.size + 1, 0, none⟩ (.slice (some ⟨g, 0, none⟩) st.length cap) = X := ⟨_, rfl⟩
    have F1 : Fr W W1 (fun k => k = w.heap.size + 1) := by rw [← hW1]; exact Fr.setCell _ _ _ _
    have hnB : ∀ {base n : Nat} {v : Value} {xs : List Value}, W.ownsRow base 3 1 v n xs → ∀ x, v.ownBlock = some x → ¬ x = w.heap.size + 1 := by
      intro base n v xs hv x hx e
      subst e
      rcases owns_form hv with ⟨q1, _⟩ | ⟨g', cap', cs', q1, _, q2, _⟩
      · rw [q1] at hx; cases hx
      · rw [q1] at hx
        obtain rfl : g' = w.heap.size + 1 := Option.some.inj hx
        have : some (Obj.cells #[Value.slice (some ⟨g, 0, none⟩) (st.length + 1) cap] 33 (0, 0)) = some (Obj.cells cs' 3 (0, 0)) := (show W.heap[w.heap.size + 1]? = _ from h1).symm.trans q2
        cases this
    have b1 : NBox W1 (w.heap.size + 1) 33 #[.slice (some ⟨g, 0, none⟩) st.length cap] := by rw [← hW1]; exact h1.set 0 _
    have o1 := owns_fr F1 hown1 (hnB hown1)
    have o2 := owns_fr F1 h3 (hnB h3)
    obtain ⟨oA, oc, rfl, -, -⟩ := owns_slice o2
    have E1 : Ext w W1 := Fr.ext hE F1 (fun i e => by omega)
    have M1 : Marks w.heap.size N W1 ds := by rw [← hW1]; exact h5.kept (KeepsOthers.setCell _ _ _)
    have hsz1 := Lib.hid (show W1.heap.size = W.heap.size from by rw [← hW1]; simp [World.setCell])
    cases hp with
    | @cons _ s _ l1 l2 hs hp1 hp2 =>
      have hHW1 := Lib.hid hW1
      have HS := Lib.hid hs
      have HP12 := Lib.hid (hp2.app hp1)
      have HP3 := Lib.hid (show PreL S (s.kids ++ st.reverse) (l1 ++ l2) from hp1.app hp2)
      have hdl := Lib.hid hl
      have hm := lt_of_get hs
      have hm16 : m < 16 * bs.length := Nat.lt_of_lt_of_le hm h.room
      obtain ⟨b, csb, av, kv, f1, f2, f3, f4, f5, f6⟩ := h.slot hm16
      rw [St.get_of hs] at f5 f6
      have hsl : slotAt bs m = ⟨b, m % 16 * 8, none⟩ := by rw [slotAt, f2]
      have HKR := Lib.hid (show ∀ X, Ext w X → RdS X 1 s.kids.length (ints s.kids) kv from fun X EX => RdS.ext EX (RdS.of_owns f6.ks))
      have HC7 := Lib.hid (show ∀ X, Ext w X → X.cell? ⟨b, m % 16 * 8 + 7, none⟩ = some kv from fun X EX => by rw [(f3.ext EX).cell]; exact f5 7 _ rfl)
      have HAT := Lib.hid (show ∀ X, Ext w X → Calls Try.prog 29 #[.pointer (some ⟨A, 0, none⟩), .int .i64 (m : Int)] X fun e w' => e = .returned (.pointer (some ⟨b, m % 16 * 8, none⟩)) ∧ w' = X from fun X EX => by
        have := at_any (h.ext EX) m hm16 hbig
        rwa [hsl] at this)
      have hkb : s.kids.length ≤ 1000000 := by have := h.big.2.2 m; rwa [St.get_of hs] at this
      obtain ⟨kA, kc, hkv, hk1, hk2⟩ := owns_slice f6.ks
      have E2 : Ext W1 (W1.alloc (.cells #[.int .i64 (m : Int)] 3)) := (Ext.refl _).alloc _
      have hone := Lib.hid (show RdS (W1.alloc (.cells #[.int .i64 (m : Int)] 3)) 1 1 [.int .i64 (m : Int)] (.slice (some ⟨W1.heap.size, 0, none⟩) 1 1) from RdS.one (cs := #[.int .i64 (m : Int)]) (size := 1) rfl)
      have ho2 := Lib.hid (owns_ext E2 o2)
      have hstl : st.length ≤ 1000000 := by
        have := congrArg List.length hl
        have q := hp2.len
        simp only [List.length_append, List.length_cons, List.length_reverse] at this q
        omega
      have hdnl : dn.length + 1 ≤ 1000000 := by
        have := congrArg List.length hl
        simp only [List.length_append, List.length_cons] at this
        omega
      have hhsz : w.heap.size ≤ (W1.alloc (.cells #[.int .i64 (m : Int)] 3)).heap.size := (E1.alloc _).size
      clear hs hp1 hp2 hl f1 f2 f3 f4 f5 f6 hsl hW1 hst hgx g8 g7 g6 hown1 h1 h2 h3 hnB
      go_upto_region 5 with fail
      rw [hHW1.out]
      have HST := Lib.hid (show ∀ (v2 : Value) (W2 : World), W2.ownsRow w.heap.size 3 1 v2 (dn.length + 1) (ints dn ++ [.int .i64 (m : Int)]) → (W1.alloc (.cells #[.int .i64 (m : Int)] 3)).grownBy W2 (Value.slice oA dn.length oc).ownBlock → (v2.ownBlock = (Value.slice oA dn.length oc).ownBlock ∨ v2.ownBlock = some (W1.alloc (.cells #[.int .i64 (m : Int)] 3)).heap.size) →
          StI w (W2.alloc (.cells #[.slice kA s.kids.length kc] 33)) N (w.heap.size + 1) W2.heap.size ds (.slice kA s.kids.length kc) v2 (.slice (some ⟨g, 0, none⟩) st.length cap) st (dn ++ [m]) ∧ Ext w W2 ∧ N ≤ W2.heap.size ∧ w.heap.size + 1 < W2.heap.size from by
        intro v2 W2 hO hg hat
        have hz : ∀ k, (Value.slice oA dn.length oc).ownBlock = some k → w.heap.size ≤ k := fun k hk => (o2.lt k hk).1
        have E3 : Ext w W2 := (E1.alloc _).grown hg hz
        have nr : ∀ {x : Nat} {t : TypeId} {cs : Array Value}, NBox (W1.alloc (.cells #[.int .i64 (m : Int)] 3)) x t cs → t ≠ 3 → some x ≠ (Value.slice oA dn.length oc).ownBlock := by
          intro x t cs hb ht e
          rcases owns_form ho2.out with ⟨q1, _⟩ | ⟨g', cap', cs', q1, _, q2, _⟩
          · rw [q1] at e; cases e
          · rw [q1] at e
            obtain rfl : x = g' := Option.some.inj e
            have : some (Obj.cells cs t (0, 0)) = some (Obj.cells cs' 3 (0, 0)) := (show (W1.alloc (.cells #[.int .i64 (m : Int)] 3)).heap[x]? = _ from hb).symm.trans q2
            cases this; exact ht rfl
        have b2 := b1.ext E2
        have b3 : NBox W2 (w.heap.size + 1) 33 #[.slice (some ⟨g, 0, none⟩) st.length cap] := (hg.block _ b2.lt (nr b2 (by decide))).trans b2
        have o3 : W2.ownsRow w.heap.size 3 1 (.slice (some ⟨g, 0, none⟩) st.length cap) st.length (ints st) := by
          refine (owns_ext E2 o1).kept hg ?_
          rcases hov : (Value.slice oA dn.length oc).ownBlock with _ | x
          · exact .inr (fun e => by cases e)
          · exact .inr (fun e => h4 g rfl (hov.trans e.symm))
        have hKO : KeepsOthers W1 W2 := by
          refine (KeepsOthers.alloc W1 _).trans (KeepsOthers.of_grownBy hg fun j o ej hj => ?_)
          rcases owns_form ho2.out with ⟨q1, _⟩ | ⟨g', cap', cs', q1, _, q2, _⟩
          · rw [q1] at ej; cases ej
          · rw [q1] at ej
            obtain rfl : g' = j := Option.some.inj ej
            rw [show (W1.alloc (.cells #[.int .i64 (m : Int)] 3)).heap[g']? = _ from q2] at hj; cases hj; rfl
        have EA : Ext W2 (W2.alloc (.cells #[.slice kA s.kids.length kc] 33)) := (Ext.refl _).alloc _
        refine ⟨⟨b3.ext EA, NBox.new _ _ _, owns_ext EA o3, ?_, fun x hx => ?_, E3.trans EA, (M1.kept hKO).kept (KeepsOthers.alloc _ _)⟩, E3, ?_, b3.lt⟩
        · rw [List.length_append, ints_app]; exact owns_ext EA hO
        · obtain rfl : g = x := Option.some.inj hx
          rcases hat with e | e
          · rw [e]; exact h4 g rfl
          · rw [e]
            intro e2
            have q := Option.some.inj e2
            have := (o1.lt g rfl).2
            rw [World.size_alloc] at q
            omega
        · have := hg.size
          have q := hsz1.out
          rw [World.size_alloc] at this
          omega)
      have HBW := Lib.hid (backward_any (.slice kA s.kids.length kc) ⟨_, _, _, rfl⟩)
      rw [hkv] at HKR HC7
      clear M1 o1 o2 b1 F1 h4 h5 E1 E2 cm fB cB
      go_wp2_with (first
        | (at_builtin; refine wpList_append_rd rfl rfl T33 (v := _) rfl ho2.out rfl hone.out (by intro u hu; rw [List.mem_singleton.1 hu]; rfl) (by omega) (by simp only [maxLen]; omega) hhsz ?_; intro v2 W2 hO2 hg2 hat2; obtain ⟨A2, c2, rfl, -, -⟩ := owns_slice hO2; obtain ⟨HI, E3, hN2, hB2⟩ := HST.out _ _ hO2 hg2 hat2; have c7 := HC7.out _ E3)
        | (go_at_call 29; refine (HAT.out _ E3).mono ?_; rintro e u ⟨rfl, rfl⟩)
        | (go_at_call 54; refine (HBW.out _).mono ?_; rintro e u ⟨rfl, rfl⟩))
      obtain ⟨W3, hW3⟩ : ∃ X, u.alloc (.cells #[.slice kA s.kids.length kc] 33) = X := ⟨_, rfl⟩
      obtain ⟨Bk, hBk⟩ : ∃ q, u.heap.size = q := ⟨_, rfl⟩
      have hBk1 : w.heap.size + 1 ≠ Bk := by omega
      rw [hW3, hBk] at HI
      rw [hW3, hBk]
      have hN3 : N ≤ W3.heap.size := by rw [← hW3, World.size_alloc]; omega
      have EW3 : Ext w W3 := HI.ext
      clear hW3 hBk hB2 HST HBW HAT HC7 c7 ho2 hone E3 hN2
      refine wpIn_wide.1 (wpIn_rangeFunc_ownH (F := Fence.wide) (n := 10) rfl (by omega) (by rfl) trivial (enters_of Try.func60 (by kernel_rfl) rfl) (back_stops 9 w w.heap.size s.kids (.slice kA s.kids.length kc) Bk W3 EW3.size HKR.out EW3 HI.bk hkb) (fun h k => h.trans k) ?hKb (Below.refl _ _) (fun x => rfl)
        (fun pre W => ∃ stv, StI w W N (w.heap.size + 1) Bk ds (.slice kA s.kids.length kc) (.slice A2 (dn.length + 1) c2) stv (st ++ pre.map (·.2)) (dn ++ [m])) (fun _ _ _ => False) (StI.own w N _ Bk _ hN3 EW3.size ds _ _ (fun pre => st ++ pre.map (·.2)) _) (fun _ _ _ _ _ h _ _ => h) ⟨_, by simpa using HI⟩
        (fun x a' _ => SubA w A m (.slice A2 (dn.length + 1) c2) x.2 a') (fun _ _ _ _ _ _ h _ _ => h) ?assign ?body ?done ?stop)
      case hKb =>
        intro W' r o o' h1 h2 h3 h4
        refine ⟨⟨rfl, rfl, rfl, by simp, fun k hk => World.putObj_heap_other (fun e => by have := EW3.size; omega)⟩, fun hb => ?_⟩
        refine (World.putObj_heap_other (fun e => ?_)).trans hb
        subst e
        rw [show W'.heap[Bk]? = _ from hb] at h2; cases h2; cases h3
      case assign =>
        intro r pre x W' K hI hK
        have hz : ∀ t : Array Value, (((#[33, 34] : Array Tmp).zip #[Value.int .i64 (x.1 : Int), Value.int .i64 (x.2 : Int)]).foldl (fun t (p, v) => t.setIfInBounds p v) t) = (t.setIfInBounds 33 (.int .i64 (x.1 : Int))).setIfInBounds 34 (.int .i64 (x.2 : Int)) := by intro t; simp
        rw [hz]
        simp only [List.setIfInBounds_toArray, List.set_cons_zero, List.set_cons_succ]
        gi_wp2
        exact hK _ _ (KeepsFrom.refl _ _) (KeepB.refl _ _ _ _) hI ⟨_, _, _, _, _, _, _, _, _, _, _, _, _, _, _, _, _, _, _, _, _, _, _, _, _, _, _, _, _, _, _, _, _, _, _, _, rfl⟩
      case body =>
        rintro r pre x a' W' - - ⟨stv, hI⟩ ⟨u4, u7, u9, u10, u11, u12, u13, u14, u15, u16, u17, u18, u19, u20, u21, u22, u23, u24, u25, u26, u27, u28, u29, u30, u31, u32, u33, u34, u35, u36, u37, u38, u39, u40, u41, u42, rfl⟩ hlen
        obtain ⟨sl, hsl⟩ : ∃ sl, st ++ pre.map (·.2) = sl := ⟨_, rfl⟩
        have hsll : sl.length ≤ 2000000 := by rw [← hsl, List.length_append, List.length_map]; omega
        rw [hsl] at hI
        have HSL := Lib.hid hsl
        clear hsl
        obtain ⟨tA, tc, rfl, -, -⟩ := owns_slice hI.st
        have cB := hI.box.cell 0
        have hone : RdS (W'.alloc (.cells #[.int .i64 (x.2 : Int)] 3)) 1 1 [.int .i64 (x.2 : Int)] (.slice (some ⟨W'.heap.size, 0, none⟩) 1 1) := RdS.one (cs := #[.int .i64 (x.2 : Int)]) (size := 1) rfl
        have hIa := Lib.hid (hI.alloc (.cells #[.int .i64 (x.2 : Int)] 3))
        have H1 := Lib.hid hone
        have hWe := hI.ext.size
        clear hone hI
        gi_wp2_with (gi_at_builtin
                     refine wpListIn_append_rd rfl rfl T33 (v := _) (by rfl) hIa.out.st (by rfl) H1.out (by intro u hu; rw [List.mem_singleton.1 hu]; rfl) (by omega) (by simp only [maxLen]; omega) hIa.out.ext.size ?_
                     intro v3 w3 hown3 hg3 hat3
                     obtain ⟨A3, c3, rfl, -, -⟩ := owns_slice hown3
                     obtain ⟨hI4, hK4, hO4, hB4⟩ := hIa.out.push (k := x.2) hBk1 (by omega) hg3 hat3 hown3
                     have cB3 : w3.cell? ⟨w.heap.size + 1, 0, none⟩ = some (.slice tA sl.length tc) := hB4.cell 0
                     have fB3 : w3.frozen? ⟨w.heap.size + 1, 0, none⟩ = false := hB4.frozen 0)
        refine ⟨((KeepsOthers.alloc W' (.cells #[.int .i64 (x.2 : Int)] 3)).trans hO4).from _, (KeepB.alloc W' (.cells #[.int .i64 (x.2 : Int)] 3) hWe).trans hK4, .slice A3 (sl.length + 1) c3, ?_⟩
        rw [List.map_append, ← List.append_assoc, HSL.out]
        exact hI4
      case done =>
        rintro D xs W4 hD hS ⟨stv, hI⟩ hDm
        rw [hS] at hI
        obtain ⟨sn, hsn⟩ : ∃ sn, st ++ s.kids.reverse = sn := ⟨_, rfl⟩
        rw [hsn] at hI
        have hrev : sn.reverse = s.kids ++ st.reverse := by rw [← hsn]; simp
        have HP4 := Lib.hid (show PreL S sn.reverse (l1 ++ l2) from by rw [hrev]; exact HP3.out)
        have hDlt : D < W4.heap.size := (Array.getElem?_eq_some_iff.1 hDm).1
        have hMk := hI.mks.push hDm hN0 (Nat.le_trans hN3 hD) hDlt
        have HI4 := Lib.hid hI
        have HMK := Lib.hid hMk
        have hsnl : sn.length ≤ 2000000 := by rw [← hsn, List.length_append, List.length_reverse]; omega
        have hW4 : w.heap.size ≤ W4.heap.size := hI.ext.size
        obtain ⟨tA, tc, hstv, -, -⟩ := owns_slice hI.st
        have cB : W4.cell? ⟨w.heap.size + 1, 0, none⟩ = some (.slice tA sn.length tc) := by rw [← hstv]; exact hI.box.cell 0
        have HDL := Lib.hid (show (dn ++ [m]) ++ (l1 ++ l2) = l from by rw [← hdl.out]; simp)
        clear hI hMk hDm hsn hrev hS hD hDlt HP3 HP12 HS
        rcases List.eq_nil_or_concat sn with hnil | ⟨st3, m3, hc3⟩
        · have hl0 : sn.length = 0 := by rw [hnil]; rfl
          rw [hl0] at cB
          have HL := Lib.hid (show dn ++ [m] = l from by
            have q := HP4.out
            rw [hnil] at q
            have q3 : ∀ r, PreL S [] r → r = [] := by intro r hr; cases hr; rfl
            have : l1 ++ l2 = [] := q3 _ q
            have q2 := HDL.out
            rw [this, List.append_nil] at q2
            exact q2)
          have hdn := Lib.hid (show dn.length + 1 = l.length from by rw [← HL.out]; simp)
          clear hnil hl0
          go_wp2_with fail
          show LeavesInM Fence.wide 10 Try.prog Try.f39 _ _ _ .returning W4
          refine leaves_marks _ _ _ _ HMK.out (fun W' hk h6 h7 h8 h9 => ?_)
          have hO := HI4.out.out
          rw [HL.out] at hO
          refine ⟨_, results_tmp rfl _ _ _, _, rfl, ?_, ?_⟩
          · show W'.ownsRow w.heap.size 3 1 (.slice A2 (dn.length + 1) c2) l.length (ints l)
            rcases owns_form hO with ⟨q1, _, _⟩ | ⟨g', cap', cs', q1, q2, q3, q4, q5, q6, q7, q8⟩
            · cases q1
            · have qq := hdn.out
              rw [qq] at q1 ⊢
              rw [q1]
              exact owns_mk q2 (hk _ _ q3 (.inr rfl)) q4 q5 q6 q7 q8
          · have hX := HI4.out.ext
            refine ⟨h6.trans hX.os, h7.trans hX.tape, h8.trans hX.output, by rw [h9]; exact hX.size, fun k hk2 => ?_⟩
            obtain ⟨o, ho⟩ : ∃ o, W4.heap[k]? = some o := ⟨_, Array.getElem?_eq_getElem (by omega)⟩
            rw [← hX.block k hk2, ho]
            exact hk k o ho (.inl hk2)
        · rw [List.concat_eq_append] at hc3
          have hl0 : sn.length = st3.length + 1 := by rw [hc3]; simp
          rw [hl0] at cB
          have HC3 := Lib.hid hc3
          have hll2 : dn.length < l.length := by
            have := congrArg List.length hdl.out
            simp at this; omega
          clear hl0 hc3
          go_wp2_with fail
          refine wp_goto ?_
          have hI := HI4.out
          rw [HC3.out] at hI
          have HP5 := HP4.out
          rw [HC3.out, List.reverse_append] at HP5
          have hst5 := hI.st
          rw [List.length_append] at hst5
          first
            | exact ⟨rfl, ⟨st3, dn ++ [m], l1 ++ l2, m3, 0, W4.heap.size, .nilFunc, .slice A2 (dn.length + 1) c2, stv, _, _, _, _, _, _, _, _, _, _, _, _, _, _, _, _, _, _, _, _, _, _, _, _, _, _, _, _, _, _, _, _, _, _, _, _, _, _, _, rfl, ⟨hI.ext, hI.box, hst5, hI.out, hI.apart, HMK.out, hW4, Nat.le_refl _⟩, HP5, HDL.out, rfl, rfl⟩⟩
            | exact ⟨rfl, ⟨⟨st3, dn ++ [m], l1 ++ l2, m3, 0, W4.heap.size, .nilFunc, .slice A2 (dn.length + 1) c2, stv, _, _, _, _, _, _, _, _, _, _, _, _, _, _, _, _, _, _, _, _, _, _, _, _, _, _, _, _, _, _, _, _, _, _, _, _, _, _, _, rfl, ⟨hI.ext, hI.box, hst5, hI.out, hI.apart, HMK.out, hW4, Nat.le_refl _⟩, HP5, HDL.out, rfl, rfl⟩, by show l.length - lenV (Value.slice A2 (dn.length + 1) c2) < l.length - lenV (Value.slice oA dn.length oc); simp only [lenV]; omega⟩⟩
      case stop =>
        intro D c pre W' _ _ h
        exact h.elim
  case pass =>
    rintro a W ⟨st, dn, rest, m, Bk0, N, kv0, ov, stv, ds, u1, u4, u7, u8, u9, u10, u11, u12, u13, u14, u15, u16, u17, u18, u19, u20, u21, u22, u23, u24, u25, u26, u27, u28, u29, u30, u31, u32, u33, u34, u35, u36, u37, u38, u39, u40, u41, u42, rfl, ⟨hE, h1, h2, h3, h4, h5, hN0, hN⟩, hp, hl, -, -⟩
    have hst := h2
    rcases owns_form hst with ⟨_, h0, _⟩ | ⟨g, cap, cs, rfl, hgb, hgx, g4, g5, g6, g7, g8⟩
    · omega
    have cm : W.cell? ⟨g, st.length, none⟩ = some (.int .i64 (m : Int)) := by rw [hgx.cell]; exact g8 _ _ (ints_at (by simp))
    have cB := h1.cell 0
    have fB := h1.frozen 0
    have hg5 : (cap : Int) ≤ 9223372036854775807 := by unfold maxLen at g5; omega
    have hown1 : W.ownsRow w.heap.size 3 1 (.slice (some ⟨g, 0, none⟩) st.length cap) st.length (ints st) := by
      refine owns_mk hgb hgx (by omega) g5 g6 (by rw [ints_len]; omega) (fun j u hu => g8 j u ?_)
      have hj := (List.getElem?_eq_some_iff.1 hu).1
      rw [ints_app, List.getElem?_append_left hj]; exact hu
    obtain ⟨W1, hW1⟩ : ∃ X, W.setCell ⟨w.heap.size + 1, 0, none⟩ (.slice (some ⟨g, 0, none⟩) st.length cap) = X := ⟨_, rfl⟩
    have F1 : Fr W W1 (fun k => k = w.heap.size + 1) := by rw [← hW1]; exact Fr.setCell _ _ _ _
    have hnB : ∀ {base n : Nat} {v : Value} {xs : List Value}, W.ownsRow base 3 1 v n xs → ∀ x, v.ownBlock = some x → ¬ x = w.heap.size + 1 := by
      intro base n v xs hv x hx e
      subst e
      rcases owns_form hv with ⟨q1, _⟩ | ⟨g', cap', cs', q1, _, q2, _⟩
      · rw [q1] at hx; cases hx
      · rw [q1] at hx
        obtain rfl : g' = w.heap.size + 1 := Option.some.inj hx
        have : some (Obj.cells #[Value.slice (some ⟨g, 0, none⟩) (st.length + 1) cap] 33 (0, 0)) = some (Obj.cells cs' 3 (0, 0)) := (show W.heap[w.heap.size + 1]? = _ from h1).symm.trans q2
        cases this
    have b1 : NBox W1 (w.heap.size + 1) 33 #[.slice (some ⟨g, 0, none⟩) st.length cap] := by rw [← hW1]; exact h1.set 0 _
    have o1 := owns_fr F1 hown1 (hnB hown1)
    have o2 := owns_fr F1 h3 (hnB h3)
    obtain ⟨oA, oc, rfl, -, -⟩ := owns_slice o2
    have E1 : Ext w W1 := Fr.ext hE F1 (fun i e => by omega)
    have M1 : Marks w.heap.size N W1 ds := by rw [← hW1]; exact h5.kept (KeepsOthers.setCell _ _ _)
    have hsz1 := Lib.hid (show W1.heap.size = W.heap.size from by rw [← hW1]; simp [World.setCell])
    cases hp with
    | @cons _ s _ l1 l2 hs hp1 hp2 =>
      have hHW1 := Lib.hid hW1
      have HS := Lib.hid hs
      have HP12 := Lib.hid (hp2.app hp1)
      have HP3 := Lib.hid (show PreL S (s.kids ++ st.reverse) (l1 ++ l2) from hp1.app hp2)
      have hdl := Lib.hid hl
      have hm := lt_of_get hs
      have hm16 : m < 16 * bs.length := Nat.lt_of_lt_of_le hm h.room
      obtain ⟨b, csb, av, kv, f1, f2, f3, f4, f5, f6⟩ := h.slot hm16
      rw [St.get_of hs] at f5 f6
      have hsl : slotAt bs m = ⟨b, m % 16 * 8, none⟩ := by rw [slotAt, f2]
      have HKR := Lib.hid (show ∀ X, Ext w X → RdS X 1 s.kids.length (ints s.kids) kv from fun X EX => RdS.ext EX (RdS.of_owns f6.ks))
      have HC7 := Lib.hid (show ∀ X, Ext w X → X.cell? ⟨b, m % 16 * 8 + 7, none⟩ = some kv from fun X EX => by rw [(f3.ext EX).cell]; exact f5 7 _ rfl)
      have HAT := Lib.hid (show ∀ X, Ext w X → Calls Try.prog 29 #[.pointer (some ⟨A, 0, none⟩), .int .i64 (m : Int)] X fun e w' => e = .returned (.pointer (some ⟨b, m % 16 * 8, none⟩)) ∧ w' = X from fun X EX => by
        have := at_any (h.ext EX) m hm16 hbig
        rwa [hsl] at this)
      have hkb : s.kids.length ≤ 1000000 := by have := h.big.2.2 m; rwa [St.get_of hs] at this
      obtain ⟨kA, kc, hkv, hk1, hk2⟩ := owns_slice f6.ks
      have E2 : Ext W1 (W1.alloc (.cells #[.int .i64 (m : Int)] 3)) := (Ext.refl _).alloc _
      have hone := Lib.hid (show RdS (W1.alloc (.cells #[.int .i64 (m : Int)] 3)) 1 1 [.int .i64 (m : Int)] (.slice (some ⟨W1.heap.size, 0, none⟩) 1 1) from RdS.one (cs := #[.int .i64 (m : Int)]) (size := 1) rfl)
      have ho2 := Lib.hid (owns_ext E2 o2)
      have hstl : st.length ≤ 1000000 := by
        have := congrArg List.length hl
        have q := hp2.len
        simp only [List.length_append, List.length_cons, List.length_reverse] at this q
        omega
      have hdnl : dn.length + 1 ≤ 1000000 := by
        have := congrArg List.length hl
        simp only [List.length_append, List.length_cons] at this
        omega
      have hhsz : w.heap.size ≤ (W1.alloc (.cells #[.int .i64 (m : Int)] 3)).heap.size := (E1.alloc _).size
      clear hs hp1 hp2 hl f1 f2 f3 f4 f5 f6 hsl hW1 hst hgx g8 g7 g6 hown1 h1 h2 h3 hnB
      go_upto_region 5 with fail
      rw [hHW1.out]
      have HST := Lib.hid (show ∀ (v2 : Value) (W2 : World), W2.ownsRow w.heap.size 3 1 v2 (dn.length + 1) (ints dn ++ [.int .i64 (m : Int)]) → (W1.alloc (.cells #[.int .i64 (m : Int)] 3)).grownBy W2 (Value.slice oA dn.length oc).ownBlock → (v2.ownBlock = (Value.slice oA dn.length oc).ownBlock ∨ v2.ownBlock = some (W1.alloc (.cells #[.int .i64 (m : Int)] 3)).heap.size) →
          StI w (W2.alloc (.cells #[.slice kA s.kids.length kc] 33)) N (w.heap.size + 1) W2.heap.size ds (.slice kA s.kids.length kc) v2 (.slice (some ⟨g, 0, none⟩) st.length cap) st (dn ++ [m]) ∧ Ext w W2 ∧ N ≤ W2.heap.size ∧ w.heap.size + 1 < W2.heap.size from by
        intro v2 W2 hO hg hat
        have hz : ∀ k, (Value.slice oA dn.length oc).ownBlock = some k → w.heap.size ≤ k := fun k hk => (o2.lt k hk).1
        have E3 : Ext w W2 := (E1.alloc _).grown hg hz
        have nr : ∀ {x : Nat} {t : TypeId} {cs : Array Value}, NBox (W1.alloc (.cells #[.int .i64 (m : Int)] 3)) x t cs → t ≠ 3 → some x ≠ (Value.slice oA dn.length oc).ownBlock := by
          intro x t cs hb ht e
          rcases owns_form ho2.out with ⟨q1, _⟩ | ⟨g', cap', cs', q1, _, q2, _⟩
          · rw [q1] at e; cases e
          · rw [q1] at e
            obtain rfl : x = g' := Option.some.inj e
            have : some (Obj.cells cs t (0, 0)) = some (Obj.cells cs' 3 (0, 0)) := (show (W1.alloc (.cells #[.int .i64 (m : Int)] 3)).heap[x]? = _ from hb).symm.trans q2
            cases this; exact ht rfl
        have b2 := b1.ext E2
        have b3 : NBox W2 (w.heap.size + 1) 33 #[.slice (some ⟨g, 0, none⟩) st.length cap] := (hg.block _ b2.lt (nr b2 (by decide))).trans b2
        have o3 : W2.ownsRow w.heap.size 3 1 (.slice (some ⟨g, 0, none⟩) st.length cap) st.length (ints st) := by
          refine (owns_ext E2 o1).kept hg ?_
          rcases hov : (Value.slice oA dn.length oc).ownBlock with _ | x
          · exact .inr (fun e => by cases e)
          · exact .inr (fun e => h4 g rfl (hov.trans e.symm))
        have hKO : KeepsOthers W1 W2 := by
          refine (KeepsOthers.alloc W1 _).trans (KeepsOthers.of_grownBy hg fun j o ej hj => ?_)
          rcases owns_form ho2.out with ⟨q1, _⟩ | ⟨g', cap', cs', q1, _, q2, _⟩
          · rw [q1] at ej; cases ej
          · rw [q1] at ej
            obtain rfl : g' = j := Option.some.inj ej
            rw [show (W1.alloc (.cells #[.int .i64 (m : Int)] 3)).heap[g']? = _ from q2] at hj; cases hj; rfl
        have EA : Ext W2 (W2.alloc (.cells #[.slice kA s.kids.length kc] 33)) := (Ext.refl _).alloc _
        refine ⟨⟨b3.ext EA, NBox.new _ _ _, owns_ext EA o3, ?_, fun x hx => ?_, E3.trans EA, (M1.kept hKO).kept (KeepsOthers.alloc _ _)⟩, E3, ?_, b3.lt⟩
        · rw [List.length_append, ints_app]; exact owns_ext EA hO
        · obtain rfl : g = x := Option.some.inj hx
          rcases hat with e | e
          · rw [e]; exact h4 g rfl
          · rw [e]
            intro e2
            have q := Option.some.inj e2
            have := (o1.lt g rfl).2
            rw [World.size_alloc] at q
            omega
        · have := hg.size
          have q := hsz1.out
          rw [World.size_alloc] at this
          omega)
      have HBW := Lib.hid (backward_any (.slice kA s.kids.length kc) ⟨_, _, _, rfl⟩)
      rw [hkv] at HKR HC7
      clear M1 o1 o2 b1 F1 h4 h5 E1 E2 cm fB cB
      go_wp2_with (first
        | (at_builtin; refine wpList_append_rd rfl rfl T33 (v := _) rfl ho2.out rfl hone.out (by intro u hu; rw [List.mem_singleton.1 hu]; rfl) (by omega) (by simp only [maxLen]; omega) hhsz ?_; intro v2 W2 hO2 hg2 hat2; obtain ⟨A2, c2, rfl, -, -⟩ := owns_slice hO2; obtain ⟨HI, E3, hN2, hB2⟩ := HST.out _ _ hO2 hg2 hat2; have c7 := HC7.out _ E3)
        | (go_at_call 29; refine (HAT.out _ E3).mono ?_; rintro e u ⟨rfl, rfl⟩)
        | (go_at_call 54; refine (HBW.out _).mono ?_; rintro e u ⟨rfl, rfl⟩))
      obtain ⟨W3, hW3⟩ : ∃ X, u.alloc (.cells #[.slice kA s.kids.length kc] 33) = X := ⟨_, rfl⟩
      obtain ⟨Bk, hBk⟩ : ∃ q, u.heap.size = q := ⟨_, rfl⟩
      have hBk1 : w.heap.size + 1 ≠ Bk := by omega
      rw [hW3, hBk] at HI
      rw [hW3, hBk]
      have hN3 : N ≤ W3.heap.size := by rw [← hW3, World.size_alloc]; omega
      have EW3 : Ext w W3 := HI.ext
      clear hW3 hBk hB2 HST HBW HAT HC7 c7 ho2 hone E3 hN2
      refine wpIn_wide.1 (wpIn_rangeFunc_ownH (F := Fence.wide) (n := 10) rfl (by omega) (by rfl) trivial (enters_of Try.func60 (by kernel_rfl) rfl) (back_stops 9 w w.heap.size s.kids (.slice kA s.kids.length kc) Bk W3 EW3.size HKR.out EW3 HI.bk hkb) (fun h k => h.trans k) ?hKb (Below.refl _ _) (fun x => rfl)
        (fun pre W => ∃ stv, StI w W N (w.heap.size + 1) Bk ds (.slice kA s.kids.length kc) (.slice A2 (dn.length + 1) c2) stv (st ++ pre.map (·.2)) (dn ++ [m])) (fun _ _ _ => False) (StI.own w N _ Bk _ hN3 EW3.size ds _ _ (fun pre => st ++ pre.map (·.2)) _) (fun _ _ _ _ _ h _ _ => h) ⟨_, by simpa using HI⟩
        (fun x a' _ => SubA w A m (.slice A2 (dn.length + 1) c2) x.2 a') (fun _ _ _ _ _ _ h _ _ => h) ?assign ?body ?done ?stop)
      case hKb =>
        intro W' r o o' h1 h2 h3 h4
        refine ⟨⟨rfl, rfl, rfl, by simp, fun k hk => World.putObj_heap_other (fun e => by have := EW3.size; omega)⟩, fun hb => ?_⟩
        refine (World.putObj_heap_other (fun e => ?_)).trans hb
        subst e
        rw [show W'.heap[Bk]? = _ from hb] at h2; cases h2; cases h3
      case assign =>
        intro r pre x W' K hI hK
        have hz : ∀ t : Array Value, (((#[33, 34] : Array Tmp).zip #[Value.int .i64 (x.1 : Int), Value.int .i64 (x.2 : Int)]).foldl (fun t (p, v) => t.setIfInBounds p v) t) = (t.setIfInBounds 33 (.int .i64 (x.1 : Int))).setIfInBounds 34 (.int .i64 (x.2 : Int)) := by intro t; simp
        rw [hz]
        simp only [List.setIfInBounds_toArray, List.set_cons_zero, List.set_cons_succ]
        gi_wp2
        exact hK _ _ (KeepsFrom.refl _ _) (KeepB.refl _ _ _ _) hI ⟨_, _, _, _, _, _, _, _, _, _, _, _, _, _, _, _, _, _, _, _, _, _, _, _, _, _, _, _, _, _, _, _, _, _, _, _, rfl⟩
      case body =>
        rintro r pre x a' W' - - ⟨stv, hI⟩ ⟨u4, u7, u9, u10, u11, u12, u13, u14, u15, u16, u17, u18, u19, u20, u21, u22, u23, u24, u25, u26, u27, u28, u29, u30, u31, u32, u33, u34, u35, u36, u37, u38, u39, u40, u41, u42, rfl⟩ hlen
        obtain ⟨sl, hsl⟩ : ∃ sl, st ++ pre.map (·.2) = sl := ⟨_, rfl⟩
        have hsll : sl.length ≤ 2000000 := by rw [← hsl, List.length_append, List.length_map]; omega
        rw [hsl] at hI
        have HSL := Lib.hid hsl
        clear hsl
        obtain ⟨tA, tc, rfl, -, -⟩ := owns_slice hI.st
        have cB := hI.box.cell 0
        have hone : RdS (W'.alloc (.cells #[.int .i64 (x.2 : Int)] 3)) 1 1 [.int .i64 (x.2 : Int)] (.slice (some ⟨W'.heap.size, 0, none⟩) 1 1) := RdS.one (cs := #[.int .i64 (x.2 : Int)]) (size := 1) rfl
        have hIa := Lib.hid (hI.alloc (.cells #[.int .i64 (x.2 : Int)] 3))
        have H1 := Lib.hid hone
        have hWe := hI.ext.size
        clear hone hI
        gi_wp2_with (gi_at_builtin
                     refine wpListIn_append_rd rfl rfl T33 (v := _) (by rfl) hIa.out.st (by rfl) H1.out (by intro u hu; rw [List.mem_singleton.1 hu]; rfl) (by omega) (by simp only [maxLen]; omega) hIa.out.ext.size ?_
                     intro v3 w3 hown3 hg3 hat3
                     obtain ⟨A3, c3, rfl, -, -⟩ := owns_slice hown3
                     obtain ⟨hI4, hK4, hO4, hB4⟩ := hIa.out.push (k := x.2) hBk1 (by omega) hg3 hat3 hown3
                     have cB3 : w3.cell? ⟨w.heap.size + 1, 0, none⟩ = some (.slice tA sl.length tc) := hB4.cell 0
                     have fB3 : w3.frozen? ⟨w.heap.size + 1, 0, none⟩ = false := hB4.frozen 0)
        refine ⟨((KeepsOthers.alloc W' (.cells #[.int .i64 (x.2 : Int)] 3)).trans hO4).from _, (KeepB.alloc W' (.cells #[.int .i64 (x.2 : Int)] 3) hWe).trans hK4, .slice A3 (sl.length + 1) c3, ?_⟩
        rw [List.map_append, ← List.append_assoc, HSL.out]
        exact hI4
      case done =>
        rintro D xs W4 hD hS ⟨stv, hI⟩ hDm
        rw [hS] at hI
        obtain ⟨sn, hsn⟩ : ∃ sn, st ++ s.kids.reverse = sn := ⟨_, rfl⟩
        rw [hsn] at hI
        have hrev : sn.reverse = s.kids ++ st.reverse := by rw [← hsn]; simp
        have HP4 := Lib.hid (show PreL S sn.reverse (l1 ++ l2) from by rw [hrev]; exact HP3.out)
        have hDlt : D < W4.heap.size := (Array.getElem?_eq_some_iff.1 hDm).1
        have hMk := hI.mks.push hDm hN0 (Nat.le_trans hN3 hD) hDlt
        have HI4 := Lib.hid hI
        have HMK := Lib.hid hMk
        have hsnl : sn.length ≤ 2000000 := by rw [← hsn, List.length_append, List.length_reverse]; omega
        have hW4 : w.heap.size ≤ W4.heap.size := hI.ext.size
        obtain ⟨tA, tc, hstv, -, -⟩ := owns_slice hI.st
        have cB : W4.cell? ⟨w.heap.size + 1, 0, none⟩ = some (.slice tA sn.length tc) := by rw [← hstv]; exact hI.box.cell 0
        have HDL := Lib.hid (show (dn ++ [m]) ++ (l1 ++ l2) = l from by rw [← hdl.out]; simp)
        clear hI hMk hDm hsn hrev hS hD hDlt HP3 HP12 HS
        rcases List.eq_nil_or_concat sn with hnil | ⟨st3, m3, hc3⟩
        · have hl0 : sn.length = 0 := by rw [hnil]; rfl
          rw [hl0] at cB
          have HL := Lib.hid (show dn ++ [m] = l from by
            have q := HP4.out
            rw [hnil] at q
            have q3 : ∀ r, PreL S [] r → r = [] := by intro r hr; cases hr; rfl
            have : l1 ++ l2 = [] := q3 _ q
            have q2 := HDL.out
            rw [this, List.append_nil] at q2
            exact q2)
          have hdn := Lib.hid (show dn.length + 1 = l.length from by rw [← HL.out]; simp)
          clear hnil hl0
          go_wp2_with fail
          show LeavesInM Fence.wide 10 Try.prog Try.f39 _ _ _ .returning W4
          refine leaves_marks _ _ _ _ HMK.out (fun W' hk h6 h7 h8 h9 => ?_)
          have hO := HI4.out.out
          rw [HL.out] at hO
          refine ⟨_, results_tmp rfl _ _ _, _, rfl, ?_, ?_⟩
          · show W'.ownsRow w.heap.size 3 1 (.slice A2 (dn.length + 1) c2) l.length (ints l)
            rcases owns_form hO with ⟨q1, _, _⟩ | ⟨g', cap', cs', q1, q2, q3, q4, q5, q6, q7, q8⟩
            · cases q1
            · have qq := hdn.out
              rw [qq] at q1 ⊢
              rw [q1]
              exact owns_mk q2 (hk _ _ q3 (.inr rfl)) q4 q5 q6 q7 q8
          · have hX := HI4.out.ext
            refine ⟨h6.trans hX.os, h7.trans hX.tape, h8.trans hX.output, by rw [h9]; exact hX.size, fun k hk2 => ?_⟩
            obtain ⟨o, ho⟩ : ∃ o, W4.heap[k]? = some o := ⟨_, Array.getElem?_eq_getElem (by omega)⟩
            rw [← hX.block k hk2, ho]
            exact hk k o ho (.inl hk2)
        · rw [List.concat_eq_append] at hc3
          have hl0 : sn.length = st3.length + 1 := by rw [hc3]; simp
          rw [hl0] at cB
          have HC3 := Lib.hid hc3
          have hll2 : dn.length < l.length := by
            have := congrArg List.length hdl.out
            simp at this; omega
          clear hl0 hc3
          go_wp2_with fail
          refine wp_goto ?_
          have hI := HI4.out
          rw [HC3.out] at hI
          have HP5 := HP4.out
          rw [HC3.out, List.reverse_append] at HP5
          have hst5 := hI.st
          rw [List.length_append] at hst5
          first
            | exact ⟨rfl, ⟨st3, dn ++ [m], l1 ++ l2, m3, 0, W4.heap.size, .nilFunc, .slice A2 (dn.length + 1) c2, stv, _, _, _, _, _, _, _, _, _, _, _, _, _, _, _, _, _, _, _, _, _, _, _, _, _, _, _, _, _, _, _, _, _, _, _, _, _, _, _, rfl, ⟨hI.ext, hI.box, hst5, hI.out, hI.apart, HMK.out, hW4, Nat.le_refl _⟩, HP5, HDL.out, rfl, rfl⟩⟩
            | exact ⟨rfl, ⟨⟨st3, dn ++ [m], l1 ++ l2, m3, 0, W4.heap.size, .nilFunc, .slice A2 (dn.length + 1) c2, stv, _, _, _, _, _, _, _, _, _, _, _, _, _, _, _, _, _, _, _, _, _, _, _, _, _, _, _, _, _, _, _, _, _, _, _, _, _, _, _, rfl, ⟨hI.ext, hI.box, hst5, hI.out, hI.apart, HMK.out, hW4, Nat.le_refl _⟩, HP5, HDL.out, rfl, rfl⟩, by show l.length - lenV (Value.slice A2 (dn.length + 1) c2) < l.length - lenV (Value.slice oA dn.length oc); simp only [lenV]; omega⟩⟩
      case stop =>
        intro D c pre W' _ _ h
        exact h.elim
end Go.Proofs.Ytobbdeakocgdcaa.Ar
