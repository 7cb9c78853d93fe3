/- Chapter 17: arguments that come in: lists of operations, nodes, rows of ints. (Printed by gwopen.py.) -/
import Derived.Test.YtofcbclokkjfjaaOuSpot
import Derived.Test.YtofcbclokkjfjaaProg
import Derived.ChangeSame
import Derived.ChangeSlices
import Derived.Deep.Slices
import Derived.OpenShut
import Derived.Carry
import Derived.Test.YtofcbclokkjfjaaRows
import Derived.ProofKit
import Derived.Test.YtofcbclokkjfjaaWiTree
import Derived.Test.YtofcbclokkjfjaaBsPlain
import Derived.BigQuiet
import Derived.Deep.QuietTactic
import Derived.Deep.AppendLies
import Derived.WalkSpells
namespace Go.Proofs.Ytofcbclokkjfjaa.Wi
open Go.RowKit Go.ChangeShapes Go.WideShapes Go.Proofs.Ytofcbclokkjfjaa.Bw

section
variable {H : Type} {enc : TypeId × Value → H} {w : World} {base : Nat} {spare : Nat → Bool} {held : Bool}










end
end Go.Proofs.Ytofcbclokkjfjaa.Wi
namespace Go.Proofs.Ytofcbclokkjfjaa.Wi
open Go.RowKit Go.ChangeShapes Go.WideShapes Go.ChangeAt

theorem own : ownKnob Try.prog.godebug = none := by kernel_rfl
theorem laidOut : laidOutB Try.prog = true := by kernel_rfl

/-- All arguments read as they did where nothing old has turned. -/
theorem trodAll_below {H : Type} {enc : TypeId × Value → H} {P : Program} (hl : laidOutB P = true) {W W' : World} (hb : Below W.heap.size W W') :
  ∀ {ts : List TypeId} {vs : List Value} {ds : List (DataW H)} {ps : List MemPlace}, (∀ t ∈ ts, P.readableRec t = true ∧ t < P.types.size) → (∀ x ∈ ps, x.block < W.heap.size) →
   DataW.TrodAll enc P W 0 (fun _ => true) true ts vs ds ps → DataW.TrodAll enc P W' 0 (fun b => decide (b < W.heap.size)) true ts vs ds ps
 | [], vs, ds, ps, _, _, h => by
  obtain ⟨rfl, rfl, rfl⟩ := trodAll_nil h
  exact trodAll_mk0
 | t :: ts, vs, ds, ps, hr, hlt, h => by
  obtain ⟨v, vs1, d, ds1, a, b, rfl, rfl, rfl, h1, h2⟩ := trodAll_cons h
  exact ⟨a, b, Below.trod hl (hr t (by simp)).1 (hr t (by simp)).2 h1 hb (fun x hx => hlt x (by simp [hx])), trodAll_below hl hb (fun t' ht => hr t' (by simp [ht])) (fun x hx => hlt x (by simp [hx])) h2, rfl⟩

/-- THE POST of a law that answers true and leaves all that was there. -/
theorem post_true {H : Type} {enc : TypeId × Value → H} {P : Program} {f : Func} {s : ChangeSpec} {bt : TypeId} {handsOn : Bool} {W W' : World} {args : Array Value} {ds gs : List (DataW H)} {before : List MemPlace}
  (hl : laidOutB P = true) (hps : ∀ t ∈ f.params.toList, P.readableRec t = true ∧ t < P.types.size) (hvars : s.vars = []) (hrt : f.resultTypes = #[bt]) (hbt : P.underlying bt = some .bool)
  (hW : DataW.Whole enc P f.params.toList s.vars false W args.toList ds gs before) (hE : Below W.heap.size W W')
  (hfn : s.fn H (ds ++ gs) = { results := [.lit (.bool true)], args := ds }) : s.post enc P f false true handsOn false W args (.bool true) W' := by
 have hlt : ∀ x ∈ before, x.block < W.heap.size := fun x hx => by simpa using hW.lt x hx
 have hW0 := hW
 obtain ⟨p, q, hA, hV, rfl, hfz, hnd⟩ := hW
 rw [hvars] at hV
 obtain ⟨rfl, rfl⟩ := trodVars_none hV
 refine ⟨ds, [], p ++ [], [], p, [], hW0, ?_, ?_, ?_, ?_, fun h => by cases h⟩
 ·rw [hfn, hrt]
  exact trodAll_mk1 (shut_bool hbt true)
 ·rw [hfn]
  exact trodAll_below hl hE hps (fun x hx => hlt x (by simp [hx])) hA
 ·rw [hfn, hvars]
  rfl
 ·exact hE.frame _
section
variable {H : Type} {enc : TypeId × Value → H} {P : Program} {w : World} {base : Nat} {spare : Nat → Bool} {held : Bool}
end
end Go.Proofs.Ytofcbclokkjfjaa.Wi
namespace Go.Proofs.Ytofcbclokkjfjaa.Bw
open Go.RowKit
/-- W has each cell of wo. -/
structure Sub (wo W : World) : Prop where
 cell : ∀ {p : Addr} {v : Value}, wo.cell? p = some v → W.cell? p = some v
theorem Sub.refl (w : World) : Sub w w := ⟨fun h => h⟩
theorem Sub.trans {a b c : World} (h : Sub a b) (k : Ext b c) : Sub a c := ⟨fun hp => k.cell (h.cell hp)⟩
theorem Sub.then {a b c : World} (h : Sub a b) (k : Sub b c) : Sub a c := ⟨fun hp => k.cell (h.cell hp)⟩
theorem Ext.sub {a b : World} (h : Ext a b) : Sub a b := ⟨fun hp => h.cell hp⟩
theorem rdAttrs_sub {w w' : World} (h : Sub w w') {b : Nat} : ∀ {off : Nat} {l : List (ByteArray × ByteArray)}, rdAttrs w b off l → rdAttrs w' b off l
 | _, [], _ => trivial
 | _, (_, _) :: _, ⟨h1, h2, h3, h4, h5⟩ => ⟨h.cell h1, h.cell h2, h3, h4, rdAttrs_sub h h5⟩
theorem RdA.sub {w w' : World} (h : Sub w w') {l : List (ByteArray × ByteArray)} {v : Value} (hr : RdA w l v) : RdA w' l v := by
 obtain ⟨A, c, rfl, h1, h2, h3⟩ := hr
 refine ⟨A, c, rfl, h1, h2, fun hl => ?_⟩
 obtain ⟨b, off, rfl, h4⟩ := h3 hl
 exact ⟨b, off, rfl, rdAttrs_sub h h4⟩
mutual
theorem Nd.rd_sub {w w' : World} (h : Sub w w') : ∀ {t : Nd} {v : Value}, Nd.rd w t v → Nd.rd w' t v
 | .mk _ _ _ _ _ ks, _, hr => by
  unfold Nd.rd at hr ⊢
  obtain ⟨av, A, c, rfl, h1, h2, h3, h4, h5, h6, h7⟩ := hr
  refine ⟨av, A, c, rfl, h1, h2, h3, h4.sub h, h5, h6, fun hl => ?_⟩
  obtain ⟨b, off, rfl, h8⟩ := h7 hl
  exact ⟨b, off, rfl, rdKids_sub h h8⟩
theorem rdKids_sub {w w' : World} (h : Sub w w') {b : Nat} : ∀ {off : Nat} {l : List Nd}, rdKids w b off l → rdKids w' b off l
 | _, [], _ => by unfold rdKids; trivial
 | _, k :: r, hr => by
  unfold rdKids at hr ⊢
  obtain ⟨⟨c0, c1, c2, c3, c4, c5, h0, h1, h2, h3, h4, h5, h6⟩, h7⟩ := hr
  exact ⟨⟨c0, c1, c2, c3, c4, c5, h.cell h0, h.cell h1, h.cell h2, h.cell h3, h.cell h4, h.cell h5, Nd.rd_sub h h6⟩, rdKids_sub h h7⟩
end
theorem RdK.sub {w w' : World} (h : Sub w w') {l : List Nd} {v : Value} (hr : RdK w l v) : RdK w' l v := by
 obtain ⟨A, c, rfl, h1, h2, h3⟩ := hr
 refine ⟨A, c, rfl, h1, h2, fun hl => ?_⟩
 obtain ⟨b, off, rfl, h4⟩ := h3 hl
 exact ⟨b, off, rfl, rdKids_sub h h4⟩
theorem RdS.sub {w w' : World} (h : Sub w w') {size n : Nat} {xs : List Value} {v : Value} (hr : RdS w size n xs v) : RdS w' size n xs v := by
 obtain ⟨A, c, h1, h2, h3, h4, h5⟩ := hr
 refine ⟨A, c, h1, h2, h3, h4, fun hl => ?_⟩
 obtain ⟨b, off, h6, h7⟩ := h5 hl
 exact ⟨b, off, h6, fun j u hj => h.cell (h7 j u hj)⟩
/-- The blocks that are made from w2 to w3 stand in W as they are in w3. -/
def News (w2 w3 W : World) : Prop := ∀ k, w2.heap.size ≤ k → k < w3.heap.size → W.heap[k]? = w3.heap[k]?
theorem News.now (w2 w3 : World) : News w2 w3 w3 := fun _ _ _ => rfl
theorem cell_block {w : World} {p : Addr} {v : Value} (h : w.cell? p = some v) : p.block < w.heap.size := by
 unfold World.cell? at h
 rcases Nat.lt_or_ge p.block w.heap.size with hlt | hge
 ·exact hlt
 ·rw [Array.getElem?_eq_none hge] at h; cases h
theorem cell_same {w W : World} {p : Addr} (h : W.heap[p.block]? = w.heap[p.block]?) : W.cell? p = w.cell? p := by
 unfold World.cell?; rw [h]
def nothing : Obj := .cells #[] 0
/-- wo, and what was made from w2 to w3. -/
def glue (wo w2 w3 : World) : World := { wo with heap := Array.ofFn (n := w3.heap.size) (fun k => if k.val < w2.heap.size then (wo.heap[k.val]?).getD nothing else (w3.heap[k.val]?).getD nothing) }
theorem glue_size (wo w2 w3 : World) : (glue wo w2 w3).heap.size = w3.heap.size := by simp [glue]
theorem glue_old {wo w2 w3 : World} {k : Nat} (hk : k < w2.heap.size) (h3 : k < w3.heap.size) (ho : k < wo.heap.size) : (glue wo w2 w3).heap[k]? = wo.heap[k]? := by
 simp [glue, hk, h3, ho]
theorem glue_new {wo w2 w3 : World} {k : Nat} (hk : w2.heap.size ≤ k) (h3 : k < w3.heap.size) : (glue wo w2 w3).heap[k]? = w3.heap[k]? := by
 simp [glue, Nat.not_lt.2 hk, h3]
theorem nothing_cell (i : Nat) (e : Option Nat) (w : World) (k : Nat) (h : w.heap[k]? = some nothing) : ∀ v, w.cell? ⟨k, i, e⟩ ≠ some v := by
 intro v hv
 unfold World.cell? at hv
 rw [h] at hv
 simp [nothing] at hv
end Go.Proofs.Ytofcbclokkjfjaa.Bw
namespace Go.Proofs.Ytofcbclokkjfjaa.Sy
open Go.RowKit Go.Proofs.Ytofcbclokkjfjaa.Bw Go.Proofs.Ytofcbclokkjfjaa.Bs
/-- A value that reads as a row of ints. -/
abbrev RdI (w : World) (p : List Int) (v : Value) : Prop := RdS w 1 p.length (p.map (Value.int .i64)) v
theorem T22 : SliceT Try.prog 27 3 (.int .i64 0) 1 8 := SliceT.mk' Try.underlying27 (by kernel_rfl) rfl (by decide)
theorem ints_step {a b : List Int} {i : Nat} {x y : Int} (hx : a[i]? = some x) (hy : b[i]? = some y) : decide (a.drop i = b.drop i) = ((x == y) && decide (a.drop (i + 1) = b.drop (i + 1))) := by
  rw [drop_at hx, drop_at hy]
  by_cases h : x = y
  · subst h; simp
  · simp [h]
set_option maxRecDepth 100000 in
set_option maxHeartbeats 1000000 in
theorem copied_any (p : List Int) (v : Value) (w : World) (h : RdI w p v) (hl : p.length ≤ 1000000) : Calls Try.prog 8 #[v] w (Ret w fun r w' => w'.ownsRow w.heap.size 3 1 r p.length (p.map (Value.int .i64))) := by
  have h0 := h
  obtain ⟨A, c, rfl, _, a1, a2, _⟩ := h0
  have hnil : w.ownsRow w.heap.size 3 1 (.slice none 0 0) 0 [] := ⟨rfl, .inl ⟨rfl, rfl⟩⟩
  go_enter Try.func8, Try.ntmps8
  go_wp2_with (at_builtin; refine wpList_append_rd rfl rfl T22 (v := _) (by rfl) hnil (by rfl) h (ints_one _ _) (by omega) (by simp only [maxLen]; omega) (Nat.le_refl _) ?_; intro v3 w3 hown hg hat)
  go_ret
  exact ⟨_, rfl, by simpa using hown, Ext.grown (Ext.refl w) hg (fun k hk => by cases hk)⟩
set_option maxRecDepth 100000 in
set_option maxHeartbeats 1000000 in
theorem clone_any (p : List Int) (v : Value) (w : World) (h : RdI w p v) (hl : p.length ≤ 1000000) : Calls Try.prog 41 #[v] w (Ret w fun r w' => w'.ownsRow w.heap.size 3 1 r p.length (p.map (Value.int .i64))) := by
  have h0 := h
  obtain ⟨A, c, rfl, _, a1, a2, a3⟩ := h0
  have hnil := Lib.run_eql_slice_nil (P := Try.prog) w 27 3 A p.length c 0 0 Try.underlying27
  cases A with
  | none =>
    obtain rfl : p = [] := by
      cases p with
      | nil => rfl
      | cons x r => obtain ⟨_, _, h, _⟩ := a3 (by simp); cases h
    simp only [List.length_nil] at hnil
    go_enter Try.func41, Try.ntmps41
    go_wp2_with fail
    go_ret
    exact ⟨_, rfl, ⟨rfl, .inl ⟨rfl, rfl⟩⟩, Ext.refl w⟩
  | some a =>
    obtain ⟨w1, hw1⟩ : ∃ w1, w.alloc (.cells #[] 3) = w1 := ⟨_, rfl⟩
    have hE1 : Ext w w1 := by rw [← hw1]; exact (Ext.refl w).alloc _
    have hown : w1.ownsRow w.heap.size 3 1 (.slice (some ⟨w.heap.size, 0, none⟩) 0 0) 0 [] := by
      rw [← hw1]; exact ⟨rfl, .inr ⟨_, 0, _, rfl, Nat.le_refl _, World.alloc_heap_new w _, Nat.le_refl _, by simp [maxLen], rfl, rfl⟩⟩
    have h1 := h.ext hE1
    have H1 := Lib.hid hw1
    clear hw1 a3
    go_enter Try.func41, Try.ntmps41
    go_wp2_with (first
      | (rw [H1.out]; clear H1)
      | (at_builtin
         refine wpList_append_rd rfl rfl T22 (v := _) (by rfl) hown (by rfl) h1 (ints_one _ _) (by omega) (by simp only [maxLen]; omega) (by have := hE1.size; omega) ?_
         intro v3 w3 hown3 hg3 hat3))
    go_ret
    exact ⟨_, rfl, by simpa using hown3, Ext.grown hE1 hg3 (owns_base hown)⟩
def comm : List Int → List Int → Nat
  | x :: r, y :: s => if x = y then 1 + comm r s else 0
  | _, _ => 0
theorem comm_le : ∀ p q, comm p q ≤ p.length
  | x :: r, y :: s => by rw [comm]; have := comm_le r s; split <;> simp <;> omega
  | [], _ => by simp [comm]
  | _ :: _, [] => by simp [comm]
theorem comm_nil (p : List Int) : comm p [] = 0 := by cases p <;> rfl
theorem comm_within : ∀ p q, decide (comm p q = p.length) = within p q
  | [], q => by simp [comm, within_nil]
  | x :: r, [] => by simp [comm, within]
  | x :: r, y :: s => by
    have ih := comm_within r s
    have h1 := comm_le r s
    rw [comm]
    by_cases h : x = y
    · subst h
      rw [if_pos rfl]
      have e1 : within (x :: r) (x :: s) = within r s := by simp [within]
      rw [e1, ← ih]
      congr 1
      simp only [List.length_cons, eq_iff_iff]
      omega
    · rw [if_neg h]
      have e1 : within (x :: r) (y :: s) = false := by simp [within, Ne.symm h]
      rw [e1]
      simp
theorem within_eq (p q : List Int) : (decide (p.length = q.length) && within p q) = decide (p = q) := by
  rw [Bool.eq_iff_iff, Bool.and_eq_true, decide_eq_true_eq, decide_eq_true_eq, Bs.within_iff]
  constructor
  · rintro ⟨h, r, rfl⟩
    have : r = [] := by simpa using h
    rw [this, List.append_nil]
  · rintro rfl; exact ⟨rfl, [], by simp⟩
set_option maxRecDepth 100000 in
set_option maxHeartbeats 1000000 in
theorem common_any (a b : List Int) (u v : Value) (w : World) (ha : RdI w a u) (hb : RdI w b v) : Calls Try.prog 58 #[u, v] w (Ret w fun r _ => r = .int .i64 (comm a b)) := by
  obtain ⟨aA, ac, rfl, _, a1, a2, a3⟩ := ha
  obtain ⟨bA, bc, rfl, _, b1, b2, b3⟩ := hb
  unfold maxLen at a2 b2
  go_enter Try.func58, Try.ntmps58
  go_wp2_with fail
  go_loopw [5] (fun s wr => ∃ i : Nat, s = .int .i64 i ∧ i ≤ a.length ∧ i ≤ b.length ∧ Hid (i + comm (a.drop i) (b.drop i) = comm a b) ∧ Ext w wr) (fun i _ => a.length - (intOf i).toNat)
  case atStart => exact ⟨0, rfl, Nat.zero_le _, Nat.zero_le _, Nat.zero_add _, Ext.refl _⟩
  case round =>
    obtain ⟨i, rfl, hi, hi2, HW, hE⟩ := hrel
    have q1 : (0 : Int) ≤ (i : Int) := by omega
    rcases Nat.lt_or_ge i a.length with hlt | hlt
    · have q2 : (i : Int) < (a.length : Int) := by omega
      rcases Nat.lt_or_ge i b.length with hlt2 | hlt2
      · obtain ⟨x, hx⟩ : ∃ x, a[i]? = some x := ⟨_, List.getElem?_eq_getElem hlt⟩
        obtain ⟨y, hy⟩ : ∃ x, b[i]? = some x := ⟨_, List.getElem?_eq_getElem hlt2⟩
        obtain ⟨ba, oa, rfl, ra⟩ := a3 (by omega)
        obtain ⟨bb, ob, rfl, rb⟩ := b3 (by omega)
        have e1 := hE.cell (ra i (.int .i64 x) (by rw [List.getElem?_map, hx]; rfl))
        have f1 := hE.cell (rb i (.int .i64 y) (by rw [List.getElem?_map, hy]; rfl))
        have HD : Hid (comm (a.drop i) (b.drop i) = if x = y then 1 + comm (a.drop (i + 1)) (b.drop (i + 1)) else 0) := by rw [drop_at hx, drop_at hy, comm]; trivial
        have q3 : (i : Int) < (b.length : Int) := by omega
        clear hx hy ra rb a3 b3
        rcases hc1 : (x == y) with _ | _
        · have HG : Hid ((i : Int) = (comm a b : Nat)) := by
            have h := HW.out
            rw [HD.out, if_neg (by simpa using hc1)] at h
            show (i : Int) = _
            omega
          clear HW HD
          go_wp2_with fail
          go_quiet (fail)
          go_wp2_with fail
          go_ret
          exact ⟨_, rfl, by first | exact rfl | (show _ = _; rw [← HG.out]; rfl), hE.drewN _⟩
        · have HN : Hid (i + 1 + comm (a.drop (i + 1)) (b.drop (i + 1)) = comm a b) := by
            have h := HW.out
            rw [HD.out, if_pos (by simpa using hc1)] at h
            show _ = _
            omega
          clear HW HD
          go_wp2_with fail
          go_quiet (fail)
          go_wp2_with fail
          go_roundw
          case rel => exact ⟨i + 1, by go_num, by omega, by omega, HN, hE.drewN _⟩
          case measure => simp [intOf]; omega
      · have HG : Hid ((i : Int) = (comm a b : Nat)) := by
          have h := HW.out
          rw [List.drop_eq_nil_of_le hlt2, comm_nil] at h
          show (i : Int) = _
          omega
        have q3 : decide ((i : Int) < (b.length : Int)) = false := decide_eq_false (by omega)
        have q3' : decide (i < b.length) = false := decide_eq_false (by omega)
        clear HW a3 b3
        go_wp2_with fail
        go_quiet (fail)
        go_wp2_with fail
        go_ret
        exact ⟨_, rfl, by first | exact rfl | (show _ = _; rw [← HG.out]; rfl), hE.drewN _⟩
    · have HG : Hid ((i : Int) = (comm a b : Nat)) := by
        have h := HW.out
        rw [List.drop_eq_nil_of_le hlt] at h
        have h2 : comm [] (b.drop i) = 0 := rfl
        rw [h2] at h
        show (i : Int) = _
        omega
      have q2 : decide ((i : Int) < (a.length : Int)) = false := decide_eq_false (by omega)
      have q2' : decide (i < a.length) = false := decide_eq_false (by omega)
      clear HW a3 b3
      go_wp2_with fail
      go_quiet (fail)
      go_wp2_with fail
      go_ret
      exact ⟨_, rfl, by first | exact rfl | (show _ = _; rw [← HG.out]; rfl), hE.drewN _⟩
theorem RdI.take {w : World} {q : List Int} {A : Option Addr} {c : Nat} (h : RdI w q (.slice A q.length c)) (n : Nat) (hn : n ≤ q.length) : RdI w (q.take n) (.slice A n c) := by
  obtain ⟨A', c', he, _, h1, h2, h3⟩ := h
  simp only [Value.slice.injEq, true_and] at he
  obtain ⟨rfl, rfl⟩ := he
  have hl : (q.take n).length = n := by simp; omega
  rw [RdI, hl]
  refine ⟨A, c, rfl, by simp; omega, by omega, h2, fun h0 => ?_⟩
  obtain ⟨b, off, rfl, h5⟩ := h3 (by omega)
  refine ⟨b, off, rfl, fun j u hu => h5 j u ?_⟩
  rw [List.getElem?_map] at hu ⊢
  rw [List.getElem?_take] at hu
  split at hu
  · exact hu
  · cases hu
theorem comm_beq (a b : List Int) : (((comm a b : Nat) : Int) == (a.length : Int)) = within a b := by
  rw [← comm_within, Bool.eq_iff_iff, beq_iff_eq, decide_eq_true_eq]
  omega
set_option maxRecDepth 100000 in
set_option maxHeartbeats 1000000 in
theorem withinR_any (a b : List Int) (u v : Value) (w : World) (ha : RdI w a u) (hb : RdI w b v) : Calls Try.prog 75 #[u, v] w (Ret w fun r _ => r = .bool (within a b)) := by
  have hc := common_any a b u v w ha hb
  obtain ⟨aA, ac, rfl, _, _, _, _⟩ := ha
  have hq := Lib.hid (comm_beq a b)
  obtain ⟨n, hn⟩ : ∃ n, comm a b = n := ⟨_, rfl⟩
  rw [hn] at hc hq
  clear hn
  go_enter Try.func75, Try.ntmps75
  go_wp2_with (go_at_call 58; refine hc.mono ?_; rintro e w1 ⟨r, rfl, rfl, hE⟩)
  go_ret
  exact ret_bool (by first | exact hq.out | (rw [← hq.out]; simp)) hE
set_option maxRecDepth 100000 in
set_option maxHeartbeats 1000000 in
theorem sameR_any (a b : List Int) (u v : Value) (w : World) (ha : RdI w a u) (hb : RdI w b v) : Calls Try.prog 51 #[u, v] w (Ret w fun r _ => r = .bool (decide (a = b))) := by
  have hc := common_any a b u v w ha hb
  obtain ⟨aA, ac, rfl, _, _, _, _⟩ := ha
  obtain ⟨bA, bc, rfl, _, _, _, _⟩ := hb
  have hq := comm_beq a b
  have he := within_eq a b
  by_cases hl : a.length = b.length
  · have hd : ((a.length : Int) == (b.length : Int)) = true := by rw [beq_iff_eq]; omega
    rw [decide_eq_true hl, Bool.true_and] at he
    rw [he] at hq
    have HQ := Lib.hid hq
    clear hq he hl
    obtain ⟨n, hn⟩ : ∃ n, comm a b = n := ⟨_, rfl⟩
    rw [hn] at hc HQ
    clear hn
    go_enter Try.func51, Try.ntmps51
    go_wp2_with (go_at_call 58; refine hc.mono ?_; rintro e w1 ⟨r, rfl, rfl, hE⟩)
    go_ret
    exact ret_bool (by first | exact HQ.out | (rw [← HQ.out]; simp)) hE
  · have hd : ((a.length : Int) == (b.length : Int)) = false := by rw [beq_eq_false_iff_ne]; omega
    have HF := Lib.hid (show decide (a = b) = false from decide_eq_false (fun h => hl (by rw [h])))
    clear hl hq he hc
    go_enter Try.func51, Try.ntmps51
    go_wp2_with fail
    go_ret
    exact ret_bool HF.out.symm (Ext.refl w)
set_option maxRecDepth 100000 in
set_option maxHeartbeats 1000000 in
theorem child_any (p : List Int) (i : Int) (v : Value) (w : World) (h : RdI w p v) (hl : p.length ≤ 100000) : Calls Try.prog 33 #[v, .int .i64 i] w (Ret w fun r w' => w'.ownsRow w.heap.size 3 1 r (p ++ [i]).length ((p ++ [i]).map (Value.int .i64))) := by
  have hc := copied_any p v w h (by omega)
  obtain ⟨A, c, rfl, _, _, _, _⟩ := h
  go_enter Try.func33, Try.ntmps33
  go_wp2_with (first
    | (go_at_call 8; refine hc.mono ?_; clear hc; rintro e w1 ⟨r, rfl, hown, hE⟩
       obtain ⟨w2, hw2⟩ : ∃ W, w1.alloc (.cells #[.int .i64 i] 3) = W := ⟨_, rfl⟩
       have hE2 : Ext w1 w2 := by rw [← hw2]; exact (Ext.refl _).alloc _
       have h1 : RdS w2 1 1 [.int .i64 i] (.slice (some ⟨w1.heap.size, 0, none⟩) 1 1) := by rw [← hw2]; exact RdS.one rfl
       have H2 := Lib.hid hw2
       clear hw2)
    | (rw [H2.out]; clear H2)
    | (at_builtin
       refine wpList_append_rd rfl rfl T22 (v := _) (by rfl) (owns_ext hE2 hown) (by rfl) h1 (fun u hu => by rw [List.mem_singleton.1 hu]; rfl) (by omega) (by simp only [maxLen]; omega) (hE.trans hE2).size ?_
       intro v3 w3 hown3 hg3 hat3))
  go_ret
  exact ⟨_, rfl, by simpa using hown3, Ext.grown (hE.trans hE2) hg3 (owns_base hown)⟩
end Go.Proofs.Ytofcbclokkjfjaa.Sy
