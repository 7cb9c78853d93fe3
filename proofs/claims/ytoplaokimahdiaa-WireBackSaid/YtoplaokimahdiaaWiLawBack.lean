/- Chapter 17: the law WireBack. (Printed by glwback.py.) -/
import Derived.Test.YtoplaokimahdiaaWiGotL
import Derived.Test.YtoplaokimahdiaaWiGetN
import Derived.Test.YtoplaokimahdiaaWiSameN
import Derived.Test.YtoplaokimahdiaaWiWeigh
import Derived.Test.YtoplaokimahdiaaWiBegin
import Derived.Test.YtoplaokimahdiaaWiOpenB
namespace Go.Proofs.Ytoplaokimahdiaa.Wi
open Go.RowKit Go.Proofs.Ytoplaokimahdiaa.Bw Go.Proofs.Ytoplaokimahdiaa.Bs

theorem ids_fit {w : World} {l : List OpD} {v : Value} (h : RdL w l v) : ∀ o ∈ l, idOk o := by
  obtain ⟨A, c, -, -, -, hcell⟩ := h
  intro o ho
  obtain ⟨i, hi⟩ := List.getElem?_of_mem ho
  obtain ⟨b, off, -, hr⟩ := hcell (by have := (List.getElem?_eq_some_iff.1 hi).1; omega)
  obtain ⟨⟨pv, tv, cv, -, -, -, -, -, -, -, -, -, -, -, h11⟩, -⟩ := rdOps_at hr hi
  obtain ⟨_, _, _, _, _, _, _, _, _, _, hid, _⟩ := h11
  exact hid
mutual
theorem rd_fits {w : World} : ∀ {t : Nd} {v : Value}, t.rd w v → idsFit t
  | .mk id leaf lb ats tx ks, v, h => by
    unfold Nd.rd at h
    obtain ⟨av, A, c, rfl, h1, -, -, -, -, -, h7⟩ := h
    unfold idsFit
    refine ⟨h1, ?_⟩
    cases ks with
    | nil => unfold kidsFit; trivial
    | cons k r =>
      obtain ⟨b, off, -, hr⟩ := h7 (by simp)
      exact rdKids_fits hr
theorem rdKids_fits {w : World} {b : Nat} : ∀ {off : Nat} {l : List Nd}, rdKids w b off l → kidsFit l
  | _, [], _ => by unfold kidsFit; trivial
  | _, k :: r, h => by
    unfold rdKids at h
    obtain ⟨⟨c0, c1, c2, c3, c4, c5, -, -, -, -, -, -, hk⟩, hr⟩ := h
    unfold kidsFit
    exact ⟨rd_fits hk, rdKids_fits hr⟩
end
theorem lsV.late {lo : Nat} {l : List OpD} {v : Value} {W : World} (h : lsV lo l v W) : Late (old lo) (fun W => RdL W l v) W := by
  obtain ⟨us, h1, h2⟩ := h
  exact ((Late.own h1 (Nat.le_refl _)).and (h2.sub fun _ => .inl)).imp fun W ⟨h3, h4⟩ => RdL.of_row h3 h4
theorem gotO_some {α : Type} {p : Option (α × List UInt8)} {putE : α → Option (List UInt8)} {bs : List UInt8} {x : α} (h : gotO p putE bs = some x) : p = some (x, []) ∧ bytesOf (putE x) = bs := by
  rcases p with _ | ⟨y, r⟩
  · cases h
  · cases r with
    | cons c r => cases h
    | nil =>
      replace h : (if bytesOf (putE y) = bs then some y else none) = some x := h
      split at h
      next hb => cases h; exact ⟨rfl, hb⟩
      next => cases h
theorem list_got {l : List OpD} {x : List UInt8} (hid : ∀ o ∈ l, idOk o) (h : listE l = some x) : gotO (listP x) listE x = some l := by
  have := list_comp l x [] hid h
  rw [List.append_nil] at this
  rw [this]
  exact if_pos (by rw [h]; rfl)
theorem list_gotE {m : List OpD} {y : List UInt8} (h : gotO (listP y) listE y = some m) : listE m = some y := by
  obtain ⟨h1, h2⟩ := gotO_some h
  rcases hm : listE m with _ | z
  · rw [hm] at h2
    rw [show y = [] from h2.symm] at h1
    cases h1
  · rw [hm] at h2
    rw [show z = y from h2]
theorem tree_got {t : Nd} {x : List UInt8} (hid : idsFit t) (h : treeE t = some x) : gotO (nodeP 65 x) treeE x = some t := by
  have hn : nodeE 0 t = some x := by
    unfold treeE at h
    split at h
    next => exact h
    next => cases h
  have := node_comp t 0 65 x [] rfl hid hn
  rw [List.append_nil] at this
  rw [this]
  exact if_pos (by rw [h]; rfl)
theorem tree_gotE {m : Nd} {y : List UInt8} (h : gotO (nodeP 65 y) treeE y = some m) : treeE m = some y := by
  obtain ⟨h1, h2⟩ := gotO_some h
  rcases hm : treeE m with _ | z
  · rw [hm] at h2
    rw [show y = [] from h2.symm] at h1
    cases h1
  · rw [hm] at h2
    rw [show z = y from h2]
theorem list_len {l : List OpD} {x : List UInt8} (hid : ∀ o ∈ l, idOk o) (h : listE l = some x) : x.length ≤ 20000000000000 := by
  have e : listE l = rowE l 4096 (fun o => if o.id ≤ 18446744073709551615 then opE o else none) := row_congr 4096 fun o ho => by rw [if_pos (hid o ho).2]
  rw [e] at h
  have := rowE_len (M := 4295100000) (fun o b hb => by
    split at hb
    next hi => exact opE_len hi hb
    next => cases hb) (by decide) h
  omega
theorem tree_len {t : Nd} {x : List UInt8} (hid : idLt t) (h : treeE t = some x) : x.length ≤ 20000000000000 := by
  unfold treeE at h
  split at h
  next hc =>
    have := nodeE_len t 0 x hid h
    have h2 : 710000 * t.cnt ≤ 710000 * 512 := Nat.mul_le_mul_left _ hc
    omega
  next => cases h
/-- One begins the other one, and they are not the same. -/
def Off (x y : List UInt8) : Prop := ∃ s, s ≠ [] ∧ (x ++ s = y ∨ y ++ s = x)
theorem off_less {x : List UInt8} {N : Nat} (hn : x.length = N) (h : 0 < N) : Off x (x.take (N - 1)) := by
  subst hn
  exact
  ⟨x.drop (x.length - 1), fun hh => by have := congrArg List.length hh; rw [List.length_drop, List.length_nil] at this; omega, .inr (List.take_append_drop _ _)⟩
theorem off_more (x : List UInt8) (c : UInt8) : Off x (x ++ [c]) := ⟨[c], by simp, .inl rfl⟩
theorem getL_yes {l : List OpD} {x : List UInt8} (hid : ∀ o ∈ l, idOk o) (h : listE l = some x) (bv : Value) (w : World) (hb : RdS w 1 x.length (u8s x) bv) : Calls Try.prog 32 #[bv] w (fun e W' => Ext w W' ∧ ∃ v, e = .returned (.tuple #[v, .int .i64 0]) ∧ lsV w.heap.size l v W') := by
  have := getList_any x bv w hb
  rw [list_got hid h] at this
  exact this
theorem getL_off {l : List OpD} {x y : List UInt8} (hid : ∀ o ∈ l, idOk o) (h : listE l = some x) (ho : Off x y) (bv : Value) (w : World) (hb : RdS w 1 y.length (u8s y) bv) : Calls Try.prog 32 #[bv] w (fun e W' => Ext w W' ∧ e = .returned (.tuple #[.slice none 0 0, .int .i64 170])) := by
  refine (getList_any y bv w hb).mono fun e W' ⟨hX, hP⟩ => ⟨hX, ?_⟩
  rcases hg : gotO (listP y) listE y with _ | m
  · rw [hg] at hP
    exact hP
  · rw [hg] at hP
    obtain ⟨v, -, hv⟩ := hP
    obtain ⟨s, hs, he⟩ := ho
    have hm := list_gotE hg
    have hi : ∀ o ∈ m, 0 ≤ o.id := fun o ho => (ids_fit hv.rd o ho).1
    rcases he with he | he
    · exact absurd (list_ud (r := s) (s := []) (fun o ho => (hid o ho).1) hi h hm (by rw [he, List.append_nil])).2 hs
    · exact absurd (list_ud (r := []) (s := s) (fun o ho => (hid o ho).1) hi h hm (by rw [he, List.append_nil])).2.symm hs
theorem getN_yes {t : Nd} {x : List UInt8} (hid : idsFit t) (h : treeE t = some x) (bv : Value) (w : World) (hb : RdS w 1 x.length (u8s x) bv) : Calls Try.prog 30 #[bv] w (fun e W' => Ext w W' ∧ ∃ v, e = .returned (.tuple #[v, .int .i64 0]) ∧ ndV w.heap.size t v W') := by
  have := getNode_any x bv w hb
  rw [tree_got hid h] at this
  exact this
theorem getN_off {t : Nd} {x y : List UInt8} (hid : idsOk t) (h : treeE t = some x) (ho : Off x y) (bv : Value) (w : World) (hb : RdS w 1 y.length (u8s y) bv) : Calls Try.prog 30 #[bv] w (fun e W' => Ext w W' ∧ e = .returned (.tuple #[.agg #[.int .u64 0, .bool false, .string ⟨#[]⟩, .slice none 0 0, .string ⟨#[]⟩, .slice none 0 0], .int .i64 170])) := by
  refine (getNode_any y bv w hb).mono fun e W' ⟨hX, hP⟩ => ⟨hX, ?_⟩
  rcases hg : gotO (nodeP 65 y) treeE y with _ | m
  · rw [hg] at hP
    exact hP
  · rw [hg] at hP
    obtain ⟨v, -, hv⟩ := hP
    obtain ⟨s, hs, he⟩ := ho
    have hm := tree_gotE hg
    have hi : idsOk m := Nd.rd_ids (Late.now hv)
    rcases he with he | he
    · exact absurd (tree_ud (r := s) (s := []) hid hi h hm (by rw [he, List.append_nil])).2 hs
    · exact absurd (tree_ud (r := []) (s := s) hid hi h hm (by rw [he, List.append_nil])).2.symm hs
set_option maxRecDepth 100000 in
set_option maxHeartbeats 8000000 in
theorem lawBack (l : List OpD) (t : Nd) (b : List UInt8) (lv tv bv : Value) (w : World) (hl : RdL w l lv) (ht : t.rd w tv) (hb : RdS w 1 b.length (u8s b) bv) : Calls Try.prog 8 #[lv, tv, bv] w (Ret w fun r _ => r = .bool true) := by
  obtain ⟨tA, tc, tK, td, rfl⟩ : ∃ tA tc tK td, tv = .agg #[.int .u64 t.id, .bool t.leaf, .string t.label, .slice tA t.attrs.length tc, .string t.text, .slice tK t.kids.length td] := by
    obtain ⟨av, kv, rfl, -, -, -, -, ⟨aA, ac, rfl, -⟩, ⟨kA, kc, rfl, -⟩⟩ := Nd.rd_open ht
    exact ⟨aA, ac, kA, kc, rfl⟩
  have hbm := RdS.len_le hb
  unfold maxLen at hbm
  obtain ⟨w1, hw1⟩ : ∃ W, w.alloc (.cells #[.int .u64 t.id, .bool t.leaf, .string t.label, .slice tA t.attrs.length tc, .string t.text, .slice tK t.kids.length td] 32) = W := ⟨_, rfl⟩
  obtain ⟨T, hT⟩ : ∃ T, w.heap.size = T := ⟨_, rfl⟩
  have E1 : Ext w w1 := by rw [← hw1]; exact (Ext.refl w).alloc _
  have bT : NBox w1 T 32 #[.int .u64 t.id, .bool t.leaf, .string t.label, .slice tA t.attrs.length tc, .string t.text, .slice tK t.kids.length td] := by rw [← hw1, ← hT]; exact NBox.new _ _ _
  have hc := weight_any l lv w1 5000 (RdL.ext E1 hl)
  have HIDL := Lib.hid (ids_fit hl)
  have HIDT := Lib.hid (rd_fits ht)
  have HIDT2 := Lib.hid (Nd.rd_ids ht)
  have HIDT3 := Lib.hid (rd_idLt ht)
  have HL := Lib.hid hl
  have HT := Lib.hid ht
  have HB := Lib.hid hb
  have HBT := Lib.hid bT
  have HE1 := Lib.hid E1
  have HW1 := Lib.hid hw1
  have HTT := Lib.hid hT
  obtain ⟨lA, lc, rfl, -⟩ := hl
  obtain ⟨bA, bc, rfl, -⟩ := hb
  clear hw1 hT E1 bT ht
  go_enter Try.func8, Try.ntmps8
  go_upto_region 1 with fail
  rw [HW1.out, HTT.out]
  go_wp2_with fail
  refine hc.mono ?_
  clear hc
  rintro e w2 ⟨r, rfl, ⟨n, rfl⟩, hE⟩
  have HE2 := Lib.hid (HE1.out.trans hE)
  have HBT2 := Lib.hid (HBT.out.ext hE)
  clear hE HBT HE1 HW1 HTT
  cases g1 : decide (5000 < n) with
  | true =>
    have hw := works_any w2
    go_wp2_with fail
    refine hw.mono ?_
    clear hw
    rintro e wf ⟨rfl, hXf⟩
    go_wp2_with fail
    go_ret
    exact ⟨_, rfl, rfl, HE2.out.trans hXf⟩
  | false =>
  have hc := heavy_any t _ 0 5000 w2 (Nd.rd_ext HE2.out HT.out)
  have t0 := HBT2.out.cell 0
  have t1 := HBT2.out.cell 1
  have t2 := HBT2.out.cell 2
  have t3 := HBT2.out.cell 3
  have t4 := HBT2.out.cell 4
  have t5 := HBT2.out.cell 5
  go_wp2_with fail
  refine hc.mono ?_
  clear hc t0 t1 t2 t3 t4 t5
  rintro e w3 ⟨r, rfl, ⟨n2, rfl⟩, hE⟩
  have HE3 := Lib.hid (HE2.out.trans hE)
  have HBT3 := Lib.hid (HBT2.out.ext hE)
  clear hE HBT2 HE2
  cases g2 : decide (5000 < n2) with
  | true =>
    have hw := works_any w3
    go_wp2_with fail
    refine hw.mono ?_
    clear hw
    rintro e wf ⟨rfl, hXf⟩
    go_wp2_with fail
    go_ret
    exact ⟨_, rfl, rfl, HE3.out.trans hXf⟩
  | false =>
  rcases Nat.lt_or_ge 5000 b.length with hbl | hbl
  · have hw := works_any w3
    have g3 : decide (5000 < b.length) = true := decide_eq_true hbl
    have g3' : decide ((5000 : Int) < (b.length : Int)) = true := decide_eq_true (by omega)
    go_wp2_with fail
    refine hw.mono ?_
    clear hw
    rintro e wf ⟨rfl, hXf⟩
    go_wp2_with fail
    go_ret
    exact ⟨_, rfl, rfl, HE3.out.trans hXf⟩
  have g3 : decide (5000 < b.length) = false := decide_eq_false (by omega)
  have g3' : decide ((5000 : Int) < (b.length : Int)) = false := decide_eq_false (by omega)
  have hc := putList_any l _ w3 (RdL.ext HE3.out HL.out)
  go_wp2_with fail
  refine hc.mono ?_
  clear hc
  rintro e w4 ⟨hX, v, rfl, hO⟩
  have HE := Lib.hid hX
  have HO := Lib.hid hO
  obtain ⟨xA, xc, rfl, -, hxc, hxm, -⟩ := RdS.of_owns hO
  unfold maxLen at hxm
  clear hX hO
  obtain ⟨N, hN⟩ : ∃ N, (bytesOf (listE l)).length = N := ⟨_, rfl⟩
  rw [hN] at HO hxc ⊢
  have HN := Lib.hid hN
  clear hN
  obtain ⟨cb, hcb⟩ : ∃ cb, decide ((0 : Int) < (N : Int)) = cb := ⟨_, rfl⟩
  have hcb2 : decide (0 < N) = cb := by rw [← hcb, Bool.eq_iff_iff, decide_eq_true_eq, decide_eq_true_eq]; omega
  go_upto_if 43 with fail
  have HCB := Lib.hid hcb2
  clear hcb hcb2
  go_cut [] from 44 to 80 (fun wx => Ext w3 wx)
  case first =>
    rcases hle : listE l with _ | x
    · obtain rfl : cb = false := by rw [← HCB.out, ← HN.out, hle]; rfl
      clear hle HCB HN
      go_wp2_with fail
      go_meet
      exact HE.out
    · have hb1 : bytesOf (listE l) = x := by rw [hle]; rfl
      have hne : x ≠ [] := row_ne hle
      have HLE := Lib.hid hle
      have HNX : Hid (x.length = N) := Lib.hid (by have := HN.out; rw [hb1] at this; exact this)
      rw [hb1] at HO
      obtain rfl : cb = true := by rw [← HCB.out, ← HNX.out]; exact decide_eq_true (List.length_pos_iff.2 hne)
      clear hb1 hle HCB HN
      have hpos : 0 < N := by rw [← HNX.out]; exact List.length_pos_iff.2 hne
      have p1 : decide (0 < N) = true := decide_eq_true hpos
      have p1' : decide ((0 : Int) < (N : Int)) = true := decide_eq_true (by omega)
      have p2 : (1 : Int) ≤ (N : Int) := by omega
      have p3 : (0 : Int) ≤ (N : Int) - 1 := by omega
      have p4 : (N : Int) - 1 ≤ (xc : Int) := by omega
      have p5 : IntKind.i64.wrap ((N : Int) - 1) = (N : Int) - 1 := IntWalk.i64_in _ (by omega)
      have p6 : ((N : Int) - 1).toNat = N - 1 := by omega
      have p7 : N - 1 ≤ xc := by omega
      have HPOS := Lib.hid hpos
      have hNL : N ≤ 20000000000000 := by rw [← HNX.out]; exact list_len HIDL.out HLE.out
      have HLIM : Hid (∀ q, (Value.slice xA N xc).ownBlock = some q → w3.heap.size ≤ q ∧ q < w4.heap.size) := Lib.hid (fun q hq => ⟨owns_base HO.out q hq, (HO.out.lt q hq).2⟩)
      obtain ⟨LIM, hLIM⟩ : ∃ q, w4.heap.size = q := ⟨_, rfl⟩
      have hc := getL_yes HIDL.out HLE.out _ w4 (by rw [HNX.out]; exact RdS.of_owns HO.out)
      have HLL := Lib.hid (show LIM ≤ w4.heap.size from by rw [hLIM]; exact Nat.le_refl _)
      rw [hLIM] at hc HLIM
      clear hne hpos hLIM
      go_wp2_with fail
      refine hc.mono ?_
      clear hc
      rintro e wy ⟨hX, v, rfl, hv⟩
      have HO' := Lib.hid (owns_ext hX HO.out)
      have HE' := Lib.hid (HE.out.trans hX)
      have HLL' := Lib.hid (Nat.le_trans HLL.out hX.size)
      have HV := Lib.hid hv.late
      obtain ⟨mA, mc, rfl⟩ := hv.slice
      clear hX hv
      clear HO
      have HO := HO'
      clear HO'
      clear HE
      have HE := HE'
      clear HE'
      clear HLL
      have HLL := HLL'
      clear HLL'
      have hrd := RdS.front (bs := x) (A := xA) (c := xc) (n := N - 1) (by rw [HNX.out]; exact RdS.of_owns HO.out) (by rw [HNX.out]; omega)
      have hc := getL_off HIDL.out HLE.out (off_less HNX.out HPOS.out) _ wy hrd
      clear hrd
      go_wp2_with fail
      refine hc.mono ?_
      clear hc p5 p6
      rintro e wn ⟨hX, rfl⟩
      have HO' := Lib.hid (owns_ext hX HO.out)
      have HE' := Lib.hid (HE.out.trans hX)
      have HV' := Lib.hid (HV.out.ext hX)
      clear hX
      clear HO
      have HO := HO'
      clear HO'
      clear HE
      have HE := HE'
      clear HE'
      clear HV
      have HV := HV'
      clear HV'
      obtain ⟨wp, hwp⟩ : ∃ q, wn.alloc (.cells #[.int .u8 0] 5) = q := ⟨_, rfl⟩
      obtain ⟨S, hS⟩ : ∃ q, wn.heap.size = q := ⟨_, rfl⟩
      have XP : Ext wn wp := by rw [← hwp]; exact (Ext.refl _).alloc _
      have HRD : Hid (RdS wp 1 1 (u8s [(0 : UInt8)]) (.slice (some ⟨S, 0, none⟩) 1 1)) := Lib.hid (by rw [← hwp, ← hS]; exact rd_byte _ 0)
      have HO' := Lib.hid (owns_ext XP HO.out)
      have HE' := Lib.hid (HE.out.trans XP)
      have HV' := Lib.hid (HV.out.ext XP)
      have HWP := Lib.hid hwp
      have HSS := Lib.hid hS
      clear hwp hS XP
      clear HO
      have HO := HO'
      clear HO'
      clear HE
      have HE := HE'
      clear HE'
      clear HV
      have HV := HV'
      clear HV'
      have HSP := Lib.hid HE.out.size
      go_wp2_with (first | (rw [HWP.out, HSS.out]; clear HWP HSS) | (at_builtin; refine wpList_append_rd rfl rfl T25 (v := _) (by rfl) HO.out (by rfl) HRD.out (u8s_one _) (by first | omega | (simp only [List.length_cons, List.length_nil]; omega)) (by first | (simp only [maxLen]; omega) | (simp only [maxLen, List.length_cons, List.length_nil]; omega)) HSP.out ?_))
      intro v8 wq O1 hg hat
      have F5 := Fr.grown hg
      have HE' := Lib.hid (Fr.ext HE.out F5 (fun q hq => (HLIM.out q hq).1))
      have HV' := Lib.hid (HV.out.to (S' := old LIM) F5 (fun q _ hh => hh.elim (fun h => (HLIM.out q h).2) id))
      have hO8 : World.ownsRow wq w3.heap.size 5 1 v8 (x ++ [(0 : UInt8)]).length (u8s (x ++ [(0 : UInt8)])) := by
        rw [List.length_append, HNX.out, show u8s (x ++ [(0 : UInt8)]) = u8s x ++ u8s [(0 : UInt8)] from List.map_append]
        exact O1
      have hrd := RdS.of_owns hO8
      obtain ⟨qA, qC, rfl, -⟩ := RdS.of_owns O1
      have hc := getL_off HIDL.out HLE.out (off_more x 0) _ wq hrd
      clear F5 O1 hg hat HRD hrd hO8 HO HSP
      clear HE
      have HE := HE'
      clear HE'
      clear HV
      have HV := HV'
      clear HV'
      go_wp2_with fail
      refine hc.mono ?_
      clear hc
      rintro e wr ⟨hX, rfl⟩
      have HE' := Lib.hid (HE.out.trans hX)
      have HV' := Lib.hid (HV.out.ext hX)
      clear hX
      clear HE
      have HE := HE'
      clear HE'
      clear HV
      have HV := HV'
      clear HV'
      have hq := sameList_any l l _ _ wr (RdL.ext (HE3.out.trans HE.out) HL.out) HV.out.now
      go_wp2_with fail
      refine hq.mono ?_
      clear hq
      rintro e wt ⟨r, rfl, ⟨tt, rfl, htt⟩, hE⟩
      obtain rfl : tt = true := by first | exact htt.2 rfl | exact htt.2 trivial
      have HE' := Lib.hid (HE.out.trans hE)
      clear hE htt
      clear HE
      have HE := HE'
      clear HE'
      go_wp2_with fail
      go_meet
      exact HE.out
  case rest =>
    have HE1x := Lib.hid hcut
    have hc := putNode_any t _ wc (Nd.rd_ext (HE3.out.trans hcut) HT.out)
    have t0 := (HBT3.out.ext hcut).cell 0
    have t1 := (HBT3.out.ext hcut).cell 1
    have t2 := (HBT3.out.ext hcut).cell 2
    have t3 := (HBT3.out.ext hcut).cell 3
    have t4 := (HBT3.out.ext hcut).cell 4
    have t5 := (HBT3.out.ext hcut).cell 5
    clear HO HE hxc hxm hcut
    go_wp2_with fail
    refine hc.mono ?_
    clear hc t0 t1 t2 t3 t4 t5
    rintro e w5 ⟨hX, v, rfl, hO⟩
    have HE := Lib.hid hX
    have HO := Lib.hid hO
    obtain ⟨xA2, xc2, rfl, -, hxc, hxm, -⟩ := RdS.of_owns hO
    unfold maxLen at hxm
    clear hX hO
    obtain ⟨N, hN⟩ : ∃ N, (bytesOf (treeE t)).length = N := ⟨_, rfl⟩
    rw [hN] at HO hxc ⊢
    have HN := Lib.hid hN
    clear hN
    obtain ⟨cb, hcb⟩ : ∃ cb, decide ((0 : Int) < (N : Int)) = cb := ⟨_, rfl⟩
    have hcb2 : decide (0 < N) = cb := by rw [← hcb, Bool.eq_iff_iff, decide_eq_true_eq, decide_eq_true_eq]; omega
    go_upto_if 85 with fail
    have HCB := Lib.hid hcb2
    clear hcb hcb2
    go_cut [] from 86 to 122 (fun wx => Ext wc wx)
    case first =>
      rcases hle : treeE t with _ | x
      · obtain rfl : cb = false := by rw [← HCB.out, ← HN.out, hle]; rfl
        clear hle HCB HN
        go_wp2_with fail
        go_meet
        exact HE.out
      · have hb1 : bytesOf (treeE t) = x := by rw [hle]; rfl
        have hne : x ≠ [] := tree_ne hle
        have HLE := Lib.hid hle
        have HNX : Hid (x.length = N) := Lib.hid (by have := HN.out; rw [hb1] at this; exact this)
        rw [hb1] at HO
        obtain rfl : cb = true := by rw [← HCB.out, ← HNX.out]; exact decide_eq_true (List.length_pos_iff.2 hne)
        clear hb1 hle HCB HN
        have hpos : 0 < N := by rw [← HNX.out]; exact List.length_pos_iff.2 hne
        have p1 : decide (0 < N) = true := decide_eq_true hpos
        have p1' : decide ((0 : Int) < (N : Int)) = true := decide_eq_true (by omega)
        have p2 : (1 : Int) ≤ (N : Int) := by omega
        have p3 : (0 : Int) ≤ (N : Int) - 1 := by omega
        have p4 : (N : Int) - 1 ≤ (xc2 : Int) := by omega
        have p5 : IntKind.i64.wrap ((N : Int) - 1) = (N : Int) - 1 := IntWalk.i64_in _ (by omega)
        have p6 : ((N : Int) - 1).toNat = N - 1 := by omega
        have p7 : N - 1 ≤ xc2 := by omega
        have HPOS := Lib.hid hpos
        have hNL : N ≤ 20000000000000 := by rw [← HNX.out]; exact tree_len HIDT3.out HLE.out
        have HLIM : Hid (∀ q, (Value.slice xA2 N xc2).ownBlock = some q → wc.heap.size ≤ q ∧ q < w5.heap.size) := Lib.hid (fun q hq => ⟨owns_base HO.out q hq, (HO.out.lt q hq).2⟩)
        obtain ⟨LIM, hLIM⟩ : ∃ q, w5.heap.size = q := ⟨_, rfl⟩
        have hc := getN_yes HIDT.out HLE.out _ w5 (by rw [HNX.out]; exact RdS.of_owns HO.out)
        have HLL := Lib.hid (show LIM ≤ w5.heap.size from by rw [hLIM]; exact Nat.le_refl _)
        rw [hLIM] at hc HLIM
        clear hne hpos hLIM
        go_wp2_with fail
        refine hc.mono ?_
        clear hc
        rintro e wy ⟨hX, v, rfl, hv⟩
        have HO' := Lib.hid (owns_ext hX HO.out)
        have HE' := Lib.hid (HE.out.trans hX)
        have HLL' := Lib.hid (Nat.le_trans HLL.out hX.size)
        obtain ⟨mA, mc, mK, md, rfl⟩ := hv.open
        have HV := Lib.hid (show Late (old LIM) (fun W => t.rd W (.agg #[.int .u64 t.id, .bool t.leaf, .string t.label, .slice mA t.attrs.length mc, .string t.text, .slice mK t.kids.length md])) wy from hv)
        clear hX hv
        clear HO
        have HO := HO'
        clear HO'
        clear HE
        have HE := HE'
        clear HE'
        clear HLL
        have HLL := HLL'
        clear HLL'
        obtain ⟨wza, hwa⟩ : ∃ q, wy.alloc (.cells #[.int .u64 0, .bool false, .string ⟨#[]⟩, .slice none 0 0, .string ⟨#[]⟩, .slice none 0 0] 32) = q := ⟨_, rfl⟩
        obtain ⟨Zm, hZ⟩ : ∃ q, wy.heap.size = q := ⟨_, rfl⟩
        have XA : Ext wy wza := by rw [← hwa]; exact (Ext.refl _).alloc _
        have bZ : NBox wza Zm 32 #[.int .u64 0, .bool false, .string ⟨#[]⟩, .slice none 0 0, .string ⟨#[]⟩, .slice none 0 0] := by rw [← hwa, ← hZ]; exact NBox.new _ _ _
        obtain ⟨wz, hwn⟩ : ∃ q, (World.setCell (World.setCell (World.setCell (World.setCell (World.setCell (World.setCell wza ⟨Zm, 0, none⟩ (.int .u64 t.id)) ⟨Zm, 1, none⟩ (.bool t.leaf)) ⟨Zm, 2, none⟩ (.string t.label)) ⟨Zm, 3, none⟩ (.slice mA t.attrs.length mc)) ⟨Zm, 4, none⟩ (.string t.text)) ⟨Zm, 5, none⟩ (.slice mK t.kids.length md)) = q := ⟨_, rfl⟩
        have F8 : Fr wza wz (isB Zm) := by rw [← hwn]; exact Fr.six _ _ _ _ _ _ _ _
        have X8 : Ext wy wz := Fr.ext XA F8 (fun q hq => by rw [show q = Zm from hq, hZ]; exact Nat.le_refl _)
        have HBZm := Lib.hid (show NBox wz Zm 32 #[.int .u64 t.id, .bool t.leaf, .string t.label, .slice mA t.attrs.length mc, .string t.text, .slice mK t.kids.length md] from by rw [← hwn]; exact bZ.six _ _ _ _ _ _)
        have HZLZm := Lib.hid (show wy.heap.size ≤ Zm from by rw [hZ]; exact Nat.le_refl _)
        have HE' := Lib.hid (HE.out.trans X8)
        have HO' := Lib.hid (owns_ext X8 HO.out)
        have HV' := Lib.hid (HV.out.ext X8)
        have y0 := bZ.cell 0
        have z0 := bZ.frozen 0
        have y1 := bZ.cell 1
        have z1 := bZ.frozen 1
        have y2 := bZ.cell 2
        have z2 := bZ.frozen 2
        have y3 := bZ.cell 3
        have z3 := bZ.frozen 3
        have y4 := bZ.cell 4
        have z4 := bZ.frozen 4
        have y5 := bZ.cell 5
        have z5 := bZ.frozen 5
        have HWA := Lib.hid hwa
        have HZZ := Lib.hid hZ
        have HWN := Lib.hid hwn
        clear hwa hZ hwn XA bZ F8 X8
        clear HE
        have HE := HE'
        clear HE'
        clear HO
        have HO := HO'
        clear HO'
        clear HV
        have HV := HV'
        clear HV'
        go_upto_region 13 with (rw [HWA.out, HZZ.out]; clear HWA HZZ)
        rw [HWN.out]
        clear HWN y0 y1 y2 y3 y4 y5 z0 z1 z2 z3 z4 z5
        have HZM := Lib.hid (Nat.le_trans HLL.out HZLZm.out)
        have hrd := RdS.front (bs := x) (A := xA2) (c := xc2) (n := N - 1) (by rw [HNX.out]; exact RdS.of_owns HO.out) (by rw [HNX.out]; omega)
        have hc := getN_off HIDT2.out HLE.out (off_less HNX.out HPOS.out) _ wz hrd
        clear hrd
        go_wp2_with fail
        refine hc.mono ?_
        clear hc p5 p6
        rintro e wn ⟨hX, rfl⟩
        have HO' := Lib.hid (owns_ext hX HO.out)
        have HE' := Lib.hid (HE.out.trans hX)
        have HV' := Lib.hid (HV.out.ext hX)
        have HBZm' := Lib.hid (HBZm.out.ext hX)
        clear hX
        clear HO
        have HO := HO'
        clear HO'
        clear HE
        have HE := HE'
        clear HE'
        clear HV
        have HV := HV'
        clear HV'
        clear HBZm
        have HBZm := HBZm'
        clear HBZm'
        obtain ⟨woa, hwa⟩ : ∃ q, wn.alloc (.cells #[.int .u64 0, .bool false, .string ⟨#[]⟩, .slice none 0 0, .string ⟨#[]⟩, .slice none 0 0] 32) = q := ⟨_, rfl⟩
        obtain ⟨Zn, hZ⟩ : ∃ q, wn.heap.size = q := ⟨_, rfl⟩
        have XA : Ext wn woa := by rw [← hwa]; exact (Ext.refl _).alloc _
        have bZ : NBox woa Zn 32 #[.int .u64 0, .bool false, .string ⟨#[]⟩, .slice none 0 0, .string ⟨#[]⟩, .slice none 0 0] := by rw [← hwa, ← hZ]; exact NBox.new _ _ _
        obtain ⟨wo, hwn⟩ : ∃ q, (World.setCell (World.setCell (World.setCell (World.setCell (World.setCell (World.setCell woa ⟨Zn, 0, none⟩ (.int .u64 0)) ⟨Zn, 1, none⟩ (.bool false)) ⟨Zn, 2, none⟩ (.string ⟨#[]⟩)) ⟨Zn, 3, none⟩ (.slice none 0 0)) ⟨Zn, 4, none⟩ (.string ⟨#[]⟩)) ⟨Zn, 5, none⟩ (.slice none 0 0)) = q := ⟨_, rfl⟩
        have F8 : Fr woa wo (isB Zn) := by rw [← hwn]; exact Fr.six _ _ _ _ _ _ _ _
        have X8 : Ext wn wo := Fr.ext XA F8 (fun q hq => by rw [show q = Zn from hq, hZ]; exact Nat.le_refl _)
        have HBZn := Lib.hid (show NBox wo Zn 32 #[.int .u64 0, .bool false, .string ⟨#[]⟩, .slice none 0 0, .string ⟨#[]⟩, .slice none 0 0] from by rw [← hwn]; exact bZ.six _ _ _ _ _ _)
        have HZLZn := Lib.hid (show wn.heap.size ≤ Zn from by rw [hZ]; exact Nat.le_refl _)
        have HE' := Lib.hid (HE.out.trans X8)
        have HBZm' := Lib.hid (HBZm.out.ext X8)
        have HO' := Lib.hid (owns_ext X8 HO.out)
        have HV' := Lib.hid (HV.out.ext X8)
        have y0 := bZ.cell 0
        have z0 := bZ.frozen 0
        have y1 := bZ.cell 1
        have z1 := bZ.frozen 1
        have y2 := bZ.cell 2
        have z2 := bZ.frozen 2
        have y3 := bZ.cell 3
        have z3 := bZ.frozen 3
        have y4 := bZ.cell 4
        have z4 := bZ.frozen 4
        have y5 := bZ.cell 5
        have z5 := bZ.frozen 5
        have HWA := Lib.hid hwa
        have HZZ := Lib.hid hZ
        have HWN := Lib.hid hwn
        clear hwa hZ hwn XA bZ F8 X8
        clear HE
        have HE := HE'
        clear HE'
        clear HBZm
        have HBZm := HBZm'
        clear HBZm'
        clear HO
        have HO := HO'
        clear HO'
        clear HV
        have HV := HV'
        clear HV'
        go_upto_region 14 with (rw [HWA.out, HZZ.out]; clear HWA HZZ)
        rw [HWN.out]
        clear HWN y0 y1 y2 y3 y4 y5 z0 z1 z2 z3 z4 z5
        obtain ⟨wp, hwp⟩ : ∃ q, wo.alloc (.cells #[.int .u8 0] 5) = q := ⟨_, rfl⟩
        obtain ⟨S, hS⟩ : ∃ q, wo.heap.size = q := ⟨_, rfl⟩
        have XP : Ext wo wp := by rw [← hwp]; exact (Ext.refl _).alloc _
        have HRD : Hid (RdS wp 1 1 (u8s [(0 : UInt8)]) (.slice (some ⟨S, 0, none⟩) 1 1)) := Lib.hid (by rw [← hwp, ← hS]; exact rd_byte _ 0)
        have HO' := Lib.hid (owns_ext XP HO.out)
        have HE' := Lib.hid (HE.out.trans XP)
        have HV' := Lib.hid (HV.out.ext XP)
        have HBZm' := Lib.hid (HBZm.out.ext XP)
        have HWP := Lib.hid hwp
        have HSS := Lib.hid hS
        clear hwp hS XP
        clear HO
        have HO := HO'
        clear HO'
        clear HE
        have HE := HE'
        clear HE'
        clear HV
        have HV := HV'
        clear HV'
        clear HBZm
        have HBZm := HBZm'
        clear HBZm'
        have HSP := Lib.hid HE.out.size
        go_wp2_with (first | (rw [HWP.out, HSS.out]; clear HWP HSS) | (at_builtin; refine wpList_append_rd rfl rfl T25 (v := _) (by rfl) HO.out (by rfl) HRD.out (u8s_one _) (by first | omega | (simp only [List.length_cons, List.length_nil]; omega)) (by first | (simp only [maxLen]; omega) | (simp only [maxLen, List.length_cons, List.length_nil]; omega)) HSP.out ?_))
        intro v8 wq O1 hg hat
        have F5 := Fr.grown hg
        have HE' := Lib.hid (Fr.ext HE.out F5 (fun q hq => (HLIM.out q hq).1))
        have HV' := Lib.hid (HV.out.to (S' := old LIM) F5 (fun q _ hh => hh.elim (fun h => (HLIM.out q h).2) id))
        have HBZm' := Lib.hid (HBZm.out.fr F5 (fun hh => by have := HLIM.out Zm hh; have := HZM.out; omega))
        have hO8 : World.ownsRow wq wc.heap.size 5 1 v8 (x ++ [(0 : UInt8)]).length (u8s (x ++ [(0 : UInt8)])) := by
          rw [List.length_append, HNX.out, show u8s (x ++ [(0 : UInt8)]) = u8s x ++ u8s [(0 : UInt8)] from List.map_append]
          exact O1
        have hrd := RdS.of_owns hO8
        obtain ⟨qA, qC, rfl, -⟩ := RdS.of_owns O1
        have hc := getN_off HIDT2.out HLE.out (off_more x 0) _ wq hrd
        clear F5 O1 hg hat HRD hrd hO8 HO HSP
        clear HE
        have HE := HE'
        clear HE'
        clear HV
        have HV := HV'
        clear HV'
        clear HBZm
        have HBZm := HBZm'
        clear HBZm'
        go_wp2_with fail
        refine hc.mono ?_
        clear hc
        rintro e wr ⟨hX, rfl⟩
        have HE' := Lib.hid (HE.out.trans hX)
        have HV' := Lib.hid (HV.out.ext hX)
        have HBZm' := Lib.hid (HBZm.out.ext hX)
        clear hX
        clear HE
        have HE := HE'
        clear HE'
        clear HV
        have HV := HV'
        clear HV'
        clear HBZm
        have HBZm := HBZm'
        clear HBZm'
        obtain ⟨wsa, hwa⟩ : ∃ q, wr.alloc (.cells #[.int .u64 0, .bool false, .string ⟨#[]⟩, .slice none 0 0, .string ⟨#[]⟩, .slice none 0 0] 32) = q := ⟨_, rfl⟩
        obtain ⟨Zo, hZ⟩ : ∃ q, wr.heap.size = q := ⟨_, rfl⟩
        have XA : Ext wr wsa := by rw [← hwa]; exact (Ext.refl _).alloc _
        have bZ : NBox wsa Zo 32 #[.int .u64 0, .bool false, .string ⟨#[]⟩, .slice none 0 0, .string ⟨#[]⟩, .slice none 0 0] := by rw [← hwa, ← hZ]; exact NBox.new _ _ _
        obtain ⟨ws, hwn⟩ : ∃ q, (World.setCell (World.setCell (World.setCell (World.setCell (World.setCell (World.setCell wsa ⟨Zo, 0, none⟩ (.int .u64 0)) ⟨Zo, 1, none⟩ (.bool false)) ⟨Zo, 2, none⟩ (.string ⟨#[]⟩)) ⟨Zo, 3, none⟩ (.slice none 0 0)) ⟨Zo, 4, none⟩ (.string ⟨#[]⟩)) ⟨Zo, 5, none⟩ (.slice none 0 0)) = q := ⟨_, rfl⟩
        have F8 : Fr wsa ws (isB Zo) := by rw [← hwn]; exact Fr.six _ _ _ _ _ _ _ _
        have X8 : Ext wr ws := Fr.ext XA F8 (fun q hq => by rw [show q = Zo from hq, hZ]; exact Nat.le_refl _)
        have HBZo := Lib.hid (show NBox ws Zo 32 #[.int .u64 0, .bool false, .string ⟨#[]⟩, .slice none 0 0, .string ⟨#[]⟩, .slice none 0 0] from by rw [← hwn]; exact bZ.six _ _ _ _ _ _)
        have HZLZo := Lib.hid (show wr.heap.size ≤ Zo from by rw [hZ]; exact Nat.le_refl _)
        have HE' := Lib.hid (HE.out.trans X8)
        have HBZm' := Lib.hid (HBZm.out.ext X8)
        have HV' := Lib.hid (HV.out.ext X8)
        have y0 := bZ.cell 0
        have z0 := bZ.frozen 0
        have y1 := bZ.cell 1
        have z1 := bZ.frozen 1
        have y2 := bZ.cell 2
        have z2 := bZ.frozen 2
        have y3 := bZ.cell 3
        have z3 := bZ.frozen 3
        have y4 := bZ.cell 4
        have z4 := bZ.frozen 4
        have y5 := bZ.cell 5
        have z5 := bZ.frozen 5
        have HWA := Lib.hid hwa
        have HZZ := Lib.hid hZ
        have HWN := Lib.hid hwn
        clear hwa hZ hwn XA bZ F8 X8
        clear HE
        have HE := HE'
        clear HE'
        clear HBZm
        have HBZm := HBZm'
        clear HBZm'
        clear HV
        have HV := HV'
        clear HV'
        go_upto_region 15 with (rw [HWA.out, HZZ.out]; clear HWA HZZ)
        rw [HWN.out]
        clear HWN y0 y1 y2 y3 y4 y5 z0 z1 z2 z3 z4 z5
        have hq := sameNode_any t t _ _ ws (Nd.rd_ext (HE3.out.trans (HE1x.out.trans HE.out)) HT.out) HV.out.now
        have t0 := (HBT3.out.ext (HE1x.out.trans HE.out)).cell 0
        have m0 := HBZm.out.cell 0
        have t1 := (HBT3.out.ext (HE1x.out.trans HE.out)).cell 1
        have m1 := HBZm.out.cell 1
        have t2 := (HBT3.out.ext (HE1x.out.trans HE.out)).cell 2
        have m2 := HBZm.out.cell 2
        have t3 := (HBT3.out.ext (HE1x.out.trans HE.out)).cell 3
        have m3 := HBZm.out.cell 3
        have t4 := (HBT3.out.ext (HE1x.out.trans HE.out)).cell 4
        have m4 := HBZm.out.cell 4
        have t5 := (HBT3.out.ext (HE1x.out.trans HE.out)).cell 5
        have m5 := HBZm.out.cell 5
        go_wp2_with fail
        refine hq.mono ?_
        clear hq
        rintro e wt ⟨r, rfl, ⟨tt, rfl, htt⟩, hE⟩
        obtain rfl : tt = true := by first | exact htt.2 rfl | exact htt.2 trivial
        have HE' := Lib.hid (HE.out.trans hE)
        clear hE htt
        clear HE
        have HE := HE'
        clear HE'
        go_wp2_with fail
        go_meet
        exact HE.out
    case rest =>
      have HE := Lib.hid (HE3.out.trans (HE1x.out.trans hcut))
      clear hcut
      have hc := getList_any b _ wc (RdS.ext HE.out HB.out)
      rcases hg1 : gotO (listP b) listE b with _ | m
      · rw [hg1] at hc
        clear hg1
        go_wp2_with fail
        refine hc.mono ?_
        clear hc
        rintro e wu ⟨hX, rfl⟩
        have HE' := Lib.hid (HE.out.trans hX)
        clear hX
        clear HE
        have HE := HE'
        clear HE'
        have hc := getNode_any b _ wu (RdS.ext HE.out HB.out)
        rcases hg2 : gotO (nodeP 65 b) treeE b with _ | k
        · rw [hg2] at hc
          clear hg2
          go_wp2_with fail
          refine hc.mono ?_
          clear hc
          rintro e wy ⟨hX, rfl⟩
          have HE' := Lib.hid (HE.out.trans hX)
          clear hX
          clear HE
          have HE := HE'
          clear HE'
          obtain ⟨wva, hwa⟩ : ∃ q, wy.alloc (.cells #[.int .u64 0, .bool false, .string ⟨#[]⟩, .slice none 0 0, .string ⟨#[]⟩, .slice none 0 0] 32) = q := ⟨_, rfl⟩
          obtain ⟨Zv, hZ⟩ : ∃ q, wy.heap.size = q := ⟨_, rfl⟩
          have XA : Ext wy wva := by rw [← hwa]; exact (Ext.refl _).alloc _
          have bZ : NBox wva Zv 32 #[.int .u64 0, .bool false, .string ⟨#[]⟩, .slice none 0 0, .string ⟨#[]⟩, .slice none 0 0] := by rw [← hwa, ← hZ]; exact NBox.new _ _ _
          obtain ⟨wv, hwn⟩ : ∃ q, (World.setCell (World.setCell (World.setCell (World.setCell (World.setCell (World.setCell wva ⟨Zv, 0, none⟩ (.int .u64 0)) ⟨Zv, 1, none⟩ (.bool false)) ⟨Zv, 2, none⟩ (.string ⟨#[]⟩)) ⟨Zv, 3, none⟩ (.slice none 0 0)) ⟨Zv, 4, none⟩ (.string ⟨#[]⟩)) ⟨Zv, 5, none⟩ (.slice none 0 0)) = q := ⟨_, rfl⟩
          have F8 : Fr wva wv (isB Zv) := by rw [← hwn]; exact Fr.six _ _ _ _ _ _ _ _
          have X8 : Ext wy wv := Fr.ext XA F8 (fun q hq => by rw [show q = Zv from hq, hZ]; exact Nat.le_refl _)
          have HBZv := Lib.hid (show NBox wv Zv 32 #[.int .u64 0, .bool false, .string ⟨#[]⟩, .slice none 0 0, .string ⟨#[]⟩, .slice none 0 0] from by rw [← hwn]; exact bZ.six _ _ _ _ _ _)
          have HZLZv := Lib.hid (show wy.heap.size ≤ Zv from by rw [hZ]; exact Nat.le_refl _)
          have HE' := Lib.hid (HE.out.trans X8)
          have y0 := bZ.cell 0
          have z0 := bZ.frozen 0
          have y1 := bZ.cell 1
          have z1 := bZ.frozen 1
          have y2 := bZ.cell 2
          have z2 := bZ.frozen 2
          have y3 := bZ.cell 3
          have z3 := bZ.frozen 3
          have y4 := bZ.cell 4
          have z4 := bZ.frozen 4
          have y5 := bZ.cell 5
          have z5 := bZ.frozen 5
          have HWA := Lib.hid hwa
          have HZZ := Lib.hid hZ
          have HWN := Lib.hid hwn
          clear hwa hZ hwn XA bZ F8 X8
          clear HE
          have HE := HE'
          clear HE'
          go_upto_region 19 with (rw [HWA.out, HZZ.out]; clear HWA HZZ)
          rw [HWN.out]
          clear HWN y0 y1 y2 y3 y4 y5 z0 z1 z2 z3 z4 z5
          have HE2 := HE
          obtain ⟨c0, hc0⟩ : ∃ c0, wv.drew = c0 := ⟨_, rfl⟩
          have XC : Ext wv c0 := by rw [← hc0]; exact (Ext.refl _).drew
          have HXC := Lib.hid (HE2.out.trans XC)
          have HB6 := Lib.hid (RdS.ext HXC.out HB.out)
          have z0 := (HBZv.out.ext XC).cell 0
          have z1 := (HBZv.out.ext XC).cell 1
          have z2 := (HBZv.out.ext XC).cell 2
          have z3 := (HBZv.out.ext XC).cell 3
          have z4 := (HBZv.out.ext XC).cell 4
          have z5 := (HBZv.out.ext XC).cell 5
          obtain ⟨sb, hsb⟩ : ∃ s, Sb b = s := ⟨_, rfl⟩
          have HSB := Lib.hid hsb
          have e1 := str_same sb
          clear hsb XC HBZv
          refine wp_region_held_drew (S := fun W => Ext c0 W) (by kernel_rfl) (by rw [hc0]; exact Ext.refl _) (fun hHeld => ?_)
          rw [hc0] at hHeld ⊢
          clear hc0
          refine wpAnyH_take (i := 0) (oi := ⟨_, _, _, _, _, _⟩) (v := ?_) rfl (by kernel_rfl) (by kernel_rfl) (by kernel_rfl) (fun _ _ _ h => h) (Or.inl ⟨by rfl, ?_⟩) hHeld ?_
          rotate_left
          · intro w hSw
            have hSx : Ext c0 w := hSw
            clear hSw
            go_simp
            all_goals (first | with_reducible rfl | rw [if_pos (by omega)])
          try simp only [Act.put, List.setIfInBounds_toArray, List.set_cons_zero, List.set_cons_succ]
          refine wpAnyH_take (i := 1) (oi := ⟨_, _, _, _, _, _⟩) (v := ?_) rfl (by kernel_rfl) (by kernel_rfl) (by kernel_rfl) (fun _ _ _ h => h) (Or.inl ⟨by rfl, ?_⟩) hHeld ?_
          rotate_left
          · intro w hSw
            have hSx : Ext c0 w := hSw
            clear hSw
            go_simp
            all_goals (first | with_reducible rfl | rw [if_pos (by omega)])
          try simp only [Act.put, List.setIfInBounds_toArray, List.set_cons_zero, List.set_cons_succ]
          refine wpAnyH_take (i := 2) (oi := ⟨_, _, _, _, _, _⟩) (v := ?_) rfl (by kernel_rfl) (by kernel_rfl) (by kernel_rfl) (fun _ _ _ h => h) (Or.inl ⟨by rfl, ?_⟩) hHeld ?_
          rotate_left
          · intro w hSw
            have hSx : Ext c0 w := hSw
            clear hSw
            go_simp
            all_goals (first | with_reducible rfl | rw [if_pos (by omega)])
          try simp only [Act.put, List.setIfInBounds_toArray, List.set_cons_zero, List.set_cons_succ]
          refine wpAnyH_take (i := 3) (oi := ⟨_, _, _, _, _, _⟩) (v := undef) rfl (by kernel_rfl) (by kernel_rfl) (by kernel_rfl) (fun _ _ _ h => h) (Or.inr ⟨by rfl, by rfl⟩) hHeld ?_
          try simp only [Act.put, List.setIfInBounds_toArray, List.set_cons_zero, List.set_cons_succ]
          refine wpAnyH_take (i := 4) (oi := ⟨_, _, _, _, _, _⟩) (v := undef) rfl (by kernel_rfl) (by kernel_rfl) (by kernel_rfl) (fun _ _ _ h => h) (Or.inr ⟨by rfl, by rfl⟩) hHeld ?_
          try simp only [Act.put, List.setIfInBounds_toArray, List.set_cons_zero, List.set_cons_succ]
          refine wpAnyH_take (i := 5) (oi := ⟨_, _, _, _, _, _⟩) (v := undef) rfl (by kernel_rfl) (by kernel_rfl) (by kernel_rfl) (fun _ _ _ h => h) (Or.inr ⟨by rfl, by rfl⟩) hHeld ?_
          try simp only [Act.put, List.setIfInBounds_toArray, List.set_cons_zero, List.set_cons_succ]
          refine wpAnyH_take (i := 6) (oi := ⟨_, _, _, _, _, _⟩) (v := undef) rfl (by kernel_rfl) (by kernel_rfl) (by kernel_rfl) (fun _ _ _ h => h) (Or.inr ⟨by rfl, by rfl⟩) hHeld ?_
          try simp only [Act.put, List.setIfInBounds_toArray, List.set_cons_zero, List.set_cons_succ]
          refine wpAnyH_take (i := 7) (oi := ⟨_, _, _, _, _, _⟩) (v := undef) rfl (by kernel_rfl) (by kernel_rfl) (by kernel_rfl) (fun _ _ _ h => h) (Or.inr ⟨by rfl, by rfl⟩) hHeld ?_
          try simp only [Act.put, List.setIfInBounds_toArray, List.set_cons_zero, List.set_cons_succ]
          refine wpAnyH_take (i := 8) (oi := ⟨_, _, _, _, _, _⟩) (v := undef) rfl (by kernel_rfl) (by kernel_rfl) (by kernel_rfl) (fun _ _ _ h => h) (Or.inr ⟨by rfl, by rfl⟩) hHeld ?_
          try simp only [Act.put, List.setIfInBounds_toArray, List.set_cons_zero, List.set_cons_succ]
          refine wpAnyH_take (i := 9) (oi := ⟨_, _, _, _, _, _⟩) (v := ?_) rfl (by kernel_rfl) (by kernel_rfl) (by kernel_rfl) (fun _ _ _ h => h) (Or.inl ⟨by rfl, ?_⟩) hHeld ?_
          rotate_left
          · intro w hSw
            have hSx : Ext c0 w := hSw
            clear hSw
            go_simp
            all_goals (first | with_reducible rfl | rw [if_pos (by omega)])
          try simp only [Act.put, List.setIfInBounds_toArray, List.set_cons_zero, List.set_cons_succ]
          refine wpAnyH_take (i := 10) (oi := ⟨_, _, _, _, _, _⟩) (v := ?_) rfl (by kernel_rfl) (by kernel_rfl) (by kernel_rfl) (fun _ _ _ h => h) (Or.inl ⟨by rfl, ?_⟩) hHeld ?_
          rotate_left
          · intro w hSw
            have hSx : Ext c0 w := hSw
            clear hSw
            go_simp
            all_goals (first | with_reducible rfl | rw [if_pos (by omega)])
          try simp only [Act.put, List.setIfInBounds_toArray, List.set_cons_zero, List.set_cons_succ]
          refine wpAnyH_take (i := 11) (oi := ⟨_, _, _, _, _, _⟩) (v := ?_) rfl (by kernel_rfl) (by kernel_rfl) (by kernel_rfl) (fun _ _ _ h => h) (Or.inl ⟨by rfl, ?_⟩) hHeld ?_
          rotate_left
          · intro w hSw
            have hSx : Ext c0 w := hSw
            clear hSw
            go_simp
            all_goals (first | with_reducible rfl | rw [if_pos (by omega)])
          try simp only [Act.put, List.setIfInBounds_toArray, List.set_cons_zero, List.set_cons_succ]
          refine wpAnyH_take (i := 12) (oi := ⟨_, _, _, _, _, _⟩) (v := ?_) rfl (by kernel_rfl) (by kernel_rfl) (by kernel_rfl) (fun _ _ _ h => h) (Or.inl ⟨by rfl, ?_⟩) hHeld ?_
          rotate_left
          · intro w hSw
            have hSx : Ext c0 w := hSw
            clear hSw
            go_simp
            all_goals (first | with_reducible rfl | rw [if_pos (by omega)])
          try simp only [Act.put, List.setIfInBounds_toArray, List.set_cons_zero, List.set_cons_succ]
          refine wpAnyH_take (i := 13) (oi := ⟨_, _, _, _, _, _⟩) (v := ?_) rfl (by kernel_rfl) (by kernel_rfl) (by kernel_rfl) (fun _ _ _ h => h) (Or.inl ⟨by rfl, ?_⟩) hHeld ?_
          rotate_left
          · intro w hSw
            have hSx : Ext c0 w := hSw
            clear hSw
            go_simp
            all_goals (first | with_reducible rfl | rw [if_pos (by omega)])
          try simp only [Act.put, List.setIfInBounds_toArray, List.set_cons_zero, List.set_cons_succ]
          refine wpAnyH_take (i := 14) (oi := ⟨_, _, _, _, _, _⟩) (v := undef) rfl (by kernel_rfl) (by kernel_rfl) (by kernel_rfl) (fun _ _ _ h => h) (Or.inr ⟨by rfl, by rfl⟩) hHeld ?_
          try simp only [Act.put, List.setIfInBounds_toArray, List.set_cons_zero, List.set_cons_succ]
          refine wpAnyH_take (i := 15) (oi := ⟨_, _, _, _, _, _⟩) (v := undef) rfl (by kernel_rfl) (by kernel_rfl) (by kernel_rfl) (fun _ _ _ h => h) (Or.inr ⟨by rfl, by rfl⟩) hHeld ?_
          try simp only [Act.put, List.setIfInBounds_toArray, List.set_cons_zero, List.set_cons_succ]
          refine wpAnyH_take (i := 16) (oi := ⟨_, _, _, _, _, _⟩) (v := undef) rfl (by kernel_rfl) (by kernel_rfl) (by kernel_rfl) (fun _ _ _ h => h) (Or.inr ⟨by rfl, by rfl⟩) hHeld ?_
          try simp only [Act.put, List.setIfInBounds_toArray, List.set_cons_zero, List.set_cons_succ]
          refine wpAnyH_take (i := 17) (oi := ⟨_, _, _, _, _, _⟩) (v := undef) rfl (by kernel_rfl) (by kernel_rfl) (by kernel_rfl) (fun _ _ _ h => h) (Or.inr ⟨by rfl, by rfl⟩) hHeld ?_
          try simp only [Act.put, List.setIfInBounds_toArray, List.set_cons_zero, List.set_cons_succ]
          refine wpAnyH_take (i := 18) (oi := ⟨_, _, _, _, _, _⟩) (v := undef) rfl (by kernel_rfl) (by kernel_rfl) (by kernel_rfl) (fun _ _ _ h => h) (Or.inr ⟨by rfl, by rfl⟩) hHeld ?_
          try simp only [Act.put, List.setIfInBounds_toArray, List.set_cons_zero, List.set_cons_succ]
          refine wpAnyH_take (i := 19) (oi := ⟨_, _, _, _, _, _⟩) (v := undef) rfl (by kernel_rfl) (by kernel_rfl) (by kernel_rfl) (fun _ _ _ h => h) (Or.inr ⟨by rfl, by rfl⟩) hHeld ?_
          try simp only [Act.put, List.setIfInBounds_toArray, List.set_cons_zero, List.set_cons_succ]
          refine wpAnyH_take (i := 20) (oi := ⟨_, _, _, _, _, _⟩) (v := ?_) rfl (by kernel_rfl) (by kernel_rfl) (by kernel_rfl) (fun _ _ _ h => h) (Or.inl ⟨by rfl, ?_⟩) hHeld ?_
          rotate_left
          · intro w hSw
            have hSx : Ext c0 w := hSw
            clear hSw
            go_simp
            all_goals (first | with_reducible rfl | rw [if_pos (by omega)])
          try simp only [Act.put, List.setIfInBounds_toArray, List.set_cons_zero, List.set_cons_succ]
          refine wpAnyH_take (i := 21) (oi := ⟨_, _, _, _, _, _⟩) (v := ?_) rfl (by kernel_rfl) (by kernel_rfl) (by kernel_rfl) (fun _ _ _ h => h) (Or.inl ⟨by rfl, ?_⟩) hHeld ?_
          rotate_left
          · intro w hSw
            have hSx : Ext c0 w := hSw
            clear hSw
            go_simp
            all_goals (first | with_reducible rfl | rw [if_pos (by omega)])
          try simp only [Act.put, List.setIfInBounds_toArray, List.set_cons_zero, List.set_cons_succ]
          refine wpAnyH_take (i := 22) (oi := ⟨_, _, _, _, _, _⟩) (v := ?_) rfl (by kernel_rfl) (by kernel_rfl) (by kernel_rfl) (fun _ _ _ h => h) (Or.inl ⟨by rfl, ?_⟩) hHeld ?_
          rotate_left
          · intro w hSw
            have hSx : Ext c0 w := hSw
            clear hSw
            go_simp
            all_goals (first | with_reducible rfl | rw [if_pos (by omega)])
          try simp only [Act.put, List.setIfInBounds_toArray, List.set_cons_zero, List.set_cons_succ]
          refine wpAnyH_ready (rs := [23]) (by kernel_rfl) (by simp) ?_
          refine AllReadyH.cons (o := ⟨_, _, _, _, _, _⟩) rfl (fun K' hK => ?_) AllReadyH.nil
          have hq := works_any c0
          go_simp
          go_at_call 10
          refine hq.mono ?_
          clear hq
          rintro e u3 ⟨rfl, hE⟩
          have HX3 := Lib.hid (Ext.trans (Ext.refl c0) hE)
          clear hE
          refine hK.out _ _ HX3.out (fun hHeld => ?_)
          clear hK K'
          try simp only [Act.put, List.setIfInBounds_toArray, List.set_cons_zero, List.set_cons_succ]
          refine wpAnyH_take (i := 24) (oi := ⟨_, _, _, _, _, _⟩) (v := ?_) rfl (by kernel_rfl) (by kernel_rfl) (by kernel_rfl) (fun _ _ _ h => h) (Or.inl ⟨by rfl, ?_⟩) hHeld ?_
          rotate_left
          · intro w hSw
            have hSx : Ext c0 w := hSw
            clear hSw
            go_simp
            all_goals (first | with_reducible rfl | rw [if_pos (by omega)])
          try simp only [Act.put, List.setIfInBounds_toArray, List.set_cons_zero, List.set_cons_succ]
          refine wpAnyH_take (i := 25) (oi := ⟨_, _, _, _, _, _⟩) (v := ?_) rfl (by kernel_rfl) (by kernel_rfl) (by kernel_rfl) (fun _ _ _ h => h) (Or.inl ⟨by rfl, ?_⟩) hHeld ?_
          rotate_left
          · intro w hSw
            have hSx : Ext c0 w := hSw
            clear hSw
            go_simp
            all_goals (first | with_reducible rfl | rw [if_pos (by omega)])
          try simp only [Act.put, List.setIfInBounds_toArray, List.set_cons_zero, List.set_cons_succ]
          refine wpAnyH_done (by kernel_rfl) ?_ _
          clear hHeld
          go_wp2_with fail
          go_ret
          exact ⟨_, rfl, rfl, HXC.out.trans HX3.out⟩
        · rw [hg2] at hc
          have HPN := Lib.hid (tree_gotE hg2)
          clear hg2
          go_wp2_with fail
          refine hc.mono ?_
          clear hc
          rintro e wy ⟨hX, v, rfl, hv⟩
          obtain ⟨kA, kc, kK, kd, rfl⟩ := hv.open
          have HV := Lib.hid (show Late (old wu.heap.size) (fun W => k.rd W (.agg #[.int .u64 k.id, .bool k.leaf, .string k.label, .slice kA k.attrs.length kc, .string k.text, .slice kK k.kids.length kd])) wy from hv)
          have HE' := Lib.hid (HE.out.trans hX)
          clear hX
          clear hv
          clear HE
          have HE := HE'
          clear HE'
          obtain ⟨wva, hwa⟩ : ∃ q, wy.alloc (.cells #[.int .u64 0, .bool false, .string ⟨#[]⟩, .slice none 0 0, .string ⟨#[]⟩, .slice none 0 0] 32) = q := ⟨_, rfl⟩
          obtain ⟨Zv, hZ⟩ : ∃ q, wy.heap.size = q := ⟨_, rfl⟩
          have XA : Ext wy wva := by rw [← hwa]; exact (Ext.refl _).alloc _
          have bZ : NBox wva Zv 32 #[.int .u64 0, .bool false, .string ⟨#[]⟩, .slice none 0 0, .string ⟨#[]⟩, .slice none 0 0] := by rw [← hwa, ← hZ]; exact NBox.new _ _ _
          obtain ⟨wv, hwn⟩ : ∃ q, (World.setCell (World.setCell (World.setCell (World.setCell (World.setCell (World.setCell wva ⟨Zv, 0, none⟩ (.int .u64 k.id)) ⟨Zv, 1, none⟩ (.bool k.leaf)) ⟨Zv, 2, none⟩ (.string k.label)) ⟨Zv, 3, none⟩ (.slice kA k.attrs.length kc)) ⟨Zv, 4, none⟩ (.string k.text)) ⟨Zv, 5, none⟩ (.slice kK k.kids.length kd)) = q := ⟨_, rfl⟩
          have F8 : Fr wva wv (isB Zv) := by rw [← hwn]; exact Fr.six _ _ _ _ _ _ _ _
          have X8 : Ext wy wv := Fr.ext XA F8 (fun q hq => by rw [show q = Zv from hq, hZ]; exact Nat.le_refl _)
          have HBZv := Lib.hid (show NBox wv Zv 32 #[.int .u64 k.id, .bool k.leaf, .string k.label, .slice kA k.attrs.length kc, .string k.text, .slice kK k.kids.length kd] from by rw [← hwn]; exact bZ.six _ _ _ _ _ _)
          have HZLZv := Lib.hid (show wy.heap.size ≤ Zv from by rw [hZ]; exact Nat.le_refl _)
          have HE' := Lib.hid (HE.out.trans X8)
          have HV' := Lib.hid (HV.out.ext X8)
          have y0 := bZ.cell 0
          have z0 := bZ.frozen 0
          have y1 := bZ.cell 1
          have z1 := bZ.frozen 1
          have y2 := bZ.cell 2
          have z2 := bZ.frozen 2
          have y3 := bZ.cell 3
          have z3 := bZ.frozen 3
          have y4 := bZ.cell 4
          have z4 := bZ.frozen 4
          have y5 := bZ.cell 5
          have z5 := bZ.frozen 5
          have HWA := Lib.hid hwa
          have HZZ := Lib.hid hZ
          have HWN := Lib.hid hwn
          clear hwa hZ hwn XA bZ F8 X8
          clear HE
          have HE := HE'
          clear HE'
          clear HV
          have HV := HV'
          clear HV'
          go_upto_region 19 with (rw [HWA.out, HZZ.out]; clear HWA HZZ)
          rw [HWN.out]
          clear HWN y0 y1 y2 y3 y4 y5 z0 z1 z2 z3 z4 z5
          have HE2 := HE
          have HMN := Lib.hid HV.out.now
          obtain ⟨c0, hc0⟩ : ∃ c0, wv.drew = c0 := ⟨_, rfl⟩
          have XC : Ext wv c0 := by rw [← hc0]; exact (Ext.refl _).drew
          have HXC := Lib.hid (HE2.out.trans XC)
          have HB6 := Lib.hid (RdS.ext HXC.out HB.out)
          have z0 := (HBZv.out.ext XC).cell 0
          have z1 := (HBZv.out.ext XC).cell 1
          have z2 := (HBZv.out.ext XC).cell 2
          have z3 := (HBZv.out.ext XC).cell 3
          have z4 := (HBZv.out.ext XC).cell 4
          have z5 := (HBZv.out.ext XC).cell 5
          have HN2 := Lib.hid (Nd.rd_ext XC HMN.out)
          obtain ⟨sb, hsb⟩ : ∃ s, Sb b = s := ⟨_, rfl⟩
          have HSB := Lib.hid hsb
          have e1 := str_same sb
          clear hsb XC HBZv
          refine wp_region_held_drew (S := fun W => Ext c0 W) (by kernel_rfl) (by rw [hc0]; exact Ext.refl _) (fun hHeld => ?_)
          rw [hc0] at hHeld ⊢
          clear hc0
          refine wpAnyH_take (i := 0) (oi := ⟨_, _, _, _, _, _⟩) (v := ?_) rfl (by kernel_rfl) (by kernel_rfl) (by kernel_rfl) (fun _ _ _ h => h) (Or.inl ⟨by rfl, ?_⟩) hHeld ?_
          rotate_left
          · intro w hSw
            have hSx : Ext c0 w := hSw
            clear hSw
            go_simp
            all_goals (first | with_reducible rfl | rw [if_pos (by omega)])
          try simp only [Act.put, List.setIfInBounds_toArray, List.set_cons_zero, List.set_cons_succ]
          refine wpAnyH_take (i := 1) (oi := ⟨_, _, _, _, _, _⟩) (v := ?_) rfl (by kernel_rfl) (by kernel_rfl) (by kernel_rfl) (fun _ _ _ h => h) (Or.inl ⟨by rfl, ?_⟩) hHeld ?_
          rotate_left
          · intro w hSw
            have hSx : Ext c0 w := hSw
            clear hSw
            go_simp
            all_goals (first | with_reducible rfl | rw [if_pos (by omega)])
          try simp only [Act.put, List.setIfInBounds_toArray, List.set_cons_zero, List.set_cons_succ]
          refine wpAnyH_take (i := 2) (oi := ⟨_, _, _, _, _, _⟩) (v := ?_) rfl (by kernel_rfl) (by kernel_rfl) (by kernel_rfl) (fun _ _ _ h => h) (Or.inl ⟨by rfl, ?_⟩) hHeld ?_
          rotate_left
          · intro w hSw
            have hSx : Ext c0 w := hSw
            clear hSw
            go_simp
            all_goals (first | with_reducible rfl | rw [if_pos (by omega)])
          try simp only [Act.put, List.setIfInBounds_toArray, List.set_cons_zero, List.set_cons_succ]
          refine wpAnyH_take (i := 3) (oi := ⟨_, _, _, _, _, _⟩) (v := undef) rfl (by kernel_rfl) (by kernel_rfl) (by kernel_rfl) (fun _ _ _ h => h) (Or.inr ⟨by rfl, by rfl⟩) hHeld ?_
          try simp only [Act.put, List.setIfInBounds_toArray, List.set_cons_zero, List.set_cons_succ]
          refine wpAnyH_take (i := 4) (oi := ⟨_, _, _, _, _, _⟩) (v := undef) rfl (by kernel_rfl) (by kernel_rfl) (by kernel_rfl) (fun _ _ _ h => h) (Or.inr ⟨by rfl, by rfl⟩) hHeld ?_
          try simp only [Act.put, List.setIfInBounds_toArray, List.set_cons_zero, List.set_cons_succ]
          refine wpAnyH_take (i := 5) (oi := ⟨_, _, _, _, _, _⟩) (v := undef) rfl (by kernel_rfl) (by kernel_rfl) (by kernel_rfl) (fun _ _ _ h => h) (Or.inr ⟨by rfl, by rfl⟩) hHeld ?_
          try simp only [Act.put, List.setIfInBounds_toArray, List.set_cons_zero, List.set_cons_succ]
          refine wpAnyH_take (i := 6) (oi := ⟨_, _, _, _, _, _⟩) (v := undef) rfl (by kernel_rfl) (by kernel_rfl) (by kernel_rfl) (fun _ _ _ h => h) (Or.inr ⟨by rfl, by rfl⟩) hHeld ?_
          try simp only [Act.put, List.setIfInBounds_toArray, List.set_cons_zero, List.set_cons_succ]
          refine wpAnyH_take (i := 7) (oi := ⟨_, _, _, _, _, _⟩) (v := undef) rfl (by kernel_rfl) (by kernel_rfl) (by kernel_rfl) (fun _ _ _ h => h) (Or.inr ⟨by rfl, by rfl⟩) hHeld ?_
          try simp only [Act.put, List.setIfInBounds_toArray, List.set_cons_zero, List.set_cons_succ]
          refine wpAnyH_take (i := 8) (oi := ⟨_, _, _, _, _, _⟩) (v := undef) rfl (by kernel_rfl) (by kernel_rfl) (by kernel_rfl) (fun _ _ _ h => h) (Or.inr ⟨by rfl, by rfl⟩) hHeld ?_
          try simp only [Act.put, List.setIfInBounds_toArray, List.set_cons_zero, List.set_cons_succ]
          refine wpAnyH_take (i := 9) (oi := ⟨_, _, _, _, _, _⟩) (v := ?_) rfl (by kernel_rfl) (by kernel_rfl) (by kernel_rfl) (fun _ _ _ h => h) (Or.inl ⟨by rfl, ?_⟩) hHeld ?_
          rotate_left
          · intro w hSw
            have hSx : Ext c0 w := hSw
            clear hSw
            go_simp
            all_goals (first | with_reducible rfl | rw [if_pos (by omega)])
          try simp only [Act.put, List.setIfInBounds_toArray, List.set_cons_zero, List.set_cons_succ]
          refine wpAnyH_take (i := 10) (oi := ⟨_, _, _, _, _, _⟩) (v := ?_) rfl (by kernel_rfl) (by kernel_rfl) (by kernel_rfl) (fun _ _ _ h => h) (Or.inl ⟨by rfl, ?_⟩) hHeld ?_
          rotate_left
          · intro w hSw
            have hSx : Ext c0 w := hSw
            clear hSw
            go_simp
            all_goals (first | with_reducible rfl | rw [if_pos (by omega)])
          try simp only [Act.put, List.setIfInBounds_toArray, List.set_cons_zero, List.set_cons_succ]
          refine wpAnyH_take (i := 11) (oi := ⟨_, _, _, _, _, _⟩) (v := ?_) rfl (by kernel_rfl) (by kernel_rfl) (by kernel_rfl) (fun _ _ _ h => h) (Or.inl ⟨by rfl, ?_⟩) hHeld ?_
          rotate_left
          · intro w hSw
            have hSx : Ext c0 w := hSw
            clear hSw
            go_simp
            all_goals (first | with_reducible rfl | rw [if_pos (by omega)])
          try simp only [Act.put, List.setIfInBounds_toArray, List.set_cons_zero, List.set_cons_succ]
          refine wpAnyH_take (i := 12) (oi := ⟨_, _, _, _, _, _⟩) (v := ?_) rfl (by kernel_rfl) (by kernel_rfl) (by kernel_rfl) (fun _ _ _ h => h) (Or.inl ⟨by rfl, ?_⟩) hHeld ?_
          rotate_left
          · intro w hSw
            have hSx : Ext c0 w := hSw
            clear hSw
            go_simp
            all_goals (first | with_reducible rfl | rw [if_pos (by omega)])
          try simp only [Act.put, List.setIfInBounds_toArray, List.set_cons_zero, List.set_cons_succ]
          refine wpAnyH_take (i := 13) (oi := ⟨_, _, _, _, _, _⟩) (v := ?_) rfl (by kernel_rfl) (by kernel_rfl) (by kernel_rfl) (fun _ _ _ h => h) (Or.inl ⟨by rfl, ?_⟩) hHeld ?_
          rotate_left
          · intro w hSw
            have hSx : Ext c0 w := hSw
            clear hSw
            go_simp
            all_goals (first | with_reducible rfl | rw [if_pos (by omega)])
          try simp only [Act.put, List.setIfInBounds_toArray, List.set_cons_zero, List.set_cons_succ]
          refine wpAnyH_take (i := 14) (oi := ⟨_, _, _, _, _, _⟩) (v := ?_) rfl (by kernel_rfl) (by kernel_rfl) (by kernel_rfl) (fun _ _ _ h => h) (Or.inl ⟨by rfl, ?_⟩) hHeld ?_
          rotate_left
          · intro w hSw
            have hSx : Ext c0 w := hSw
            clear hSw
            have z0 := hSx.cell z0
            have z1 := hSx.cell z1
            have z2 := hSx.cell z2
            have z3 := hSx.cell z3
            have z4 := hSx.cell z4
            have z5 := hSx.cell z5
            go_simp
            all_goals (first | with_reducible rfl | rw [if_pos (by omega)])
          try simp only [Act.put, List.setIfInBounds_toArray, List.set_cons_zero, List.set_cons_succ]
          refine wpAnyH_take (i := 17) (oi := ⟨_, _, _, _, _, _⟩) (v := ?_) rfl (by kernel_rfl) (by kernel_rfl) (by kernel_rfl) (fun _ _ _ h => h) (Or.inl ⟨by rfl, ?_⟩) hHeld ?_
          rotate_left
          · intro w hSw
            have hSx : Ext c0 w := hSw
            clear hSw
            go_simp
            all_goals (first | with_reducible rfl | rw [if_pos (by omega)])
          try simp only [Act.put, List.setIfInBounds_toArray, List.set_cons_zero, List.set_cons_succ]
          refine wpAnyH_take (i := 18) (oi := ⟨_, _, _, _, _, _⟩) (v := ?_) rfl (by kernel_rfl) (by kernel_rfl) (by kernel_rfl) (fun _ _ _ h => h) (Or.inl ⟨by rfl, ?_⟩) hHeld ?_
          rotate_left
          · intro w hSw
            have hSx : Ext c0 w := hSw
            clear hSw
            have k18 := conv_rd (RdS.ext hSx HB6.out)
            rw [HSB.out] at k18
            go_simp
            all_goals (first | with_reducible rfl | rw [if_pos (by omega)])
          try simp only [Act.put, List.setIfInBounds_toArray, List.set_cons_zero, List.set_cons_succ]
          refine wpAnyH_ready (rs := [15]) (by kernel_rfl) (by simp) ?_
          refine AllReadyH.cons (o := ⟨_, _, _, _, _, _⟩) rfl (fun K' hK => ?_) AllReadyH.nil
          have hq := putNode_any k _ c0 (Nd.rd_ext (Ext.refl c0) HN2.out)
          rw [HPN.out] at hq
          go_simp
          go_at_call 16
          refine hq.mono ?_
          clear hq
          rintro e u2 ⟨hX, v1, rfl, hO⟩
          have k16 := conv_rd (bs := b) (RdS.of_owns hO)
          rw [HSB.out] at k16
          have HX2 := Lib.hid (Ext.trans (Ext.refl c0) hX)
          obtain ⟨pA2, pC2, rfl, -⟩ := RdS.of_owns hO
          clear hX hO
          refine hK.out _ _ HX2.out (fun hHeld => ?_)
          clear hK K'
          try simp only [Act.put, List.setIfInBounds_toArray, List.set_cons_zero, List.set_cons_succ]
          refine wpAnyH_ready (rs := [16]) (by kernel_rfl) (by simp) ?_
          refine AllReadyH.cons (o := ⟨_, _, _, _, _, _⟩) rfl (fun K' hK => ?_) AllReadyH.nil
          go_simp
          refine hK.out _ _ HX2.out (fun hHeld => ?_)
          clear hK K' k16
          try simp only [Act.put, List.setIfInBounds_toArray, List.set_cons_zero, List.set_cons_succ]
          refine wpAnyH_take (i := 19) (oi := ⟨_, _, _, _, _, _⟩) (v := ?_) rfl (by kernel_rfl) (by kernel_rfl) (by kernel_rfl) (fun _ _ _ h => h) (Or.inl ⟨by rfl, ?_⟩) hHeld ?_
          rotate_left
          · intro w hSw
            have hSx : Ext c0 w := hSw
            clear hSw
            go_simp
            all_goals (first | with_reducible rfl | rw [if_pos (by omega)])
          try simp only [Act.put, List.setIfInBounds_toArray, List.set_cons_zero, List.set_cons_succ]
          refine wpAnyH_take (i := 20) (oi := ⟨_, _, _, _, _, _⟩) (v := ?_) rfl (by kernel_rfl) (by kernel_rfl) (by kernel_rfl) (fun _ _ _ h => h) (Or.inl ⟨by rfl, ?_⟩) hHeld ?_
          rotate_left
          · intro w hSw
            have hSx : Ext c0 w := hSw
            clear hSw
            go_simp
            all_goals (first | with_reducible rfl | rw [if_pos (by omega)])
          try simp only [Act.put, List.setIfInBounds_toArray, List.set_cons_zero, List.set_cons_succ]
          refine wpAnyH_take (i := 21) (oi := ⟨_, _, _, _, _, _⟩) (v := ?_) rfl (by kernel_rfl) (by kernel_rfl) (by kernel_rfl) (fun _ _ _ h => h) (Or.inl ⟨by rfl, ?_⟩) hHeld ?_
          rotate_left
          · intro w hSw
            have hSx : Ext c0 w := hSw
            clear hSw
            go_simp
            all_goals (first | with_reducible rfl | rw [if_pos (by omega)])
          try simp only [Act.put, List.setIfInBounds_toArray, List.set_cons_zero, List.set_cons_succ]
          refine wpAnyH_take (i := 22) (oi := ⟨_, _, _, _, _, _⟩) (v := ?_) rfl (by kernel_rfl) (by kernel_rfl) (by kernel_rfl) (fun _ _ _ h => h) (Or.inl ⟨by rfl, ?_⟩) hHeld ?_
          rotate_left
          · intro w hSw
            have hSx : Ext c0 w := hSw
            clear hSw
            go_simp
            all_goals (first | with_reducible rfl | rw [if_pos (by omega)])
          try simp only [Act.put, List.setIfInBounds_toArray, List.set_cons_zero, List.set_cons_succ]
          refine wpAnyH_ready (rs := [23]) (by kernel_rfl) (by simp) ?_
          refine AllReadyH.cons (o := ⟨_, _, _, _, _, _⟩) rfl (fun K' hK => ?_) AllReadyH.nil
          have hq := works_any u2
          go_simp
          go_at_call 10
          refine hq.mono ?_
          clear hq
          rintro e u3 ⟨rfl, hE⟩
          have HX3 := Lib.hid (Ext.trans HX2.out hE)
          clear hE
          refine hK.out _ _ HX3.out (fun hHeld => ?_)
          clear hK K'
          try simp only [Act.put, List.setIfInBounds_toArray, List.set_cons_zero, List.set_cons_succ]
          refine wpAnyH_take (i := 24) (oi := ⟨_, _, _, _, _, _⟩) (v := ?_) rfl (by kernel_rfl) (by kernel_rfl) (by kernel_rfl) (fun _ _ _ h => h) (Or.inl ⟨by rfl, ?_⟩) hHeld ?_
          rotate_left
          · intro w hSw
            have hSx : Ext c0 w := hSw
            clear hSw
            go_simp
            all_goals (first | with_reducible rfl | rw [if_pos (by omega)])
          try simp only [Act.put, List.setIfInBounds_toArray, List.set_cons_zero, List.set_cons_succ]
          refine wpAnyH_take (i := 25) (oi := ⟨_, _, _, _, _, _⟩) (v := ?_) rfl (by kernel_rfl) (by kernel_rfl) (by kernel_rfl) (fun _ _ _ h => h) (Or.inl ⟨by rfl, ?_⟩) hHeld ?_
          rotate_left
          · intro w hSw
            have hSx : Ext c0 w := hSw
            clear hSw
            go_simp
            all_goals (first | with_reducible rfl | rw [if_pos (by omega)])
          try simp only [Act.put, List.setIfInBounds_toArray, List.set_cons_zero, List.set_cons_succ]
          refine wpAnyH_done (by kernel_rfl) ?_ _
          clear hHeld
          go_wp2_with fail
          go_ret
          exact ⟨_, rfl, rfl, HXC.out.trans HX3.out⟩
      · rw [hg1] at hc
        have HPL := Lib.hid (list_gotE hg1)
        clear hg1
        go_wp2_with fail
        refine hc.mono ?_
        clear hc
        rintro e wu ⟨hX, v, rfl, hv⟩
        have HML := Lib.hid hv.rd
        obtain ⟨mA, mc, rfl⟩ := hv.slice
        have HE' := Lib.hid (HE.out.trans hX)
        clear hX hv
        clear HE
        have HE := HE'
        clear HE'
        have hc := getNode_any b _ wu (RdS.ext HE.out HB.out)
        rcases hg2 : gotO (nodeP 65 b) treeE b with _ | k
        · rw [hg2] at hc
          clear hg2
          go_wp2_with fail
          refine hc.mono ?_
          clear hc
          rintro e wy ⟨hX, rfl⟩
          have HE' := Lib.hid (HE.out.trans hX)
          have HML' := Lib.hid (RdL.ext hX HML.out)
          clear hX
          clear HE
          have HE := HE'
          clear HE'
          clear HML
          have HML := HML'
          clear HML'
          obtain ⟨wva, hwa⟩ : ∃ q, wy.alloc (.cells #[.int .u64 0, .bool false, .string ⟨#[]⟩, .slice none 0 0, .string ⟨#[]⟩, .slice none 0 0] 32) = q := ⟨_, rfl⟩
          obtain ⟨Zv, hZ⟩ : ∃ q, wy.heap.size = q := ⟨_, rfl⟩
          have XA : Ext wy wva := by rw [← hwa]; exact (Ext.refl _).alloc _
          have bZ : NBox wva Zv 32 #[.int .u64 0, .bool false, .string ⟨#[]⟩, .slice none 0 0, .string ⟨#[]⟩, .slice none 0 0] := by rw [← hwa, ← hZ]; exact NBox.new _ _ _
          obtain ⟨wv, hwn⟩ : ∃ q, (World.setCell (World.setCell (World.setCell (World.setCell (World.setCell (World.setCell wva ⟨Zv, 0, none⟩ (.int .u64 0)) ⟨Zv, 1, none⟩ (.bool false)) ⟨Zv, 2, none⟩ (.string ⟨#[]⟩)) ⟨Zv, 3, none⟩ (.slice none 0 0)) ⟨Zv, 4, none⟩ (.string ⟨#[]⟩)) ⟨Zv, 5, none⟩ (.slice none 0 0)) = q := ⟨_, rfl⟩
          have F8 : Fr wva wv (isB Zv) := by rw [← hwn]; exact Fr.six _ _ _ _ _ _ _ _
          have X8 : Ext wy wv := Fr.ext XA F8 (fun q hq => by rw [show q = Zv from hq, hZ]; exact Nat.le_refl _)
          have HBZv := Lib.hid (show NBox wv Zv 32 #[.int .u64 0, .bool false, .string ⟨#[]⟩, .slice none 0 0, .string ⟨#[]⟩, .slice none 0 0] from by rw [← hwn]; exact bZ.six _ _ _ _ _ _)
          have HZLZv := Lib.hid (show wy.heap.size ≤ Zv from by rw [hZ]; exact Nat.le_refl _)
          have HE' := Lib.hid (HE.out.trans X8)
          have HML' := Lib.hid (RdL.ext X8 HML.out)
          have y0 := bZ.cell 0
          have z0 := bZ.frozen 0
          have y1 := bZ.cell 1
          have z1 := bZ.frozen 1
          have y2 := bZ.cell 2
          have z2 := bZ.frozen 2
          have y3 := bZ.cell 3
          have z3 := bZ.frozen 3
          have y4 := bZ.cell 4
          have z4 := bZ.frozen 4
          have y5 := bZ.cell 5
          have z5 := bZ.frozen 5
          have HWA := Lib.hid hwa
          have HZZ := Lib.hid hZ
          have HWN := Lib.hid hwn
          clear hwa hZ hwn XA bZ F8 X8
          clear HML
          have HML := HML'
          clear HML'
          clear HE
          have HE := HE'
          clear HE'
          go_upto_region 19 with (rw [HWA.out, HZZ.out]; clear HWA HZZ)
          rw [HWN.out]
          clear HWN y0 y1 y2 y3 y4 y5 z0 z1 z2 z3 z4 z5
          have HE2 := HE
          obtain ⟨c0, hc0⟩ : ∃ c0, wv.drew = c0 := ⟨_, rfl⟩
          have XC : Ext wv c0 := by rw [← hc0]; exact (Ext.refl _).drew
          have HXC := Lib.hid (HE2.out.trans XC)
          have HB6 := Lib.hid (RdS.ext HXC.out HB.out)
          have z0 := (HBZv.out.ext XC).cell 0
          have z1 := (HBZv.out.ext XC).cell 1
          have z2 := (HBZv.out.ext XC).cell 2
          have z3 := (HBZv.out.ext XC).cell 3
          have z4 := (HBZv.out.ext XC).cell 4
          have z5 := (HBZv.out.ext XC).cell 5
          have HM := Lib.hid (RdL.ext XC HML.out)
          obtain ⟨sb, hsb⟩ : ∃ s, Sb b = s := ⟨_, rfl⟩
          have HSB := Lib.hid hsb
          have e1 := str_same sb
          clear hsb XC HBZv
          refine wp_region_held_drew (S := fun W => Ext c0 W) (by kernel_rfl) (by rw [hc0]; exact Ext.refl _) (fun hHeld => ?_)
          rw [hc0] at hHeld ⊢
          clear hc0
          refine wpAnyH_take (i := 0) (oi := ⟨_, _, _, _, _, _⟩) (v := ?_) rfl (by kernel_rfl) (by kernel_rfl) (by kernel_rfl) (fun _ _ _ h => h) (Or.inl ⟨by rfl, ?_⟩) hHeld ?_
          rotate_left
          · intro w hSw
            have hSx : Ext c0 w := hSw
            clear hSw
            go_simp
            all_goals (first | with_reducible rfl | rw [if_pos (by omega)])
          try simp only [Act.put, List.setIfInBounds_toArray, List.set_cons_zero, List.set_cons_succ]
          refine wpAnyH_take (i := 1) (oi := ⟨_, _, _, _, _, _⟩) (v := ?_) rfl (by kernel_rfl) (by kernel_rfl) (by kernel_rfl) (fun _ _ _ h => h) (Or.inl ⟨by rfl, ?_⟩) hHeld ?_
          rotate_left
          · intro w hSw
            have hSx : Ext c0 w := hSw
            clear hSw
            go_simp
            all_goals (first | with_reducible rfl | rw [if_pos (by omega)])
          try simp only [Act.put, List.setIfInBounds_toArray, List.set_cons_zero, List.set_cons_succ]
          refine wpAnyH_take (i := 2) (oi := ⟨_, _, _, _, _, _⟩) (v := ?_) rfl (by kernel_rfl) (by kernel_rfl) (by kernel_rfl) (fun _ _ _ h => h) (Or.inl ⟨by rfl, ?_⟩) hHeld ?_
          rotate_left
          · intro w hSw
            have hSx : Ext c0 w := hSw
            clear hSw
            go_simp
            all_goals (first | with_reducible rfl | rw [if_pos (by omega)])
          try simp only [Act.put, List.setIfInBounds_toArray, List.set_cons_zero, List.set_cons_succ]
          refine wpAnyH_take (i := 3) (oi := ⟨_, _, _, _, _, _⟩) (v := ?_) rfl (by kernel_rfl) (by kernel_rfl) (by kernel_rfl) (fun _ _ _ h => h) (Or.inl ⟨by rfl, ?_⟩) hHeld ?_
          rotate_left
          · intro w hSw
            have hSx : Ext c0 w := hSw
            clear hSw
            go_simp
            all_goals (first | with_reducible rfl | rw [if_pos (by omega)])
          try simp only [Act.put, List.setIfInBounds_toArray, List.set_cons_zero, List.set_cons_succ]
          refine wpAnyH_take (i := 6) (oi := ⟨_, _, _, _, _, _⟩) (v := ?_) rfl (by kernel_rfl) (by kernel_rfl) (by kernel_rfl) (fun _ _ _ h => h) (Or.inl ⟨by rfl, ?_⟩) hHeld ?_
          rotate_left
          · intro w hSw
            have hSx : Ext c0 w := hSw
            clear hSw
            go_simp
            all_goals (first | with_reducible rfl | rw [if_pos (by omega)])
          try simp only [Act.put, List.setIfInBounds_toArray, List.set_cons_zero, List.set_cons_succ]
          refine wpAnyH_take (i := 7) (oi := ⟨_, _, _, _, _, _⟩) (v := ?_) rfl (by kernel_rfl) (by kernel_rfl) (by kernel_rfl) (fun _ _ _ h => h) (Or.inl ⟨by rfl, ?_⟩) hHeld ?_
          rotate_left
          · intro w hSw
            have hSx : Ext c0 w := hSw
            clear hSw
            have k7 := conv_rd (RdS.ext hSx HB6.out)
            rw [HSB.out] at k7
            go_simp
            all_goals (first | with_reducible rfl | rw [if_pos (by omega)])
          try simp only [Act.put, List.setIfInBounds_toArray, List.set_cons_zero, List.set_cons_succ]
          refine wpAnyH_ready (rs := [4]) (by kernel_rfl) (by simp) ?_
          refine AllReadyH.cons (o := ⟨_, _, _, _, _, _⟩) rfl (fun K' hK => ?_) AllReadyH.nil
          have hq := putList_any m _ c0 HM.out
          rw [HPL.out] at hq
          go_simp
          go_at_call 12
          refine hq.mono ?_
          clear hq
          rintro e u1 ⟨hX, v1, rfl, hO⟩
          have k5 := conv_rd (bs := b) (RdS.of_owns hO)
          rw [HSB.out] at k5
          have HX1 := Lib.hid hX
          obtain ⟨pA, pC, rfl, -⟩ := RdS.of_owns hO
          clear hX hO
          refine hK.out _ _ HX1.out (fun hHeld => ?_)
          clear hK K'
          try simp only [Act.put, List.setIfInBounds_toArray, List.set_cons_zero, List.set_cons_succ]
          refine wpAnyH_ready (rs := [5]) (by kernel_rfl) (by simp) ?_
          refine AllReadyH.cons (o := ⟨_, _, _, _, _, _⟩) rfl (fun K' hK => ?_) AllReadyH.nil
          go_simp
          refine hK.out _ _ HX1.out (fun hHeld => ?_)
          clear hK K' k5
          try simp only [Act.put, List.setIfInBounds_toArray, List.set_cons_zero, List.set_cons_succ]
          refine wpAnyH_take (i := 8) (oi := ⟨_, _, _, _, _, _⟩) (v := ?_) rfl (by kernel_rfl) (by kernel_rfl) (by kernel_rfl) (fun _ _ _ h => h) (Or.inl ⟨by rfl, ?_⟩) hHeld ?_
          rotate_left
          · intro w hSw
            have hSx : Ext c0 w := hSw
            clear hSw
            go_simp
            all_goals (first | with_reducible rfl | rw [if_pos (by omega)])
          try simp only [Act.put, List.setIfInBounds_toArray, List.set_cons_zero, List.set_cons_succ]
          refine wpAnyH_take (i := 9) (oi := ⟨_, _, _, _, _, _⟩) (v := ?_) rfl (by kernel_rfl) (by kernel_rfl) (by kernel_rfl) (fun _ _ _ h => h) (Or.inl ⟨by rfl, ?_⟩) hHeld ?_
          rotate_left
          · intro w hSw
            have hSx : Ext c0 w := hSw
            clear hSw
            go_simp
            all_goals (first | with_reducible rfl | rw [if_pos (by omega)])
          try simp only [Act.put, List.setIfInBounds_toArray, List.set_cons_zero, List.set_cons_succ]
          refine wpAnyH_take (i := 10) (oi := ⟨_, _, _, _, _, _⟩) (v := ?_) rfl (by kernel_rfl) (by kernel_rfl) (by kernel_rfl) (fun _ _ _ h => h) (Or.inl ⟨by rfl, ?_⟩) hHeld ?_
          rotate_left
          · intro w hSw
            have hSx : Ext c0 w := hSw
            clear hSw
            go_simp
            all_goals (first | with_reducible rfl | rw [if_pos (by omega)])
          try simp only [Act.put, List.setIfInBounds_toArray, List.set_cons_zero, List.set_cons_succ]
          refine wpAnyH_take (i := 11) (oi := ⟨_, _, _, _, _, _⟩) (v := ?_) rfl (by kernel_rfl) (by kernel_rfl) (by kernel_rfl) (fun _ _ _ h => h) (Or.inl ⟨by rfl, ?_⟩) hHeld ?_
          rotate_left
          · intro w hSw
            have hSx : Ext c0 w := hSw
            clear hSw
            go_simp
            all_goals (first | with_reducible rfl | rw [if_pos (by omega)])
          try simp only [Act.put, List.setIfInBounds_toArray, List.set_cons_zero, List.set_cons_succ]
          refine wpAnyH_take (i := 12) (oi := ⟨_, _, _, _, _, _⟩) (v := ?_) rfl (by kernel_rfl) (by kernel_rfl) (by kernel_rfl) (fun _ _ _ h => h) (Or.inl ⟨by rfl, ?_⟩) hHeld ?_
          rotate_left
          · intro w hSw
            have hSx : Ext c0 w := hSw
            clear hSw
            go_simp
            all_goals (first | with_reducible rfl | rw [if_pos (by omega)])
          try simp only [Act.put, List.setIfInBounds_toArray, List.set_cons_zero, List.set_cons_succ]
          refine wpAnyH_take (i := 13) (oi := ⟨_, _, _, _, _, _⟩) (v := ?_) rfl (by kernel_rfl) (by kernel_rfl) (by kernel_rfl) (fun _ _ _ h => h) (Or.inl ⟨by rfl, ?_⟩) hHeld ?_
          rotate_left
          · intro w hSw
            have hSx : Ext c0 w := hSw
            clear hSw
            go_simp
            all_goals (first | with_reducible rfl | rw [if_pos (by omega)])
          try simp only [Act.put, List.setIfInBounds_toArray, List.set_cons_zero, List.set_cons_succ]
          refine wpAnyH_take (i := 14) (oi := ⟨_, _, _, _, _, _⟩) (v := undef) rfl (by kernel_rfl) (by kernel_rfl) (by kernel_rfl) (fun _ _ _ h => h) (Or.inr ⟨by rfl, by rfl⟩) hHeld ?_
          try simp only [Act.put, List.setIfInBounds_toArray, List.set_cons_zero, List.set_cons_succ]
          refine wpAnyH_take (i := 15) (oi := ⟨_, _, _, _, _, _⟩) (v := undef) rfl (by kernel_rfl) (by kernel_rfl) (by kernel_rfl) (fun _ _ _ h => h) (Or.inr ⟨by rfl, by rfl⟩) hHeld ?_
          try simp only [Act.put, List.setIfInBounds_toArray, List.set_cons_zero, List.set_cons_succ]
          refine wpAnyH_take (i := 16) (oi := ⟨_, _, _, _, _, _⟩) (v := undef) rfl (by kernel_rfl) (by kernel_rfl) (by kernel_rfl) (fun _ _ _ h => h) (Or.inr ⟨by rfl, by rfl⟩) hHeld ?_
          try simp only [Act.put, List.setIfInBounds_toArray, List.set_cons_zero, List.set_cons_succ]
          refine wpAnyH_take (i := 17) (oi := ⟨_, _, _, _, _, _⟩) (v := undef) rfl (by kernel_rfl) (by kernel_rfl) (by kernel_rfl) (fun _ _ _ h => h) (Or.inr ⟨by rfl, by rfl⟩) hHeld ?_
          try simp only [Act.put, List.setIfInBounds_toArray, List.set_cons_zero, List.set_cons_succ]
          refine wpAnyH_take (i := 18) (oi := ⟨_, _, _, _, _, _⟩) (v := undef) rfl (by kernel_rfl) (by kernel_rfl) (by kernel_rfl) (fun _ _ _ h => h) (Or.inr ⟨by rfl, by rfl⟩) hHeld ?_
          try simp only [Act.put, List.setIfInBounds_toArray, List.set_cons_zero, List.set_cons_succ]
          refine wpAnyH_take (i := 19) (oi := ⟨_, _, _, _, _, _⟩) (v := undef) rfl (by kernel_rfl) (by kernel_rfl) (by kernel_rfl) (fun _ _ _ h => h) (Or.inr ⟨by rfl, by rfl⟩) hHeld ?_
          try simp only [Act.put, List.setIfInBounds_toArray, List.set_cons_zero, List.set_cons_succ]
          refine wpAnyH_take (i := 20) (oi := ⟨_, _, _, _, _, _⟩) (v := ?_) rfl (by kernel_rfl) (by kernel_rfl) (by kernel_rfl) (fun _ _ _ h => h) (Or.inl ⟨by rfl, ?_⟩) hHeld ?_
          rotate_left
          · intro w hSw
            have hSx : Ext c0 w := hSw
            clear hSw
            go_simp
            all_goals (first | with_reducible rfl | rw [if_pos (by omega)])
          try simp only [Act.put, List.setIfInBounds_toArray, List.set_cons_zero, List.set_cons_succ]
          refine wpAnyH_take (i := 21) (oi := ⟨_, _, _, _, _, _⟩) (v := ?_) rfl (by kernel_rfl) (by kernel_rfl) (by kernel_rfl) (fun _ _ _ h => h) (Or.inl ⟨by rfl, ?_⟩) hHeld ?_
          rotate_left
          · intro w hSw
            have hSx : Ext c0 w := hSw
            clear hSw
            go_simp
            all_goals (first | with_reducible rfl | rw [if_pos (by omega)])
          try simp only [Act.put, List.setIfInBounds_toArray, List.set_cons_zero, List.set_cons_succ]
          refine wpAnyH_take (i := 22) (oi := ⟨_, _, _, _, _, _⟩) (v := ?_) rfl (by kernel_rfl) (by kernel_rfl) (by kernel_rfl) (fun _ _ _ h => h) (Or.inl ⟨by rfl, ?_⟩) hHeld ?_
          rotate_left
          · intro w hSw
            have hSx : Ext c0 w := hSw
            clear hSw
            go_simp
            all_goals (first | with_reducible rfl | rw [if_pos (by omega)])
          try simp only [Act.put, List.setIfInBounds_toArray, List.set_cons_zero, List.set_cons_succ]
          refine wpAnyH_ready (rs := [23]) (by kernel_rfl) (by simp) ?_
          refine AllReadyH.cons (o := ⟨_, _, _, _, _, _⟩) rfl (fun K' hK => ?_) AllReadyH.nil
          have hq := works_any u1
          go_simp
          go_at_call 10
          refine hq.mono ?_
          clear hq
          rintro e u3 ⟨rfl, hE⟩
          have HX3 := Lib.hid (Ext.trans HX1.out hE)
          clear hE
          refine hK.out _ _ HX3.out (fun hHeld => ?_)
          clear hK K'
          try simp only [Act.put, List.setIfInBounds_toArray, List.set_cons_zero, List.set_cons_succ]
          refine wpAnyH_take (i := 24) (oi := ⟨_, _, _, _, _, _⟩) (v := ?_) rfl (by kernel_rfl) (by kernel_rfl) (by kernel_rfl) (fun _ _ _ h => h) (Or.inl ⟨by rfl, ?_⟩) hHeld ?_
          rotate_left
          · intro w hSw
            have hSx : Ext c0 w := hSw
            clear hSw
            go_simp
            all_goals (first | with_reducible rfl | rw [if_pos (by omega)])
          try simp only [Act.put, List.setIfInBounds_toArray, List.set_cons_zero, List.set_cons_succ]
          refine wpAnyH_take (i := 25) (oi := ⟨_, _, _, _, _, _⟩) (v := ?_) rfl (by kernel_rfl) (by kernel_rfl) (by kernel_rfl) (fun _ _ _ h => h) (Or.inl ⟨by rfl, ?_⟩) hHeld ?_
          rotate_left
          · intro w hSw
            have hSx : Ext c0 w := hSw
            clear hSw
            go_simp
            all_goals (first | with_reducible rfl | rw [if_pos (by omega)])
          try simp only [Act.put, List.setIfInBounds_toArray, List.set_cons_zero, List.set_cons_succ]
          refine wpAnyH_done (by kernel_rfl) ?_ _
          clear hHeld
          go_wp2_with fail
          go_ret
          exact ⟨_, rfl, rfl, HXC.out.trans HX3.out⟩
        · rw [hg2] at hc
          have HPN := Lib.hid (tree_gotE hg2)
          clear hg2
          go_wp2_with fail
          refine hc.mono ?_
          clear hc
          rintro e wy ⟨hX, v, rfl, hv⟩
          obtain ⟨kA, kc, kK, kd, rfl⟩ := hv.open
          have HV := Lib.hid (show Late (old wu.heap.size) (fun W => k.rd W (.agg #[.int .u64 k.id, .bool k.leaf, .string k.label, .slice kA k.attrs.length kc, .string k.text, .slice kK k.kids.length kd])) wy from hv)
          have HE' := Lib.hid (HE.out.trans hX)
          have HML' := Lib.hid (RdL.ext hX HML.out)
          clear hX
          clear hv
          clear HE
          have HE := HE'
          clear HE'
          clear HML
          have HML := HML'
          clear HML'
          obtain ⟨wva, hwa⟩ : ∃ q, wy.alloc (.cells #[.int .u64 0, .bool false, .string ⟨#[]⟩, .slice none 0 0, .string ⟨#[]⟩, .slice none 0 0] 32) = q := ⟨_, rfl⟩
          obtain ⟨Zv, hZ⟩ : ∃ q, wy.heap.size = q := ⟨_, rfl⟩
          have XA : Ext wy wva := by rw [← hwa]; exact (Ext.refl _).alloc _
          have bZ : NBox wva Zv 32 #[.int .u64 0, .bool false, .string ⟨#[]⟩, .slice none 0 0, .string ⟨#[]⟩, .slice none 0 0] := by rw [← hwa, ← hZ]; exact NBox.new _ _ _
          obtain ⟨wv, hwn⟩ : ∃ q, (World.setCell (World.setCell (World.setCell (World.setCell (World.setCell (World.setCell wva ⟨Zv, 0, none⟩ (.int .u64 k.id)) ⟨Zv, 1, none⟩ (.bool k.leaf)) ⟨Zv, 2, none⟩ (.string k.label)) ⟨Zv, 3, none⟩ (.slice kA k.attrs.length kc)) ⟨Zv, 4, none⟩ (.string k.text)) ⟨Zv, 5, none⟩ (.slice kK k.kids.length kd)) = q := ⟨_, rfl⟩
          have F8 : Fr wva wv (isB Zv) := by rw [← hwn]; exact Fr.six _ _ _ _ _ _ _ _
          have X8 : Ext wy wv := Fr.ext XA F8 (fun q hq => by rw [show q = Zv from hq, hZ]; exact Nat.le_refl _)
          have HBZv := Lib.hid (show NBox wv Zv 32 #[.int .u64 k.id, .bool k.leaf, .string k.label, .slice kA k.attrs.length kc, .string k.text, .slice kK k.kids.length kd] from by rw [← hwn]; exact bZ.six _ _ _ _ _ _)
          have HZLZv := Lib.hid (show wy.heap.size ≤ Zv from by rw [hZ]; exact Nat.le_refl _)
          have HE' := Lib.hid (HE.out.trans X8)
          have HML' := Lib.hid (RdL.ext X8 HML.out)
          have HV' := Lib.hid (HV.out.ext X8)
          have y0 := bZ.cell 0
          have z0 := bZ.frozen 0
          have y1 := bZ.cell 1
          have z1 := bZ.frozen 1
          have y2 := bZ.cell 2
          have z2 := bZ.frozen 2
          have y3 := bZ.cell 3
          have z3 := bZ.frozen 3
          have y4 := bZ.cell 4
          have z4 := bZ.frozen 4
          have y5 := bZ.cell 5
          have z5 := bZ.frozen 5
          have HWA := Lib.hid hwa
          have HZZ := Lib.hid hZ
          have HWN := Lib.hid hwn
          clear hwa hZ hwn XA bZ F8 X8
          clear HML
          have HML := HML'
          clear HML'
          clear HE
          have HE := HE'
          clear HE'
          clear HV
          have HV := HV'
          clear HV'
          go_upto_region 19 with (rw [HWA.out, HZZ.out]; clear HWA HZZ)
          rw [HWN.out]
          clear HWN y0 y1 y2 y3 y4 y5 z0 z1 z2 z3 z4 z5
          have HE2 := HE
          have HMN := Lib.hid HV.out.now
          obtain ⟨c0, hc0⟩ : ∃ c0, wv.drew = c0 := ⟨_, rfl⟩
          have XC : Ext wv c0 := by rw [← hc0]; exact (Ext.refl _).drew
          have HXC := Lib.hid (HE2.out.trans XC)
          have HB6 := Lib.hid (RdS.ext HXC.out HB.out)
          have z0 := (HBZv.out.ext XC).cell 0
          have z1 := (HBZv.out.ext XC).cell 1
          have z2 := (HBZv.out.ext XC).cell 2
          have z3 := (HBZv.out.ext XC).cell 3
          have z4 := (HBZv.out.ext XC).cell 4
          have z5 := (HBZv.out.ext XC).cell 5
          have HM := Lib.hid (RdL.ext XC HML.out)
          have HN2 := Lib.hid (Nd.rd_ext XC HMN.out)
          obtain ⟨sb, hsb⟩ : ∃ s, Sb b = s := ⟨_, rfl⟩
          have HSB := Lib.hid hsb
          have e1 := str_same sb
          clear hsb XC HBZv
          refine wp_region_held_drew (S := fun W => Ext c0 W) (by kernel_rfl) (by rw [hc0]; exact Ext.refl _) (fun hHeld => ?_)
          rw [hc0] at hHeld ⊢
          clear hc0
          refine wpAnyH_take (i := 0) (oi := ⟨_, _, _, _, _, _⟩) (v := ?_) rfl (by kernel_rfl) (by kernel_rfl) (by kernel_rfl) (fun _ _ _ h => h) (Or.inl ⟨by rfl, ?_⟩) hHeld ?_
          rotate_left
          · intro w hSw
            have hSx : Ext c0 w := hSw
            clear hSw
            go_simp
            all_goals (first | with_reducible rfl | rw [if_pos (by omega)])
          try simp only [Act.put, List.setIfInBounds_toArray, List.set_cons_zero, List.set_cons_succ]
          refine wpAnyH_take (i := 1) (oi := ⟨_, _, _, _, _, _⟩) (v := ?_) rfl (by kernel_rfl) (by kernel_rfl) (by kernel_rfl) (fun _ _ _ h => h) (Or.inl ⟨by rfl, ?_⟩) hHeld ?_
          rotate_left
          · intro w hSw
            have hSx : Ext c0 w := hSw
            clear hSw
            go_simp
            all_goals (first | with_reducible rfl | rw [if_pos (by omega)])
          try simp only [Act.put, List.setIfInBounds_toArray, List.set_cons_zero, List.set_cons_succ]
          refine wpAnyH_take (i := 2) (oi := ⟨_, _, _, _, _, _⟩) (v := ?_) rfl (by kernel_rfl) (by kernel_rfl) (by kernel_rfl) (fun _ _ _ h => h) (Or.inl ⟨by rfl, ?_⟩) hHeld ?_
          rotate_left
          · intro w hSw
            have hSx : Ext c0 w := hSw
            clear hSw
            go_simp
            all_goals (first | with_reducible rfl | rw [if_pos (by omega)])
          try simp only [Act.put, List.setIfInBounds_toArray, List.set_cons_zero, List.set_cons_succ]
          refine wpAnyH_take (i := 3) (oi := ⟨_, _, _, _, _, _⟩) (v := ?_) rfl (by kernel_rfl) (by kernel_rfl) (by kernel_rfl) (fun _ _ _ h => h) (Or.inl ⟨by rfl, ?_⟩) hHeld ?_
          rotate_left
          · intro w hSw
            have hSx : Ext c0 w := hSw
            clear hSw
            go_simp
            all_goals (first | with_reducible rfl | rw [if_pos (by omega)])
          try simp only [Act.put, List.setIfInBounds_toArray, List.set_cons_zero, List.set_cons_succ]
          refine wpAnyH_take (i := 6) (oi := ⟨_, _, _, _, _, _⟩) (v := ?_) rfl (by kernel_rfl) (by kernel_rfl) (by kernel_rfl) (fun _ _ _ h => h) (Or.inl ⟨by rfl, ?_⟩) hHeld ?_
          rotate_left
          · intro w hSw
            have hSx : Ext c0 w := hSw
            clear hSw
            go_simp
            all_goals (first | with_reducible rfl | rw [if_pos (by omega)])
          try simp only [Act.put, List.setIfInBounds_toArray, List.set_cons_zero, List.set_cons_succ]
          refine wpAnyH_take (i := 7) (oi := ⟨_, _, _, _, _, _⟩) (v := ?_) rfl (by kernel_rfl) (by kernel_rfl) (by kernel_rfl) (fun _ _ _ h => h) (Or.inl ⟨by rfl, ?_⟩) hHeld ?_
          rotate_left
          · intro w hSw
            have hSx : Ext c0 w := hSw
            clear hSw
            have k7 := conv_rd (RdS.ext hSx HB6.out)
            rw [HSB.out] at k7
            go_simp
            all_goals (first | with_reducible rfl | rw [if_pos (by omega)])
          try simp only [Act.put, List.setIfInBounds_toArray, List.set_cons_zero, List.set_cons_succ]
          refine wpAnyH_ready (rs := [4]) (by kernel_rfl) (by simp) ?_
          refine AllReadyH.cons (o := ⟨_, _, _, _, _, _⟩) rfl (fun K' hK => ?_) AllReadyH.nil
          have hq := putList_any m _ c0 HM.out
          rw [HPL.out] at hq
          go_simp
          go_at_call 12
          refine hq.mono ?_
          clear hq
          rintro e u1 ⟨hX, v1, rfl, hO⟩
          have k5 := conv_rd (bs := b) (RdS.of_owns hO)
          rw [HSB.out] at k5
          have HX1 := Lib.hid hX
          obtain ⟨pA, pC, rfl, -⟩ := RdS.of_owns hO
          clear hX hO
          refine hK.out _ _ HX1.out (fun hHeld => ?_)
          clear hK K'
          try simp only [Act.put, List.setIfInBounds_toArray, List.set_cons_zero, List.set_cons_succ]
          refine wpAnyH_ready (rs := [5]) (by kernel_rfl) (by simp) ?_
          refine AllReadyH.cons (o := ⟨_, _, _, _, _, _⟩) rfl (fun K' hK => ?_) AllReadyH.nil
          go_simp
          refine hK.out _ _ HX1.out (fun hHeld => ?_)
          clear hK K' k5
          try simp only [Act.put, List.setIfInBounds_toArray, List.set_cons_zero, List.set_cons_succ]
          refine wpAnyH_take (i := 8) (oi := ⟨_, _, _, _, _, _⟩) (v := ?_) rfl (by kernel_rfl) (by kernel_rfl) (by kernel_rfl) (fun _ _ _ h => h) (Or.inl ⟨by rfl, ?_⟩) hHeld ?_
          rotate_left
          · intro w hSw
            have hSx : Ext c0 w := hSw
            clear hSw
            go_simp
            all_goals (first | with_reducible rfl | rw [if_pos (by omega)])
          try simp only [Act.put, List.setIfInBounds_toArray, List.set_cons_zero, List.set_cons_succ]
          refine wpAnyH_take (i := 9) (oi := ⟨_, _, _, _, _, _⟩) (v := ?_) rfl (by kernel_rfl) (by kernel_rfl) (by kernel_rfl) (fun _ _ _ h => h) (Or.inl ⟨by rfl, ?_⟩) hHeld ?_
          rotate_left
          · intro w hSw
            have hSx : Ext c0 w := hSw
            clear hSw
            go_simp
            all_goals (first | with_reducible rfl | rw [if_pos (by omega)])
          try simp only [Act.put, List.setIfInBounds_toArray, List.set_cons_zero, List.set_cons_succ]
          refine wpAnyH_take (i := 10) (oi := ⟨_, _, _, _, _, _⟩) (v := ?_) rfl (by kernel_rfl) (by kernel_rfl) (by kernel_rfl) (fun _ _ _ h => h) (Or.inl ⟨by rfl, ?_⟩) hHeld ?_
          rotate_left
          · intro w hSw
            have hSx : Ext c0 w := hSw
            clear hSw
            go_simp
            all_goals (first | with_reducible rfl | rw [if_pos (by omega)])
          try simp only [Act.put, List.setIfInBounds_toArray, List.set_cons_zero, List.set_cons_succ]
          refine wpAnyH_take (i := 11) (oi := ⟨_, _, _, _, _, _⟩) (v := ?_) rfl (by kernel_rfl) (by kernel_rfl) (by kernel_rfl) (fun _ _ _ h => h) (Or.inl ⟨by rfl, ?_⟩) hHeld ?_
          rotate_left
          · intro w hSw
            have hSx : Ext c0 w := hSw
            clear hSw
            go_simp
            all_goals (first | with_reducible rfl | rw [if_pos (by omega)])
          try simp only [Act.put, List.setIfInBounds_toArray, List.set_cons_zero, List.set_cons_succ]
          refine wpAnyH_take (i := 12) (oi := ⟨_, _, _, _, _, _⟩) (v := ?_) rfl (by kernel_rfl) (by kernel_rfl) (by kernel_rfl) (fun _ _ _ h => h) (Or.inl ⟨by rfl, ?_⟩) hHeld ?_
          rotate_left
          · intro w hSw
            have hSx : Ext c0 w := hSw
            clear hSw
            go_simp
            all_goals (first | with_reducible rfl | rw [if_pos (by omega)])
          try simp only [Act.put, List.setIfInBounds_toArray, List.set_cons_zero, List.set_cons_succ]
          refine wpAnyH_take (i := 13) (oi := ⟨_, _, _, _, _, _⟩) (v := ?_) rfl (by kernel_rfl) (by kernel_rfl) (by kernel_rfl) (fun _ _ _ h => h) (Or.inl ⟨by rfl, ?_⟩) hHeld ?_
          rotate_left
          · intro w hSw
            have hSx : Ext c0 w := hSw
            clear hSw
            go_simp
            all_goals (first | with_reducible rfl | rw [if_pos (by omega)])
          try simp only [Act.put, List.setIfInBounds_toArray, List.set_cons_zero, List.set_cons_succ]
          refine wpAnyH_take (i := 14) (oi := ⟨_, _, _, _, _, _⟩) (v := ?_) rfl (by kernel_rfl) (by kernel_rfl) (by kernel_rfl) (fun _ _ _ h => h) (Or.inl ⟨by rfl, ?_⟩) hHeld ?_
          rotate_left
          · intro w hSw
            have hSx : Ext c0 w := hSw
            clear hSw
            have z0 := hSx.cell z0
            have z1 := hSx.cell z1
            have z2 := hSx.cell z2
            have z3 := hSx.cell z3
            have z4 := hSx.cell z4
            have z5 := hSx.cell z5
            go_simp
            all_goals (first | with_reducible rfl | rw [if_pos (by omega)])
          try simp only [Act.put, List.setIfInBounds_toArray, List.set_cons_zero, List.set_cons_succ]
          refine wpAnyH_take (i := 17) (oi := ⟨_, _, _, _, _, _⟩) (v := ?_) rfl (by kernel_rfl) (by kernel_rfl) (by kernel_rfl) (fun _ _ _ h => h) (Or.inl ⟨by rfl, ?_⟩) hHeld ?_
          rotate_left
          · intro w hSw
            have hSx : Ext c0 w := hSw
            clear hSw
            go_simp
            all_goals (first | with_reducible rfl | rw [if_pos (by omega)])
          try simp only [Act.put, List.setIfInBounds_toArray, List.set_cons_zero, List.set_cons_succ]
          refine wpAnyH_take (i := 18) (oi := ⟨_, _, _, _, _, _⟩) (v := ?_) rfl (by kernel_rfl) (by kernel_rfl) (by kernel_rfl) (fun _ _ _ h => h) (Or.inl ⟨by rfl, ?_⟩) hHeld ?_
          rotate_left
          · intro w hSw
            have hSx : Ext c0 w := hSw
            clear hSw
            have k18 := conv_rd (RdS.ext hSx HB6.out)
            rw [HSB.out] at k18
            go_simp
            all_goals (first | with_reducible rfl | rw [if_pos (by omega)])
          try simp only [Act.put, List.setIfInBounds_toArray, List.set_cons_zero, List.set_cons_succ]
          refine wpAnyH_ready (rs := [15]) (by kernel_rfl) (by simp) ?_
          refine AllReadyH.cons (o := ⟨_, _, _, _, _, _⟩) rfl (fun K' hK => ?_) AllReadyH.nil
          have hq := putNode_any k _ u1 (Nd.rd_ext HX1.out HN2.out)
          rw [HPN.out] at hq
          go_simp
          go_at_call 16
          refine hq.mono ?_
          clear hq
          rintro e u2 ⟨hX, v1, rfl, hO⟩
          have k16 := conv_rd (bs := b) (RdS.of_owns hO)
          rw [HSB.out] at k16
          have HX2 := Lib.hid (Ext.trans HX1.out hX)
          obtain ⟨pA2, pC2, rfl, -⟩ := RdS.of_owns hO
          clear hX hO
          refine hK.out _ _ HX2.out (fun hHeld => ?_)
          clear hK K'
          try simp only [Act.put, List.setIfInBounds_toArray, List.set_cons_zero, List.set_cons_succ]
          refine wpAnyH_ready (rs := [16]) (by kernel_rfl) (by simp) ?_
          refine AllReadyH.cons (o := ⟨_, _, _, _, _, _⟩) rfl (fun K' hK => ?_) AllReadyH.nil
          go_simp
          refine hK.out _ _ HX2.out (fun hHeld => ?_)
          clear hK K' k16
          try simp only [Act.put, List.setIfInBounds_toArray, List.set_cons_zero, List.set_cons_succ]
          refine wpAnyH_take (i := 19) (oi := ⟨_, _, _, _, _, _⟩) (v := ?_) rfl (by kernel_rfl) (by kernel_rfl) (by kernel_rfl) (fun _ _ _ h => h) (Or.inl ⟨by rfl, ?_⟩) hHeld ?_
          rotate_left
          · intro w hSw
            have hSx : Ext c0 w := hSw
            clear hSw
            go_simp
            all_goals (first | with_reducible rfl | rw [if_pos (by omega)])
          try simp only [Act.put, List.setIfInBounds_toArray, List.set_cons_zero, List.set_cons_succ]
          refine wpAnyH_take (i := 20) (oi := ⟨_, _, _, _, _, _⟩) (v := ?_) rfl (by kernel_rfl) (by kernel_rfl) (by kernel_rfl) (fun _ _ _ h => h) (Or.inl ⟨by rfl, ?_⟩) hHeld ?_
          rotate_left
          · intro w hSw
            have hSx : Ext c0 w := hSw
            clear hSw
            go_simp
            all_goals (first | with_reducible rfl | rw [if_pos (by omega)])
          try simp only [Act.put, List.setIfInBounds_toArray, List.set_cons_zero, List.set_cons_succ]
          refine wpAnyH_take (i := 21) (oi := ⟨_, _, _, _, _, _⟩) (v := ?_) rfl (by kernel_rfl) (by kernel_rfl) (by kernel_rfl) (fun _ _ _ h => h) (Or.inl ⟨by rfl, ?_⟩) hHeld ?_
          rotate_left
          · intro w hSw
            have hSx : Ext c0 w := hSw
            clear hSw
            go_simp
            all_goals (first | with_reducible rfl | rw [if_pos (by omega)])
          try simp only [Act.put, List.setIfInBounds_toArray, List.set_cons_zero, List.set_cons_succ]
          refine wpAnyH_take (i := 22) (oi := ⟨_, _, _, _, _, _⟩) (v := ?_) rfl (by kernel_rfl) (by kernel_rfl) (by kernel_rfl) (fun _ _ _ h => h) (Or.inl ⟨by rfl, ?_⟩) hHeld ?_
          rotate_left
          · intro w hSw
            have hSx : Ext c0 w := hSw
            clear hSw
            go_simp
            all_goals (first | with_reducible rfl | rw [if_pos (by omega)])
          try simp only [Act.put, List.setIfInBounds_toArray, List.set_cons_zero, List.set_cons_succ]
          refine wpAnyH_ready (rs := [23]) (by kernel_rfl) (by simp) ?_
          refine AllReadyH.cons (o := ⟨_, _, _, _, _, _⟩) rfl (fun K' hK => ?_) AllReadyH.nil
          have hq := works_any u2
          go_simp
          go_at_call 10
          refine hq.mono ?_
          clear hq
          rintro e u3 ⟨rfl, hE⟩
          have HX3 := Lib.hid (Ext.trans HX2.out hE)
          clear hE
          refine hK.out _ _ HX3.out (fun hHeld => ?_)
          clear hK K'
          try simp only [Act.put, List.setIfInBounds_toArray, List.set_cons_zero, List.set_cons_succ]
          refine wpAnyH_take (i := 24) (oi := ⟨_, _, _, _, _, _⟩) (v := ?_) rfl (by kernel_rfl) (by kernel_rfl) (by kernel_rfl) (fun _ _ _ h => h) (Or.inl ⟨by rfl, ?_⟩) hHeld ?_
          rotate_left
          · intro w hSw
            have hSx : Ext c0 w := hSw
            clear hSw
            go_simp
            all_goals (first | with_reducible rfl | rw [if_pos (by omega)])
          try simp only [Act.put, List.setIfInBounds_toArray, List.set_cons_zero, List.set_cons_succ]
          refine wpAnyH_take (i := 25) (oi := ⟨_, _, _, _, _, _⟩) (v := ?_) rfl (by kernel_rfl) (by kernel_rfl) (by kernel_rfl) (fun _ _ _ h => h) (Or.inl ⟨by rfl, ?_⟩) hHeld ?_
          rotate_left
          · intro w hSw
            have hSx : Ext c0 w := hSw
            clear hSw
            go_simp
            all_goals (first | with_reducible rfl | rw [if_pos (by omega)])
          try simp only [Act.put, List.setIfInBounds_toArray, List.set_cons_zero, List.set_cons_succ]
          refine wpAnyH_done (by kernel_rfl) ?_ _
          clear hHeld
          go_wp2_with fail
          go_ret
          exact ⟨_, rfl, rfl, HXC.out.trans HX3.out⟩
end Go.Proofs.Ytoplaokimahdiaa.Wi
