/- Chapter 17: the document's node (60). (Printed by gwdocn.py.) -/
import Derived.Test.YtoplaokimahdiaaWiDocT
import Derived.Test.YtoplaokimahdiaaWiRdNode
import Derived.Test.YtoplaokimahdiaaWiOp
namespace Go.Proofs.Ytoplaokimahdiaa.Wi
open Go.RowKit Go.Proofs.Ytoplaokimahdiaa.Bw Go.Proofs.Ytoplaokimahdiaa.Bs

/-- One case for what was read, and for what was not. -/
theorem DocC.one {α : Type} {w0 w : World} {D : Nat} {bs : List UInt8} {bv : Value} {enc : α → Value → World → Prop} {p : Option (α × List UInt8)} {e : Ending} {W' : World} (h : DocC w0 w D bs bv enc p e W') :
    ∃ x st v, e = .returned v ∧ enc x v W' ∧ DS w0 W' D bs bv st ∧ Fr w W' (isB D) ∧ Hid (∀ g : α → List UInt8 → Option (Nd × List UInt8), p.bind (fun q => g q.1 q.2) = st.bind (g x)) := by
  obtain ⟨hF, hP⟩ := h
  cases p with
  | none =>
    obtain ⟨x, v, h1, h2, h3⟩ := hP
    exact ⟨x, none, v, h1, h2, h3, hF, Lib.hid fun _ => rfl⟩
  | some xr =>
    obtain ⟨x, r⟩ := xr
    obtain ⟨v, h1, h2, h3⟩ := hP
    exact ⟨x, some r, v, h1, h2, h3, hF, Lib.hid fun _ => rfl⟩
theorem NumC.one {w0 w : World} {D : Nat} {bs : List UInt8} {bv : Value} {p : Option (Nat × List UInt8)} {e : Ending} {W' : World} {most : Nat} (h : NumC w0 w D bs bv p e W') (hlt : ∀ n r, p = some (n, r) → n ≤ most) :
    ∃ n st, e = .returned (.int .u64 ((n : Nat) : Int)) ∧ n ≤ most ∧ DS w0 W' D bs bv st ∧ Fr w W' (isB D) ∧ Hid (∀ g : Nat → List UInt8 → Option (Nd × List UInt8), p.bind (fun q => g q.1 q.2) = st.bind (g n)) ∧ Hid (st = none → n = 0) := by
  obtain ⟨hF, hP⟩ := h
  cases p with
  | none => exact ⟨0, none, hP.1, Nat.zero_le _, hP.2, hF, Lib.hid fun _ => rfl, Lib.hid fun _ => rfl⟩
  | some xr =>
    obtain ⟨n, r⟩ := xr
    exact ⟨n, some r, hP.1, hlt n r rfl, hP.2, hF, Lib.hid fun _ => rfl, Lib.hid fun h => by cases h⟩
theorem DocC.fin {α : Type} {w0 w : World} {D : Nat} {bs : List UInt8} {bv : Value} {enc : α → Value → World → Prop} {p : Option (α × List UInt8)} {W' : World} {st : Option (List UInt8)} {x : α} {v : Value} (hF : Fr w W' (isB D)) (hp : p = st.bind (fun r => some (x, r))) (hv : enc x v W') (hD : DS w0 W' D bs bv st) : DocC w0 w D bs bv enc p (.returned v) W' := by
  subst hp
  cases st with
  | none => exact ⟨hF, x, v, rfl, hv, hD⟩
  | some r => exact ⟨hF, v, rfl, hv, hD⟩
theorem small_bind {most : Nat} {s : Option (List UInt8)} {n : Nat} {r : List UInt8} (h : s.bind (smallP (most + 1)) = some (n, r)) : n ≤ most := by
  cases s with
  | none => cases h
  | some b => have := small_lt (show smallP (most + 1) b = some (n, r) from h); omega
theorem small_all : smallP 18446744073709551616 = rdNum 0 0 := by
  funext b
  unfold smallP
  rcases h : rdNum 0 0 b with _ | ⟨n, r⟩
  · rfl
  · exact if_pos (num_get h).2
/-! ### What is left to read -/
def nU (k i : Nat) (f : Bool) (l : ByteArray) (a : List Atr) (r : List UInt8) : Option (Nd × List UInt8) := if f then (textP 2048 r).bind (fun q => some (Nd.mk i f l a q.1 [], q.2)) else (rowP 512 (nodeP k) r).bind (fun q => some (Nd.mk i f l a ⟨#[]⟩ q.1, q.2))
def nA (k i : Nat) (f : Bool) (l : ByteArray) (acc : List Atr) (n : Nat) (r : List UInt8) : Option (Nd × List UInt8) := (goOnA acc (manyP attrP n r)).bind (fun q => nU k i f l q.1 q.2)
def nAv (k i : Nat) (f : Bool) (l : ByteArray) (acc : List Atr) (n : Nat) (key : ByteArray) (r : List UInt8) : Option (Nd × List UInt8) := (textP 256 r).bind (fun q => nA k i f l (acc ++ [(key, q.1)]) n q.2)
def nK (k i : Nat) (l : ByteArray) (a : List Atr) (acc : List Nd) (n : Nat) (r : List UInt8) : Option (Nd × List UInt8) := (goOnA acc (manyP (nodeP k) n r)).bind (fun q => some (Nd.mk i false l a ⟨#[]⟩ q.1, q.2))
def n3 (k i : Nat) (f : Bool) (l : ByteArray) (r : List UInt8) : Option (Nd × List UInt8) := (smallP 2049 r).bind (fun q => nA k i f l [] q.1 q.2)
def n2 (k i : Nat) (f : Bool) (r : List UInt8) : Option (Nd × List UInt8) := (textP 64 r).bind (fun q => n3 k i f q.1 q.2)
def n1 (k i : Nat) (r : List UInt8) : Option (Nd × List UInt8) := (flagP r).bind (fun q => n2 k i q.1 q.2)
theorem n0_eq (k : Nat) (b : List UInt8) : nodeP (k + 1) b = (smallP 18446744073709551616 b).bind (fun q => n1 k q.1 q.2) := by
  rw [nodeP_eq, small_all]
  rcases rdNum 0 0 b with _ | ⟨i, r⟩
  · rfl
  show _ = n1 k i r
  unfold n1
  simp only
  rcases flagP r with _ | ⟨f, r⟩
  · rfl
  show _ = n2 k i f r
  unfold n2
  simp only
  rcases textP 64 r with _ | ⟨l, r⟩
  · rfl
  show _ = n3 k i f l r
  unfold n3 nodeT
  simp only
  rw [row_go]
  rcases smallP 2049 r with _ | ⟨n, r⟩
  · rfl
  show _ = nA k i f l [] n r
  unfold nA
  simp only
  rcases goOnA [] (manyP attrP n r) with _ | ⟨a, r⟩
  · rfl
  show _ = nU k i f l a r
  unfold nU
  simp only
  cases f with
  | true =>
    rw [if_pos rfl, if_pos rfl]
    cases textP 2048 r <;> rfl
  | false =>
    rw [if_neg (by decide), if_neg (by decide)]
    cases rowP 512 (nodeP k) r <;> rfl
theorem nA_step (k i : Nat) (f : Bool) (l : ByteArray) (acc : List Atr) (n : Nat) (r : List UInt8) : nA k i f l acc (n + 1) r = (textP 64 r).bind (fun q => nAv k i f l acc n q.1 q.2) := by
  unfold nA nAv
  rw [many_stepA, attrP_eq]
  rcases textP 64 r with _ | ⟨key, r⟩
  · rfl
  simp only [Option.bind_some]
  rcases textP 256 r with _ | ⟨v, r⟩ <;> rfl
theorem nK_step (k i : Nat) (l : ByteArray) (a : List Atr) (acc : List Nd) (n : Nat) (r : List UInt8) : nK k i l a acc (n + 1) r = (nodeP k r).bind (fun q => nK k i l a (acc ++ [q.1]) n q.2) := by
  unfold nK
  rw [many_stepA]
  rcases nodeP k r with _ | ⟨x, r⟩ <;> rfl
theorem nA_zero (k i : Nat) (f : Bool) (l : ByteArray) (acc : List Atr) (r : List UInt8) : nA k i f l acc 0 r = nU k i f l acc r := by
  show nU k i f l (acc ++ []) r = _
  rw [List.append_nil]
theorem nK_zero (k i : Nat) (l : ByteArray) (a : List Atr) (acc : List Nd) (r : List UInt8) : nK k i l a acc 0 r = some (.mk i false l a ⟨#[]⟩ acc, r) := by
  show some (Nd.mk i false l a ⟨#[]⟩ (acc ++ []), r) = _
  rw [List.append_nil]
theorem nU_true (k i : Nat) (l : ByteArray) (a : List Atr) (r : List UInt8) : nU k i true l a r = (textP 2048 r).bind (fun q => some (Nd.mk i true l a q.1 [], q.2)) := rfl
/-- Behind the number of children. -/
def nN (k i : Nat) (l : ByteArray) (a : List Atr) (n : Nat) (r : List UInt8) : Option (Nd × List UInt8) := if n ≤ 512 then nK k i l a [] n r else none
theorem nU_false (k i : Nat) (l : ByteArray) (a : List Atr) (r : List UInt8) : nU k i false l a r = (smallP 1048577 r).bind (fun q => nN k i l a q.1 q.2) := by
  show (rowP 512 (nodeP k) r).bind (fun q => some (Nd.mk i false l a ⟨#[]⟩ q.1, q.2)) = _
  rw [row_go]
  unfold smallP
  rcases rdNum 0 0 r with _ | ⟨n, r⟩
  · rfl
  simp only
  by_cases h1 : n < 513
  · rw [if_pos (show n < 512 + 1 from h1), if_pos (show n < 1048577 by omega)]
    show _ = nN k i l a n r
    unfold nN nK
    rw [if_pos (by omega)]
  · rw [if_neg (show ¬ n < 512 + 1 from h1)]
    by_cases h2 : n < 1048577
    · rw [if_pos h2]
      show none = nN k i l a n r
      unfold nN
      rw [if_neg (by omega)]
    · rw [if_neg h2]; rfl
theorem nN_deep (i : Nat) (l : ByteArray) (a : List Atr) (n : Nat) (r : List UInt8) (h : 0 < n) : nN 0 i l a n r = none := by
  unfold nN
  split
  · obtain ⟨m, rfl⟩ : ∃ m, n = m + 1 := ⟨n - 1, by omega⟩
    rw [nK_step]
    rfl
  · rfl
/-- The document's node reads so. -/
def DNodeR (k : Nat) : Prop := ∀ (d : Nat) (bs : List UInt8) (bv : Value) (s : Option (List UInt8)) (w0 w : World) (D : Nat), d + k = 65 → DS w0 w D bs bv s → Calls Try.prog 60 #[.pointer (some ⟨D, 0, none⟩), .int .i64 (d : Int)] w (DocC w0 w D bs bv (ndV w.heap.size) (s.bind (nodeP k)))
theorem rowV2.fr {α : Type} {R : World → α → Value → Prop} {t sz lo : Nat} {l : List α} {v : Value} {W W' : World} {Z : Nat} (h : rowV2 R t sz lo l v W) (F : Fr W W' (isB Z)) (hZ : Z < lo) : rowV2 R t sz lo l v W' := by
  obtain ⟨us, h1, h2⟩ := h
  exact ⟨us, owns_fr F h1 (fun g hg hk => by have := owns_base h1 g hg; rw [show g = Z from hk] at this; omega), h2.to F (fun k _ hh => hh.elim (fun hk => .inl (by rw [show k = Z from hk]; exact hZ)) id)⟩
theorem rowV2.ext {α : Type} {R : World → α → Value → Prop} {t sz lo : Nat} {l : List α} {v : Value} {W W' : World} (h : rowV2 R t sz lo l v W) (X : Ext W W') : rowV2 R t sz lo l v W' := by
  obtain ⟨us, h1, h2⟩ := h
  exact ⟨us, owns_ext X h1, h2.ext X⟩
theorem atr_cells {W : World} : ∀ (l : List Atr) (us : List Value), rowCells RdAtr 2 W l us → ∀ W', rowCells RdAtr 2 W' l us
  | [], us, h, _ => h
  | x :: l, us, h, W' => by
    obtain ⟨cs, us', h1, h2, rfl, h3⟩ := h
    exact ⟨cs, us', h1, h2, rfl, atr_cells l us' h3 W'⟩
theorem owns_not {W : World} {base e size n : Nat} {v : Value} {xs : List Value} (h : W.ownsRow base e size v n xs) {Z : Nat} (hZ : Z < base) : ¬ v.ownBlock = some Z := fun hh => by
  have := owns_base h Z hh
  omega
theorem bind_eq {s : Option (List UInt8)} {α β : Type} {F : List UInt8 → Option β} {f : List UInt8 → Option α} {g : α → Option β} (h : ∀ r, F r = (f r).bind g) : s.bind F = (s.bind f).bind g := by
  cases s with
  | none => rfl
  | some b => exact h b
set_option maxRecDepth 100000 in
set_option maxHeartbeats 8000000 in
theorem dnode_rd (k : Nat) (ih : 0 < k → DNodeR k) : DNodeR (k + 1) := by
  intro d bs bv s w0 w D hdk h
  have hd : d ≤ 64 := by omega
  obtain ⟨w1, hw1⟩ : ∃ W, w.alloc (.cells #[.int .u64 0, .bool false, .string ⟨#[]⟩, .slice none 0 0, .string ⟨#[]⟩, .slice none 0 0] 32) = W := ⟨_, rfl⟩
  obtain ⟨Y, hY⟩ : ∃ Y, w.heap.size = Y := ⟨_, rfl⟩
  have E1 : Ext w w1 := by rw [← hw1]; exact (Ext.refl w).alloc _
  have bY : NBox w1 Y 32 #[.int .u64 0, .bool false, .string ⟨#[]⟩, .slice none 0 0, .string ⟨#[]⟩, .slice none 0 0] := by rw [← hw1, ← hY]; exact NBox.new _ _ _
  have hDS := h.more E1
  obtain ⟨a0, x0, hbx0, -⟩ := h.box
  have hDY : D < Y := by rw [← hY]; exact hbx0.lt
  have h0Y : w0.heap.size ≤ Y := by rw [← hY]; exact h.ext.size
  have hc : Calls Try.prog 86 #[.pointer (some ⟨D, 0, none⟩), .int .u64 18446744073709551615] w1 (NumC w0 w1 D bs bv (s.bind (smallP 18446744073709551616))) := dnumber_any 18446744073709551615 bs bv s w0 w1 D hDS
  have HN : Hid (s.bind (nodeP (k + 1)) = (s.bind (smallP 18446744073709551616)).bind (fun q => n1 k q.1 q.2)) := Lib.hid (bind_eq (n0_eq k))
  have HLT := Lib.hid (fun n r (hh : s.bind (smallP 18446744073709551616) = some (n, r)) => small_bind (most := 18446744073709551615) hh)
  obtain ⟨p, hp⟩ : ∃ p, s.bind (smallP 18446744073709551616) = p := ⟨_, rfl⟩
  rw [hp] at hc HN HLT
  obtain ⟨FIN, hFIN⟩ : ∃ q, s.bind (nodeP (k + 1)) = q := ⟨_, rfl⟩
  rw [hFIN] at HN
  show Calls Try.prog 60 _ w (DocC w0 w D bs bv (ndV w.heap.size) (s.bind (nodeP (k + 1))))
  rw [hFIN]
  have HE := Lib.hid E1
  have HW := Lib.hid hw1
  have HYY := Lib.hid hY
  have HBY := Lib.hid bY
  have HIH := Lib.hid ih
  clear hw1 hY bY hDS hbx0 h E1 ih hp hFIN
  go_enter Try.func60, Try.ntmps60
  go_upto_region 1 with fail
  rw [HW.out, HYY.out]
  go_wp2_with fail
  refine hc.mono ?_
  clear hc
  rintro e w2 hP
  obtain ⟨i, st, rfl, hi, hDS, hF, HG, -⟩ := NumC.one hP HLT.out
  have HN := Lib.hid (HN.out.trans (HG.out (n1 k)))
  clear HG HLT hP
  obtain ⟨w3, hw3⟩ : ∃ W, w2.alloc (.cells #[.int .u64 0, .bool false, .string ⟨#[]⟩, .slice none 0 0, .string ⟨#[]⟩, .slice none 0 0] 32) = W := ⟨_, rfl⟩
  obtain ⟨Z, hZ⟩ : ∃ Z, w2.heap.size = Z := ⟨_, rfl⟩
  have E3 : Ext w2 w3 := by rw [← hw3]; exact (Ext.refl w2).alloc _
  have bZ : NBox w3 Z 32 #[.int .u64 0, .bool false, .string ⟨#[]⟩, .slice none 0 0, .string ⟨#[]⟩, .slice none 0 0] := by rw [← hw3, ← hZ]; exact NBox.new _ _ _
  have bY2 := HBY.out.fr hF (by show ¬ Y = D; omega)
  have hYZ : Y < Z := by rw [← hZ]; exact bY2.lt
  obtain ⟨w4, hw4⟩ : ∃ W, ((((((w3.setCell ⟨Z, 0, none⟩ (.int .u64 (i : Int))).setCell ⟨Z, 1, none⟩ (.bool false)).setCell ⟨Z, 2, none⟩ (.string ⟨#[]⟩)).setCell ⟨Z, 3, none⟩ (.slice none 0 0)).setCell ⟨Z, 4, none⟩ (.string ⟨#[]⟩)).setCell ⟨Z, 5, none⟩ (.slice none 0 0)) = W := ⟨_, rfl⟩
  have F4 : Fr w3 w4 (isB Z) := by rw [← hw4]; exact Fr.six _ _ _ _ _ _ _ _
  have HZ := Lib.hid (show NBox w4 Z 32 #[.int .u64 (i : Int), .bool false, .string ⟨#[]⟩, .slice none 0 0, .string ⟨#[]⟩, .slice none 0 0] from by rw [← hw4]; exact bZ.six _ _ _ _ _ _)
  have HDS := Lib.hid ((hDS.more E3).fr F4 (fun q hq => by rw [show q = Z from hq]; omega) (by show ¬ D = Z; omega))
  have HBY2 := Lib.hid ((bY2.ext E3).fr F4 (by show ¬ Y = Z; omega))
  have HF : Hid (Fr w w4 (isB D)) := Lib.hid (Fr.new ((((Fr.of_ext HE.out _).trans (hF.trans (Fr.of_ext E3 _))).mono fun q hq => .inl hq).trans (F4.mono fun q hq => .inr (by rw [show q = Z from hq, HYY.out]; omega))))
  have y0 := bZ.cell 0
  have z0 := bZ.frozen 0
  have y1 := bZ.cell 1
  have z1 := bZ.frozen 1
  have y2 := bZ.cell 2
  have z2 := bZ.frozen 2
  have y3 := bZ.cell 3
  have z3 := bZ.frozen 3
  have y4 := bZ.cell 4
  have z4 := bZ.frozen 4
  have y5 := bZ.cell 5
  have z5 := bZ.frozen 5
  have HW3 := Lib.hid hw3
  have HZZ := Lib.hid hZ
  have HW4 := Lib.hid hw4
  clear hw3 hZ hw4 E3 bZ bY2 F4 hDS hF HBY
  go_upto_region 2 with (rw [HW3.out, HZZ.out]; clear HW3 HZZ)
  rw [HW4.out]
  clear HW4 y0 y1 y2 y3 y4 y5 z0 z1 z2 z3 z4 z5
  have hc := dflag_any bs bv st w0 w4 D HDS.out
  have HN' : Hid (FIN = ((st).bind (flagP)).bind (fun q => n2 k i q.1 q.2)) := Lib.hid (HN.out.trans (bind_eq (fun r => rfl)))
  obtain ⟨p, hp⟩ : ∃ p, (st).bind (flagP) = p := ⟨_, rfl⟩
  rw [hp] at hc HN'
  clear hp HN
  go_wp2_with fail
  refine hc.mono ?_
  clear hc
  rintro e w5 hP
  obtain ⟨f, st, v, rfl, hv, hDS, hF, HG⟩ := DocC.one hP
  unfold boolV at hv
  subst hv
  have HN := Lib.hid (HN'.out.trans (HG.out (n2 k i)))
  clear HG HN' hP
  have bZ2 := HZ.out.fr hF (by show ¬ Z = D; omega)
  obtain ⟨w6, hw⟩ : ∃ W, w5.setCell ⟨Z, 1, none⟩ (.bool f) = W := ⟨_, rfl⟩
  have F2 : Fr w5 w6 (isB Z) := by rw [← hw]; exact Fr.setCell _ _ _ _
  have HZ' := Lib.hid (show NBox w6 Z 32 #[.int .u64 (i : Int), .bool f, .string ⟨#[]⟩, .slice none 0 0, .string ⟨#[]⟩, .slice none 0 0] from by rw [← hw]; exact bZ2.set 1 _)
  have HDS' := Lib.hid (hDS.fr F2 (fun q hq => by rw [show q = Z from hq]; omega) (by show ¬ D = Z; omega))
  have HBY2' := Lib.hid ((HBY2.out.fr hF (by show ¬ Y = D; omega)).fr F2 (by show ¬ Y = Z; omega))
  have HF' : Hid (Fr w w6 (isB D)) := Lib.hid (Fr.new (((HF.out.trans hF).mono fun q hq => .inl hq).trans (F2.mono fun q hq => .inr (by rw [show q = Z from hq, HYY.out]; omega))))
  have y0 := bZ2.cell 1
  have z0 := bZ2.frozen 1
  have HW := Lib.hid hw
  clear hw F2 bZ2 HZ HDS HBY2 HF
  have HZ := HZ'
  have HDS := HDS'
  have HBY2 := HBY2'
  have HF := HF'
  clear HZ' HDS' HBY2' HF' hDS hF
  go_upto_region 3 with fail
  rw [HW.out]
  clear HW y0 z0
  have hc := dtext_any 64 (by decide) bs bv st w0 w6 D HDS.out
  have HN' : Hid (FIN = ((st).bind (textP 64)).bind (fun q => n3 k i f q.1 q.2)) := Lib.hid (HN.out.trans (bind_eq (fun r => rfl)))
  obtain ⟨p, hp⟩ : ∃ p, (st).bind (textP 64) = p := ⟨_, rfl⟩
  rw [hp] at hc HN'
  clear hp HN
  go_wp2_with fail
  refine hc.mono ?_
  clear hc
  rintro e w7 hP
  obtain ⟨l, st, v, rfl, hv, hDS, hF, HG⟩ := DocC.one hP
  obtain ⟨rfl, hl⟩ := hv
  have HN := Lib.hid (HN'.out.trans (HG.out (n3 k i f)))
  clear HG HN' hP
  have bZ2 := HZ.out.fr hF (by show ¬ Z = D; omega)
  obtain ⟨w8, hw⟩ : ∃ W, w7.setCell ⟨Z, 2, none⟩ (.string l) = W := ⟨_, rfl⟩
  have F2 : Fr w7 w8 (isB Z) := by rw [← hw]; exact Fr.setCell _ _ _ _
  have HZ' := Lib.hid (show NBox w8 Z 32 #[.int .u64 (i : Int), .bool f, .string l, .slice none 0 0, .string ⟨#[]⟩, .slice none 0 0] from by rw [← hw]; exact bZ2.set 2 _)
  have HDS' := Lib.hid (hDS.fr F2 (fun q hq => by rw [show q = Z from hq]; omega) (by show ¬ D = Z; omega))
  have HBY2' := Lib.hid ((HBY2.out.fr hF (by show ¬ Y = D; omega)).fr F2 (by show ¬ Y = Z; omega))
  have HF' : Hid (Fr w w8 (isB D)) := Lib.hid (Fr.new (((HF.out.trans hF).mono fun q hq => .inl hq).trans (F2.mono fun q hq => .inr (by rw [show q = Z from hq, HYY.out]; omega))))
  have y0 := bZ2.cell 2
  have z0 := bZ2.frozen 2
  have HW := Lib.hid hw
  clear hw F2 bZ2 HZ HDS HBY2 HF
  have HZ := HZ'
  have HDS := HDS'
  have HBY2 := HBY2'
  have HF := HF'
  clear HZ' HDS' HBY2' HF' hDS hF
  go_upto_region 4 with fail
  rw [HW.out]
  clear HW y0 z0
  have hc : Calls Try.prog 86 #[.pointer (some ⟨D, 0, none⟩), .int .u64 2048] w8 (NumC w0 w8 D bs bv ((st).bind (smallP 2049))) := dnumber_any 2048 bs bv (st) w0 w8 D HDS.out
  have HN' : Hid (FIN = ((st).bind (smallP 2049)).bind (fun q => nA k i f l [] q.1 q.2)) := Lib.hid (HN.out.trans (bind_eq (fun r => rfl)))
  have HLT := Lib.hid (fun n r (hh : (st).bind (smallP 2049) = some (n, r)) => small_bind (most := 2048) hh)
  obtain ⟨p, hp⟩ : ∃ p, (st).bind (smallP 2049) = p := ⟨_, rfl⟩
  rw [hp] at hc HN' HLT
  clear hp HN
  go_wp2_with fail
  refine hc.mono ?_
  clear hc
  rintro e w9 hP
  obtain ⟨n, st, rfl, hn, hDS, hF, HG, HZN⟩ := NumC.one hP HLT.out
  have HN := Lib.hid (HN'.out.trans (HG.out (nA k i f l [])))
  clear HG HN' hP HLT
  have HZ' := Lib.hid (HZ.out.fr hF (by show ¬ Z = D; omega))
  have HDS' := Lib.hid hDS
  have HBY2' := Lib.hid (HBY2.out.fr hF (by show ¬ Y = D; omega))
  have HF' : Hid (Fr w w9 (isB D)) := Lib.hid (HF.out.trans hF)
  have HSZ : Hid (Z < w8.heap.size ∧ w8.heap.size ≤ w9.heap.size) := Lib.hid ⟨HZ.out.lt, hF.size⟩
  obtain ⟨LO, hLO⟩ : ∃ q, w8.heap.size = q := ⟨_, rfl⟩
  rw [hLO] at HSZ
  clear hLO HZN
  clear HZ HDS HBY2 HF
  have HZ := HZ'
  have HDS := HDS'
  have HBY2 := HBY2'
  have HF := HF'
  clear HZ' HDS' HBY2' HF' hDS hF
  have q0 : (0 : Int) ≤ (n : Int) := by omega
  go_wp2_with fail
  go_loopw [7, 8] (fun s7 s8 wr => ∃ (j : Nat) (acc : List Atr) (st : Option (List UInt8)) (av : Value), s7 = .int .i64 (j : Int) ∧ j ≤ n ∧ acc.length = j ∧ rowV2 RdAtr 78 2 LO acc av wr ∧ LO ≤ wr.heap.size ∧ NBox wr Z 32 #[.int .u64 (i : Int), .bool f, .string l, av, .string ⟨#[]⟩, .slice none 0 0] ∧ NBox wr Y 32 #[.int .u64 0, .bool false, .string ⟨#[]⟩, .slice none 0 0, .string ⟨#[]⟩, .slice none 0 0] ∧ DS w0 wr D bs bv st ∧ Fr w wr (isB D) ∧ Hid (FIN = st.bind (nA k i f l acc (n - j)))) (fun s7 _ _ => n - (intOf s7).toNat)
  case atStart => exact ⟨0, [], st, _, rfl, Nat.zero_le _, rfl, ⟨[], ⟨rfl, .inl ⟨rfl, rfl⟩⟩, Late.all fun _ => rfl⟩, HSZ.out.2, HZ.out, HBY2.out, HDS.out, HF.out, HN⟩
  case round =>
    clear HDS HF HN HZ HBY2
    obtain ⟨j, acc, st, av, rfl, hj, hal, hRV, hsz, hZ, hY, hDS, hF, HN⟩ := hrel
    have HRV := Lib.hid hRV
    obtain ⟨us, hO, hLT⟩ := hRV
    have q1 : (0 : Int) ≤ (j : Int) := by omega
    obtain ⟨a, x, hb, ha, hs⟩ := hDS.box
    have b2 := hb.cell 2
    have hnoD := hb.not_own hO (by decide)
    have HO := Lib.hid hO
    have HLT := Lib.hid (atr_cells acc us (Late.now hLT))
    have HF := Lib.hid hF
    have HDS := Lib.hid hDS
    have HZ := Lib.hid hZ
    have HBY2 := Lib.hid hY
    have HSL := Lib.hid hsz
    have HAL : Hid (acc.length = j) := Lib.hid hal
    have hal2 : acc.length ≤ 2048 := by omega
    obtain ⟨vA, vC, rfl, -⟩ := RdS.of_owns hO
    have HNO := Lib.hid hnoD
    clear hO hDS hF hal hb hLT hZ hY hnoD hsz
    rcases Nat.lt_or_ge j n with hlt | hlt
    · have q2 : (j : Int) < (n : Int) := by omega
      cases st with
      | none =>
        subst hs
        have HLA := Lib.hid HRV.out.atrs
        clear HNO HAL HLT HO HRV
        have HN2 : Hid (FIN = (none : Option (List UInt8)).bind (nU k i f l acc)) := HN
        obtain ⟨st, hst⟩ : ∃ q : Option (List UInt8), none = q := ⟨_, rfl⟩
        rw [hst] at HDS HN2
        clear HN hst
        have HN := HN2
        clear HN2
        go_upto_region 11 with fail
        clear b2
        have zl := HZ.out.cell 1
        cases f with
        | true =>
          have hc := dtext_any 2048 (by decide) bs bv st w0 wr D HDS.out
          have HN' : Hid (FIN = ((st).bind (textP 2048)).bind (fun q => (fun (t : ByteArray) (r : List UInt8) => some (Nd.mk i true l acc t [], r)) q.1 q.2)) := Lib.hid (HN.out.trans (bind_eq (fun r => rfl)))
          obtain ⟨p, hp⟩ : ∃ p, (st).bind (textP 2048) = p := ⟨_, rfl⟩
          rw [hp] at hc HN'
          clear hp HN
          go_wp2_with fail
          refine hc.mono ?_
          clear hc
          rintro e wt hP
          obtain ⟨t, st, v, rfl, hv, hDS, hF, HG⟩ := DocC.one hP
          obtain ⟨rfl, htl⟩ := hv
          clear zl
          have HN := Lib.hid (HN'.out.trans (HG.out ((fun (t : ByteArray) (r : List UInt8) => some (Nd.mk i true l acc t [], r)))))
          clear HG HN' hP
          have HLA' := Lib.hid (HLA.out.to (S' := old LO) hF (fun q _ hh => hh.elim (fun h => by rw [show q = D from h]; have := HSZ.out; show D < LO; omega) id))
          clear HLA
          have HLA := HLA'
          clear HLA'
          have bZ2 := HZ.out.fr hF (by show ¬ Z = D; omega)
          obtain ⟨wu, hw⟩ : ∃ W, wt.setCell ⟨Z, 4, none⟩ (.string t) = W := ⟨_, rfl⟩
          have F2 : Fr wt wu (isB Z) := by rw [← hw]; exact Fr.setCell _ _ _ _
          have HZ' := Lib.hid (show NBox wu Z 32 #[.int .u64 (i : Int), .bool true, .string l, .slice vA acc.length vC, .string t, .slice none 0 0] from by rw [← hw]; exact bZ2.set 4 _)
          have HDS' := Lib.hid (hDS.fr F2 (fun q hq => by rw [show q = Z from hq]; omega) (by show ¬ D = Z; omega))
          have HBY2' := Lib.hid ((HBY2.out.fr hF (by show ¬ Y = D; omega)).fr F2 (by show ¬ Y = Z; omega))
          have HF' : Hid (Fr w wu (isB D)) := Lib.hid (Fr.new (((HF.out.trans hF).mono fun q hq => .inl hq).trans (F2.mono fun q hq => .inr (by rw [show q = Z from hq, HYY.out]; omega))))
          have y0 := bZ2.cell 4
          have z0 := bZ2.frozen 4
          have HW := Lib.hid hw
          have HLA' := Lib.hid (HLA.out.to (S' := old LO) F2 (fun q _ hh => hh.elim (fun h => by rw [show q = Z from h]; have := HSZ.out; show Z < LO; omega) id))
          clear HLA
          have HLA := HLA'
          clear HLA'
          clear hw F2 bZ2 HZ HDS HBY2 HF
          have HZ := HZ'
          have HDS := HDS'
          have HBY2 := HBY2'
          have HF := HF'
          clear HZ' HDS' HBY2' HF' hDS hF
          go_upto_region 13 with fail
          rw [HW.out]
          clear HW y0 z0
          have y0 := HBY2.out.cell 0
          have f0 := HBY2.out.frozen 0
          have z0 := HZ.out.cell 0
          have y1 := HBY2.out.cell 1
          have f1 := HBY2.out.frozen 1
          have z1 := HZ.out.cell 1
          have y2 := HBY2.out.cell 2
          have f2 := HBY2.out.frozen 2
          have z2 := HZ.out.cell 2
          have y3 := HBY2.out.cell 3
          have f3 := HBY2.out.frozen 3
          have z3 := HZ.out.cell 3
          have y4 := HBY2.out.cell 4
          have f4 := HBY2.out.frozen 4
          have z4 := HZ.out.cell 4
          have y5 := HBY2.out.cell 5
          have f5 := HBY2.out.frozen 5
          have z5 := HZ.out.cell 5
          go_wp2_with fail
          refine bodyPost_ret (results_st rfl _ rfl (HBY2.out.six _ _ _ _ _ _) Try.underlying32 rfl info32) rfl ?_
          have F2 := Fr.six wu Y (.int .u64 (i : Int)) (.bool true) (.string l) (.slice vA acc.length vC) (.string t) (.slice none 0 0)
          have hwL : w.heap.size ≤ LO := by have := HSZ.out; rw [HYY.out]; omega
          refine DocC.fin (x := .mk i true l acc t []) (Fr.new ((HF.out.mono fun q hq => .inl hq).trans (F2.mono fun q hq => .inr (by rw [show q = Y from hq, HYY.out]; omega)))) HN.out ?_ (HDS.out.fr F2 (fun q hq => by rw [show q = Y from hq]; omega) (by show ¬ D = Y; omega))
          have a1 : Late (old w.heap.size) (fun W => RdA W acc (.slice vA acc.length vC)) _ := HLA.out.to F2 (fun q hq hh => by
            rcases hh with hh | hh
            · rw [show q = Y from hh]; have := HSZ.out; show Y < LO; omega
            · exact Nat.lt_of_lt_of_le (show q < w.heap.size from hh) hwL)
          exact (a1.and (show Late (old w.heap.size) (fun W => RdK W [] (.slice none 0 0)) _ from Late.all fun W => ⟨none, 0, rfl, Nat.le_refl _, by decide, fun h => absurd rfl h⟩)).imp fun W ⟨h1, h2⟩ => Nd.rd_shut (t := .mk (i : Int) true l acc t []) (Int.natCast_nonneg i) (by show (i : Int) ≤ _; omega) hl htl h1 h2
        | false =>
          have hc : Calls Try.prog 86 #[.pointer (some ⟨D, 0, none⟩), .int .u64 1048576] wr (NumC w0 wr D bs bv ((st).bind (smallP 1048577))) := dnumber_any 1048576 bs bv (st) w0 wr D HDS.out
          have HN' : Hid (FIN = ((st).bind (smallP 1048577)).bind (fun q => nN k i l acc q.1 q.2)) := Lib.hid (HN.out.trans (bind_eq (fun r => nU_false k i l acc r)))
          have HLT := Lib.hid (fun n r (hh : (st).bind (smallP 1048577) = some (n, r)) => small_bind (most := 1048576) hh)
          obtain ⟨p, hp⟩ : ∃ p, (st).bind (smallP 1048577) = p := ⟨_, rfl⟩
          rw [hp] at hc HN' HLT
          clear hp HN
          go_wp2_with fail
          refine hc.mono ?_
          clear hc
          rintro e wB hP
          obtain ⟨m, st, rfl, hm, hDS, hF, HG, HZN⟩ := NumC.one hP HLT.out
          have HN := Lib.hid (HN'.out.trans (HG.out (nN k i l acc)))
          clear HG HN' hP HLT
          have HZ' := Lib.hid (HZ.out.fr hF (by show ¬ Z = D; omega))
          have HDS' := Lib.hid hDS
          have HBY2' := Lib.hid (HBY2.out.fr hF (by show ¬ Y = D; omega))
          have HF' : Hid (Fr w wB (isB D)) := Lib.hid (HF.out.trans hF)
          have HLA' := Lib.hid (HLA.out.to (S' := old LO) hF (fun q _ hh => hh.elim (fun h => by rw [show q = D from h]; have := HSZ.out; show D < LO; omega) id))
          have HSL' := Lib.hid (Nat.le_trans HSL.out hF.size)
          clear HLA HSL zl HZN
          have HLA := HLA'
          have HSL := HSL'
          clear HLA' HSL'
          clear HZ HDS HBY2 HF
          have HZ := HZ'
          have HDS := HDS'
          have HBY2 := HBY2'
          have HF := HF'
          clear HZ' HDS' HBY2' HF' hDS hF
          have qm : (0 : Int) ≤ (m : Int) := by omega
          rcases Nat.eq_zero_or_pos m with h0 | h0
          · have t1 : decide (0 < m) = false := decide_eq_false (by omega)
            have t1' : decide ((0 : Int) < (m : Int)) = false := decide_eq_false (by omega)
            have HN2 : Hid (FIN = st.bind (fun r => some (Nd.mk i false l acc ⟨#[]⟩ [], r))) := Lib.hid (HN.out.trans (congrArg (fun g => st.bind g) (funext fun r => by
              unfold nN
              rw [if_pos (by omega), h0]
              exact nK_zero k i l acc [] r)))
            clear HN
            have HN := HN2
            clear HN2
            go_wp2_with fail
            go_loopw [9] (fun s9 wr => s9 = .int .i64 0 ∧ wr = wB) (fun _ _ => 0)
            case atStart => exact ⟨rfl, rfl⟩
            case round =>
              obtain ⟨rfl, rfl⟩ := hrel
              go_upto_region 21 with fail
              have y0 := HBY2.out.cell 0
              have f0 := HBY2.out.frozen 0
              have z0 := HZ.out.cell 0
              have y1 := HBY2.out.cell 1
              have f1 := HBY2.out.frozen 1
              have z1 := HZ.out.cell 1
              have y2 := HBY2.out.cell 2
              have f2 := HBY2.out.frozen 2
              have z2 := HZ.out.cell 2
              have y3 := HBY2.out.cell 3
              have f3 := HBY2.out.frozen 3
              have z3 := HZ.out.cell 3
              have y4 := HBY2.out.cell 4
              have f4 := HBY2.out.frozen 4
              have z4 := HZ.out.cell 4
              have y5 := HBY2.out.cell 5
              have f5 := HBY2.out.frozen 5
              have z5 := HZ.out.cell 5
              go_wp2_with fail
              refine bodyPost_ret (results_st rfl _ rfl (HBY2.out.six _ _ _ _ _ _) Try.underlying32 rfl info32) rfl ?_
              have F2 := Fr.six wr Y (.int .u64 (i : Int)) (.bool false) (.string l) (.slice vA acc.length vC) (.string ⟨#[]⟩) (.slice none 0 0)
              have hwL : w.heap.size ≤ LO := by have := HSZ.out; rw [HYY.out]; omega
              refine DocC.fin (x := .mk i false l acc ⟨#[]⟩ []) (Fr.new ((HF.out.mono fun q hq => .inl hq).trans (F2.mono fun q hq => .inr (by rw [show q = Y from hq, HYY.out]; omega)))) HN.out ?_ (HDS.out.fr F2 (fun q hq => by rw [show q = Y from hq]; omega) (by show ¬ D = Y; omega))
              have a1 : Late (old w.heap.size) (fun W => RdA W acc (.slice vA acc.length vC)) _ := HLA.out.to F2 (fun q hq hh => by
                rcases hh with hh | hh
                · rw [show q = Y from hh]; have := HSZ.out; show Y < LO; omega
                · exact Nat.lt_of_lt_of_le (show q < w.heap.size from hh) hwL)
              exact (a1.and (show Late (old w.heap.size) (fun W => RdK W [] (.slice none 0 0)) _ from Late.all fun W => ⟨none, 0, rfl, Nat.le_refl _, by decide, fun h => absurd rfl h⟩)).imp fun W ⟨h1, h2⟩ => Nd.rd_shut (t := .mk (i : Int) false l acc ⟨#[]⟩ []) (Int.natCast_nonneg i) (by show (i : Int) ≤ _; omega) hl (by show (0 : Nat) ≤ maxLen; decide) h1 h2
          have t1 : decide (0 < m) = true := decide_eq_true h0
          have t1' : decide ((0 : Int) < (m : Int)) = true := decide_eq_true (by omega)
          by_cases hbad : d < 64 ∧ m ≤ 512
          · obtain ⟨hd2, hm2⟩ := hbad
            have t2 : decide (64 ≤ d) = false := decide_eq_false (by omega)
            have t2' : decide ((64 : Int) ≤ (d : Int)) = false := decide_eq_false (by omega)
            have t3 : decide (512 < m) = false := decide_eq_false (by omega)
            have t3' : decide ((512 : Int) < (m : Int)) = false := decide_eq_false (by omega)
            have HN2 : Hid (FIN = st.bind (nK k i l acc [] m)) := Lib.hid (HN.out.trans (congrArg (fun g => st.bind g) (funext fun r => by
              unfold nN
              rw [if_pos (by omega)])))
            clear HN
            have HN := HN2
            clear HN2
            obtain ⟨LO2, hLO2⟩ : ∃ q, wB.heap.size = q := ⟨_, rfl⟩
            have HSZ2 := Lib.hid (show LO ≤ LO2 by rw [← hLO2]; exact HSL.out)
            have HLO2 := Lib.hid hLO2
            have HZ0 := HZ
            have HFw := HF
            clear hLO2 HF HSL
            go_wp2_with fail
            go_loopw [9] (fun s9 wr => ∃ (j : Nat) (kacc : List Nd) (st : Option (List UInt8)) (kv : Value), s9 = .int .i64 (j : Int) ∧ j ≤ m ∧ kacc.length = j ∧ rowV2 RdNd 32 6 LO2 kacc kv wr ∧ NBox wr Z 32 #[.int .u64 (i : Int), .bool false, .string l, .slice vA acc.length vC, .string ⟨#[]⟩, kv] ∧ DS w0 wr D bs bv st ∧ Fr wB wr (fun q => q = D ∨ q = Z) ∧ Hid (FIN = st.bind (nK k i l acc kacc (m - j)))) (fun s9 _ => m - (intOf s9).toNat)
            case atStart => exact ⟨0, [], st, _, rfl, Nat.zero_le _, rfl, ⟨[], ⟨rfl, .inl ⟨rfl, rfl⟩⟩, Late.all fun _ => rfl⟩, HZ.out, HDS.out, Fr.refl _ _, HN⟩
            case round =>
              clear HDS HN HZ
              obtain ⟨j, kacc, st, kv, rfl, hj, hal, hRV, hZ, hDS, hF, HN⟩ := hrel
              have HRV := Lib.hid hRV
              obtain ⟨us, hO, hLT⟩ := hRV
              have q1 : (0 : Int) ≤ (j : Int) := by omega
              obtain ⟨a, x, hb, ha, hs⟩ := hDS.box
              have b2 := hb.cell 2
              have hnoD := hb.not_own hO (by decide)
              have HO := Lib.hid hO
              have HLT := Lib.hid hLT
              have HF := Lib.hid hF
              have HDS := Lib.hid hDS
              have HZ := Lib.hid hZ
              have HAL : Hid (kacc.length = j) := Lib.hid hal
              have hal2 : kacc.length ≤ 512 := by omega
              obtain ⟨kA, kC, rfl, -⟩ := RdS.of_owns hO
              have HNO := Lib.hid hnoD
              clear hO hDS hF hal hb hLT hZ hnoD
              rcases Nat.lt_or_ge j m with hlt | hlt
              · have q2 : (j : Int) < (m : Int) := by omega
                cases st with
                | none =>
                  subst hs
                  clear HNO HAL HLT HO
                  have HLK := Lib.hid HRV.out.kids
                  have HBY2' := Lib.hid (HBY2.out.fr HF.out (by rintro (hh | hh) <;> omega))
                  have HLA' := Lib.hid (HLA.out.to (S' := old LO) HF.out (fun q _ hh => by
                    rcases hh with (hh | hh) | hh
                    · rw [hh]; have := HSZ.out; show D < LO; omega
                    · rw [hh]; have := HSZ.out; show Z < LO; omega
                    · exact hh))
                  have HF' : Hid (Fr w wr (isB D)) := Lib.hid (Fr.new ((HFw.out.mono fun q hq => .inl hq).trans (HF.out.mono fun q hq => hq.elim (fun h => .inl h) (fun h => .inr (by rw [h, HYY.out]; omega)))))
                  clear HBY2 HLA HF HRV
                  have HBY2 := HBY2'
                  have HLA := HLA'
                  have HF := HF'
                  clear HBY2' HLA' HF'
                  have HN : Hid (FIN = (none : Option (List UInt8)).bind (fun r => some (Nd.mk i false l acc ⟨#[]⟩ kacc, r))) := HN
                  go_upto_region 21 with fail
                  clear b2
                  have y0 := HBY2.out.cell 0
                  have f0 := HBY2.out.frozen 0
                  have z0 := HZ.out.cell 0
                  have y1 := HBY2.out.cell 1
                  have f1 := HBY2.out.frozen 1
                  have z1 := HZ.out.cell 1
                  have y2 := HBY2.out.cell 2
                  have f2 := HBY2.out.frozen 2
                  have z2 := HZ.out.cell 2
                  have y3 := HBY2.out.cell 3
                  have f3 := HBY2.out.frozen 3
                  have z3 := HZ.out.cell 3
                  have y4 := HBY2.out.cell 4
                  have f4 := HBY2.out.frozen 4
                  have z4 := HZ.out.cell 4
                  have y5 := HBY2.out.cell 5
                  have f5 := HBY2.out.frozen 5
                  have z5 := HZ.out.cell 5
                  go_wp2_with fail
                  refine bodyPost_ret (results_st rfl _ rfl (HBY2.out.six _ _ _ _ _ _) Try.underlying32 rfl info32) rfl ?_
                  have F2 := Fr.six wr Y (.int .u64 (i : Int)) (.bool false) (.string l) (.slice vA acc.length vC) (.string ⟨#[]⟩) (.slice kA kacc.length kC)
                  have hwL : w.heap.size ≤ LO := by have := HSZ.out; rw [HYY.out]; omega
                  refine DocC.fin (x := .mk i false l acc ⟨#[]⟩ kacc) (Fr.new ((HF.out.mono fun q hq => .inl hq).trans (F2.mono fun q hq => .inr (by rw [show q = Y from hq, HYY.out]; omega)))) HN.out ?_ (HDS.out.fr F2 (fun q hq => by rw [show q = Y from hq]; omega) (by show ¬ D = Y; omega))
                  have a1 : Late (old w.heap.size) (fun W => RdA W acc (.slice vA acc.length vC)) _ := HLA.out.to F2 (fun q hq hh => by
                    rcases hh with hh | hh
                    · rw [show q = Y from hh]; have := HSZ.out; show Y < LO; omega
                    · exact Nat.lt_of_lt_of_le (show q < w.heap.size from hh) hwL)
                  have a2 : Late (old w.heap.size) (fun W => RdK W kacc (.slice kA kacc.length kC)) _ := HLK.out.to F2 (fun q hq hh => by
                    rcases hh with hh | hh
                    · rw [show q = Y from hh]; have := HSZ.out; have := HSZ2.out; show Y < LO2; omega
                    · exact Nat.lt_of_lt_of_le (show q < w.heap.size from hh) (Nat.le_trans hwL HSZ2.out))
                  exact (a1.and a2).imp fun W ⟨h1, h2⟩ => Nd.rd_shut (t := .mk (i : Int) false l acc ⟨#[]⟩ kacc) (Int.natCast_nonneg i) (by show (i : Int) ≤ _; omega) hl (by show (0 : Nat) ≤ maxLen; decide) h1 h2
                | some b =>
                  obtain ⟨rfl, -⟩ := hs
                  have HN2 : Hid (FIN = (nodeP k b).bind (fun q => nK k i l acc (kacc ++ [q.1]) (m - (j + 1)) q.2)) := Lib.hid (HN.out.trans ((congrArg (fun q => nK k i l acc kacc q b) (show m - j = (m - (j + 1)) + 1 by omega)).trans (nK_step k i l acc kacc (m - (j + 1)) b)))
                  clear HRV HN
                  have HN := HN2
                  clear HN2
                  have hk0 : 0 < k := by omega
                  have HSW : Hid (LO2 ≤ wr.heap.size) := Lib.hid (by rw [← HLO2.out]; exact HF.out.size)
                  go_upto_region 20 with fail
                  clear b2
                  obtain ⟨c0, hc0⟩ : ∃ c0, wr.drew = c0 := ⟨_, rfl⟩
                  have hX0 : Ext wr c0 := by rw [← hc0]; exact (Ext.refl _).drew
                  have HOW := HO
                  have HO' := Lib.hid (owns_ext hX0 HO.out)
                  have HZ' := Lib.hid (HZ.out.ext hX0)
                  have HDS' := Lib.hid (HDS.out.more hX0)
                  have HF' := Lib.hid (HF.out.trans (Fr.of_ext hX0 _))
                  have HLT' := Lib.hid (HLT.out.ext hX0)
                  have HSL := Lib.hid hX0.size
                  clear HO
                  have HO := HO'
                  clear HO'
                  clear HZ
                  have HZ := HZ'
                  clear HZ'
                  clear HDS
                  have HDS := HDS'
                  clear HDS'
                  clear HF
                  have HF := HF'
                  clear HF'
                  clear HLT
                  have HLT := HLT'
                  clear HLT'
                  refine wp_region_held_drew (S := fun _ => True) (by kernel_rfl) trivial (fun hHeld => ?_)
                  rw [hc0]
                  clear hc0 hX0
                  refine wpAnyH_take (i := 0) (oi := ⟨_, _, _, _, _, _⟩) (v := ?_) rfl (by kernel_rfl) (by kernel_rfl) (by kernel_rfl) (fun _ _ _ h => h) (Or.inl ⟨by rfl, ?_⟩) hHeld ?_
                  rotate_left
                  · intro w hSw
                    try dsimp only at hSw
                    go_simp
                    all_goals (first | with_reducible rfl | rw [if_pos (by omega)])
                  try simp only [Act.put, List.setIfInBounds_toArray, List.set_cons_zero, List.set_cons_succ]
                  refine wpAnyH_take (i := 2) (oi := ⟨_, _, _, _, _, _⟩) (v := ?_) rfl (by kernel_rfl) (by kernel_rfl) (by kernel_rfl) (fun _ _ _ h => h) (Or.inl ⟨by rfl, ?_⟩) hHeld ?_
                  rotate_left
                  · intro w hSw
                    try dsimp only at hSw
                    go_simp
                    all_goals (first | with_reducible rfl | rw [if_pos (by omega)])
                  try simp only [Act.put, List.setIfInBounds_toArray, List.set_cons_zero, List.set_cons_succ]
                  refine wpAnyH_take (i := 3) (oi := ⟨_, _, _, _, _, _⟩) (v := ?_) rfl (by kernel_rfl) (by kernel_rfl) (by kernel_rfl) (fun _ _ _ h => h) (Or.inl ⟨by rfl, ?_⟩) hHeld ?_
                  rotate_left
                  · intro w hSw
                    try dsimp only at hSw
                    go_simp
                    all_goals (first | with_reducible rfl | rw [if_pos (by omega)])
                  try simp only [Act.put, List.setIfInBounds_toArray, List.set_cons_zero, List.set_cons_succ]
                  refine wpAnyH_take (i := 4) (oi := ⟨_, _, _, _, _, _⟩) (v := ?_) rfl (by kernel_rfl) (by kernel_rfl) (by kernel_rfl) (fun _ _ _ h => h) (Or.inl ⟨by rfl, ?_⟩) hHeld ?_
                  rotate_left
                  · intro w hSw
                    try dsimp only at hSw
                    go_simp
                    all_goals (first | with_reducible rfl | rw [if_pos (by omega)])
                  try simp only [Act.put, List.setIfInBounds_toArray, List.set_cons_zero, List.set_cons_succ]
                  refine wpAnyH_ready (rs := [1, 5]) (by kernel_rfl) (by simp) ?_
                  refine AllReadyH.cons (o := ⟨_, _, _, _, _, _⟩) rfl (fun K' hK => ?_) (AllReadyH.cons (o := ⟨_, _, _, _, _, _⟩) rfl (fun K' hK => ?_) (AllReadyH.nil))
                  ·
                    have yk := HZ.out.cell 5
                    go_simp
                    refine hK.out _ _ trivial (fun hHeld => ?_)
                    clear hK K' yk
                    try simp only [Act.put, List.setIfInBounds_toArray, List.set_cons_zero, List.set_cons_succ]
                    refine wpAnyH_ready (rs := [5]) (by kernel_rfl) (by simp) ?_
                    refine AllReadyH.cons (o := ⟨_, _, _, _, _, _⟩) rfl (fun K' hK => ?_) (AllReadyH.nil)
                    have hc := HIH.out hk0 (d + 1) bs bv (some b) w0 c0 D (by omega) HDS.out
                    have hcast : ((d + 1 : Nat) : Int) = IntKind.i64.wrap ((d : Int) + 1) := by rw [IntWalk.i64_in _ (by omega)]; omega
                    rw [hcast] at hc
                    clear hcast
                    obtain ⟨p, hp⟩ : ∃ p, (some b).bind (nodeP k) = p := ⟨_, rfl⟩
                    have HN3 : Hid (FIN = p.bind (fun q => nK k i l acc (kacc ++ [q.1]) (m - (j + 1)) q.2)) := Lib.hid (by rw [← hp]; exact HN.out)
                    rw [hp] at hc
                    clear hp HN
                    go_simp
                    go_at_call 60
                    refine hc.mono ?_
                    clear hc
                    rintro e w_2 hP
                    obtain ⟨y, st, v, rfl, hv, hDS, hF, HG⟩ := DocC.one hP
                    obtain ⟨e0, e1, e2, e3, e4, e5, rfl, ⟨o0, o1, o2, o3, o4, o5⟩, hLY⟩ := ndV_gets _ _ _ _ hv
                    have HN : Hid (FIN = st.bind (nK k i l acc (kacc ++ [y]) (m - (j + 1)))) := Lib.hid (HN3.out.trans (HG.out (fun z => nK k i l acc (kacc ++ [z]) (m - (j + 1)))))
                    have HZ' := Lib.hid (HZ.out.fr hF (by show ¬ Z = D; omega))
                    have HO' := Lib.hid (owns_fr hF HO.out (fun g hg hk => HNO.out (by rw [hg]; exact congrArg some hk)))
                    have HF' := Lib.hid (HF.out.trans (hF.mono fun q hq => .inl hq))
                    have HLT' := Lib.hid (HLT.out.to (S' := rowS LO2 (.slice kA kacc.length kC)) hF (fun q _ hh => hh.elim (fun h => .inl (by rw [show q = D from h]; have := HSZ.out; have := HSZ2.out; omega)) id))
                    have HLY := Lib.hid (hLY.low HSL.out)
                    have HDS' := Lib.hid hDS
                    have HONES : Hid (∀ u ∈ [e0, e1, e2, e3, e4, e5], u.oneCell' = true) := Lib.hid (by simp [o0, o1, o2, o3, o4, o5])
                    have HSL' := Lib.hid (Nat.le_trans HSL.out hF.size)
                    clear hP HG HN3 hv hLY hDS hF o0 o1 o2 o3 o4 o5
                    clear HZ
                    have HZ := HZ'
                    clear HZ'
                    clear HO
                    have HO := HO'
                    clear HO'
                    clear HF
                    have HF := HF'
                    clear HF'
                    clear HLT
                    have HLT := HLT'
                    clear HLT'
                    clear HDS
                    have HDS := HDS'
                    clear HDS'
                    clear HSL
                    have HSL := HSL'
                    clear HSL'
                    refine hK.out _ _ trivial (fun hHeld => ?_)
                    clear hK K'
                    try simp only [Act.put, List.setIfInBounds_toArray, List.set_cons_zero, List.set_cons_succ]
                    refine wpAnyH_ready (rs := [6]) (by kernel_rfl) (by simp) ?_
                    refine AllReadyH.cons (o := ⟨_, _, _, _, _, _⟩) rfl (fun K' hK => ?_) (AllReadyH.nil)
                    obtain ⟨w_3, hw3⟩ : ∃ W, w_2.alloc (.cells #[e0, e1, e2, e3, e4, e5] 32) = W := ⟨_, rfl⟩
                    obtain ⟨S, hS⟩ : ∃ S, w_2.heap.size = S := ⟨_, rfl⟩
                    have X3 : Ext w_2 w_3 := by rw [← hw3]; exact (Ext.refl _).alloc _
                    have HRD : Hid (RdS w_3 6 1 [e0, e1, e2, e3, e4, e5] (.slice (some ⟨S, 0, none⟩) 1 1)) := Lib.hid (by rw [← hw3, ← hS]; exact RdS.one (cs := #[e0, e1, e2, e3, e4, e5]) rfl)
                    have HO' := Lib.hid (owns_ext X3 HO.out)
                    have HZ' := Lib.hid (HZ.out.ext X3)
                    have HDS' := Lib.hid (HDS.out.more X3)
                    have HF' := Lib.hid (HF.out.trans (Fr.of_ext X3 _))
                    have HLT' := Lib.hid (HLT.out.ext X3)
                    have HLY' := Lib.hid (HLY.out.ext X3)
                    have HSL' := Lib.hid (Nat.le_trans HSL.out X3.size)
                    have HW3 := Lib.hid hw3
                    have HSS := Lib.hid hS
                    clear hw3 hS X3
                    clear HZ
                    have HZ := HZ'
                    clear HZ'
                    clear HO
                    have HO := HO'
                    clear HO'
                    clear HF
                    have HF := HF'
                    clear HF'
                    clear HLT
                    have HLT := HLT'
                    clear HLT'
                    clear HDS
                    have HDS := HDS'
                    clear HDS'
                    clear HSL
                    have HSL := HSL'
                    clear HSL'
                    clear HLY
                    have HLY := HLY'
                    clear HLY'
                    go_simp
                    rw [HW3.out, HSS.out]
                    refine hK.out _ _ trivial (fun hHeld => ?_)
                    clear hK K' HW3 HSS
                    try simp only [Act.put, List.setIfInBounds_toArray, List.set_cons_zero, List.set_cons_succ]
                    refine wpAnyH_ready (rs := [7]) (by kernel_rfl) (by simp) ?_
                    refine AllReadyH.cons (o := ⟨_, _, _, _, _, _⟩) rfl (fun K' hK => ?_) (AllReadyH.nil)
                    refine wp_append_rd rfl T30 (by rfl) HO.out (by rfl) HRD.out HONES.out (by omega) (by simp only [maxLen]; omega) (Nat.le_trans HSW.out HSL.out) ?_
                    intro v4 w_4 O1 hg hat
                    have F5 := Fr.grown hg
                    have hgb : ∀ q, (Value.slice kA kacc.length kC).ownBlock = some q → LO2 ≤ q := fun q hq => owns_base HO.out q hq
                    have HZ4 := Lib.hid (HZ.out.fr F5 (fun hh => by have := hgb Z hh; have := HSZ.out; have := HSZ2.out; omega))
                    have HRV := Lib.hid (rowV2.add HOW.out HLT.out HLY.out rfl HSW.out hg hat O1)
                    have HDS4 := Lib.hid (HDS.out.fr F5 (fun q hq => Nat.le_trans (by have := HSZ.out; have := HSZ2.out; omega) (hgb q hq)) HNO.out)
                    have HF4 : Hid (Fr wB w_4 (fun q => q = D ∨ q = Z)) := Lib.hid (Fr.new ((HF.out.mono fun q hq => .inl hq).trans (F5.mono fun q hq => .inr (by rw [HLO2.out]; exact hgb q hq))))
                    obtain ⟨qA, qC, rfl, -⟩ := RdS.of_owns O1
                    clear F5 hgb hg hat O1 HDS HF HLT HLY HRD HONES HZ
                    refine hK.out _ _ trivial (fun hHeld => ?_)
                    clear hK K'
                    try simp only [Act.put, List.setIfInBounds_toArray, List.set_cons_zero, List.set_cons_succ]
                    refine wpAnyH_take (i := 8) (oi := ⟨_, _, _, _, _, _⟩) (v := ?_) rfl (by kernel_rfl) (by kernel_rfl) (by kernel_rfl) (fun _ _ _ h => h) (Or.inl ⟨by rfl, ?_⟩) hHeld ?_
                    rotate_left
                    · intro w hSw
                      try dsimp only at hSw
                      go_simp
                      all_goals (first | with_reducible rfl | rw [if_pos (by omega)])
                    try simp only [Act.put, List.setIfInBounds_toArray, List.set_cons_zero, List.set_cons_succ]
                    refine wpAnyH_ready (rs := [9]) (by kernel_rfl) (by simp) ?_
                    refine AllReadyH.cons (o := ⟨_, _, _, _, _, _⟩) rfl (fun K' hK => ?_) (AllReadyH.nil)
                    have y5 := HZ4.out.cell 5
                    have z5 := HZ4.out.frozen 5
                    go_simp
                    refine hK.out _ _ trivial (fun hHeld => ?_)
                    clear hK K' y5 z5
                    try simp only [Act.put, List.setIfInBounds_toArray, List.set_cons_zero, List.set_cons_succ]
                    refine wpAnyH_done (by kernel_rfl) ?_ _
                    clear hHeld
                    go_wp2_with fail
                    have F6 := Fr.setCell w_4 Z 5 (.slice qA (kacc.length + 1) qC)
                    refine ⟨⟨j + 1, kacc ++ [y], st, .slice qA (kacc.length + 1) qC, by go_num, by omega, by rw [List.length_append, HAL.out]; rfl, HRV.out.fr F6 (by have := HSZ.out; have := HSZ2.out; omega), HZ4.out.set 5 _, HDS4.out.fr F6 (fun q hq => by rw [show q = Z from hq]; omega) (by show ¬ D = Z; omega), HF4.out.trans (F6.mono fun q hq => .inr hq), HN⟩, by simp [intOf]; omega⟩
                  ·
                    have hc := HIH.out hk0 (d + 1) bs bv (some b) w0 c0 D (by omega) HDS.out
                    have hcast : ((d + 1 : Nat) : Int) = IntKind.i64.wrap ((d : Int) + 1) := by rw [IntWalk.i64_in _ (by omega)]; omega
                    rw [hcast] at hc
                    clear hcast
                    obtain ⟨p, hp⟩ : ∃ p, (some b).bind (nodeP k) = p := ⟨_, rfl⟩
                    have HN3 : Hid (FIN = p.bind (fun q => nK k i l acc (kacc ++ [q.1]) (m - (j + 1)) q.2)) := Lib.hid (by rw [← hp]; exact HN.out)
                    rw [hp] at hc
                    clear hp HN
                    go_simp
                    go_at_call 60
                    refine hc.mono ?_
                    clear hc
                    rintro e w_2 hP
                    obtain ⟨y, st, v, rfl, hv, hDS, hF, HG⟩ := DocC.one hP
                    obtain ⟨e0, e1, e2, e3, e4, e5, rfl, ⟨o0, o1, o2, o3, o4, o5⟩, hLY⟩ := ndV_gets _ _ _ _ hv
                    have HN : Hid (FIN = st.bind (nK k i l acc (kacc ++ [y]) (m - (j + 1)))) := Lib.hid (HN3.out.trans (HG.out (fun z => nK k i l acc (kacc ++ [z]) (m - (j + 1)))))
                    have HZ' := Lib.hid (HZ.out.fr hF (by show ¬ Z = D; omega))
                    have HO' := Lib.hid (owns_fr hF HO.out (fun g hg hk => HNO.out (by rw [hg]; exact congrArg some hk)))
                    have HF' := Lib.hid (HF.out.trans (hF.mono fun q hq => .inl hq))
                    have HLT' := Lib.hid (HLT.out.to (S' := rowS LO2 (.slice kA kacc.length kC)) hF (fun q _ hh => hh.elim (fun h => .inl (by rw [show q = D from h]; have := HSZ.out; have := HSZ2.out; omega)) id))
                    have HLY := Lib.hid (hLY.low HSL.out)
                    have HDS' := Lib.hid hDS
                    have HONES : Hid (∀ u ∈ [e0, e1, e2, e3, e4, e5], u.oneCell' = true) := Lib.hid (by simp [o0, o1, o2, o3, o4, o5])
                    have HSL' := Lib.hid (Nat.le_trans HSL.out hF.size)
                    clear hP HG HN3 hv hLY hDS hF o0 o1 o2 o3 o4 o5
                    clear HZ
                    have HZ := HZ'
                    clear HZ'
                    clear HO
                    have HO := HO'
                    clear HO'
                    clear HF
                    have HF := HF'
                    clear HF'
                    clear HLT
                    have HLT := HLT'
                    clear HLT'
                    clear HDS
                    have HDS := HDS'
                    clear HDS'
                    clear HSL
                    have HSL := HSL'
                    clear HSL'
                    refine hK.out _ _ trivial (fun hHeld => ?_)
                    clear hK K'
                    try simp only [Act.put, List.setIfInBounds_toArray, List.set_cons_zero, List.set_cons_succ]
                    refine wpAnyH_ready (rs := [1, 6]) (by kernel_rfl) (by simp) ?_
                    refine AllReadyH.cons (o := ⟨_, _, _, _, _, _⟩) rfl (fun K' hK => ?_) (AllReadyH.cons (o := ⟨_, _, _, _, _, _⟩) rfl (fun K' hK => ?_) (AllReadyH.nil))
                    ·
                      have yk := HZ.out.cell 5
                      go_simp
                      refine hK.out _ _ trivial (fun hHeld => ?_)
                      clear hK K' yk
                      try simp only [Act.put, List.setIfInBounds_toArray, List.set_cons_zero, List.set_cons_succ]
                      refine wpAnyH_ready (rs := [6]) (by kernel_rfl) (by simp) ?_
                      refine AllReadyH.cons (o := ⟨_, _, _, _, _, _⟩) rfl (fun K' hK => ?_) (AllReadyH.nil)
                      obtain ⟨w_3, hw3⟩ : ∃ W, w_2.alloc (.cells #[e0, e1, e2, e3, e4, e5] 32) = W := ⟨_, rfl⟩
                      obtain ⟨S, hS⟩ : ∃ S, w_2.heap.size = S := ⟨_, rfl⟩
                      have X3 : Ext w_2 w_3 := by rw [← hw3]; exact (Ext.refl _).alloc _
                      have HRD : Hid (RdS w_3 6 1 [e0, e1, e2, e3, e4, e5] (.slice (some ⟨S, 0, none⟩) 1 1)) := Lib.hid (by rw [← hw3, ← hS]; exact RdS.one (cs := #[e0, e1, e2, e3, e4, e5]) rfl)
                      have HO' := Lib.hid (owns_ext X3 HO.out)
                      have HZ' := Lib.hid (HZ.out.ext X3)
                      have HDS' := Lib.hid (HDS.out.more X3)
                      have HF' := Lib.hid (HF.out.trans (Fr.of_ext X3 _))
                      have HLT' := Lib.hid (HLT.out.ext X3)
                      have HLY' := Lib.hid (HLY.out.ext X3)
                      have HSL' := Lib.hid (Nat.le_trans HSL.out X3.size)
                      have HW3 := Lib.hid hw3
                      have HSS := Lib.hid hS
                      clear hw3 hS X3
                      clear HZ
                      have HZ := HZ'
                      clear HZ'
                      clear HO
                      have HO := HO'
                      clear HO'
                      clear HF
                      have HF := HF'
                      clear HF'
                      clear HLT
                      have HLT := HLT'
                      clear HLT'
                      clear HDS
                      have HDS := HDS'
                      clear HDS'
                      clear HSL
                      have HSL := HSL'
                      clear HSL'
                      clear HLY
                      have HLY := HLY'
                      clear HLY'
                      go_simp
                      rw [HW3.out, HSS.out]
                      refine hK.out _ _ trivial (fun hHeld => ?_)
                      clear hK K' HW3 HSS
                      try simp only [Act.put, List.setIfInBounds_toArray, List.set_cons_zero, List.set_cons_succ]
                      refine wpAnyH_ready (rs := [7]) (by kernel_rfl) (by simp) ?_
                      refine AllReadyH.cons (o := ⟨_, _, _, _, _, _⟩) rfl (fun K' hK => ?_) (AllReadyH.nil)
                      refine wp_append_rd rfl T30 (by rfl) HO.out (by rfl) HRD.out HONES.out (by omega) (by simp only [maxLen]; omega) (Nat.le_trans HSW.out HSL.out) ?_
                      intro v4 w_4 O1 hg hat
                      have F5 := Fr.grown hg
                      have hgb : ∀ q, (Value.slice kA kacc.length kC).ownBlock = some q → LO2 ≤ q := fun q hq => owns_base HO.out q hq
                      have HZ4 := Lib.hid (HZ.out.fr F5 (fun hh => by have := hgb Z hh; have := HSZ.out; have := HSZ2.out; omega))
                      have HRV := Lib.hid (rowV2.add HOW.out HLT.out HLY.out rfl HSW.out hg hat O1)
                      have HDS4 := Lib.hid (HDS.out.fr F5 (fun q hq => Nat.le_trans (by have := HSZ.out; have := HSZ2.out; omega) (hgb q hq)) HNO.out)
                      have HF4 : Hid (Fr wB w_4 (fun q => q = D ∨ q = Z)) := Lib.hid (Fr.new ((HF.out.mono fun q hq => .inl hq).trans (F5.mono fun q hq => .inr (by rw [HLO2.out]; exact hgb q hq))))
                      obtain ⟨qA, qC, rfl, -⟩ := RdS.of_owns O1
                      clear F5 hgb hg hat O1 HDS HF HLT HLY HRD HONES HZ
                      refine hK.out _ _ trivial (fun hHeld => ?_)
                      clear hK K'
                      try simp only [Act.put, List.setIfInBounds_toArray, List.set_cons_zero, List.set_cons_succ]
                      refine wpAnyH_take (i := 8) (oi := ⟨_, _, _, _, _, _⟩) (v := ?_) rfl (by kernel_rfl) (by kernel_rfl) (by kernel_rfl) (fun _ _ _ h => h) (Or.inl ⟨by rfl, ?_⟩) hHeld ?_
                      rotate_left
                      · intro w hSw
                        try dsimp only at hSw
                        go_simp
                        all_goals (first | with_reducible rfl | rw [if_pos (by omega)])
                      try simp only [Act.put, List.setIfInBounds_toArray, List.set_cons_zero, List.set_cons_succ]
                      refine wpAnyH_ready (rs := [9]) (by kernel_rfl) (by simp) ?_
                      refine AllReadyH.cons (o := ⟨_, _, _, _, _, _⟩) rfl (fun K' hK => ?_) (AllReadyH.nil)
                      have y5 := HZ4.out.cell 5
                      have z5 := HZ4.out.frozen 5
                      go_simp
                      refine hK.out _ _ trivial (fun hHeld => ?_)
                      clear hK K' y5 z5
                      try simp only [Act.put, List.setIfInBounds_toArray, List.set_cons_zero, List.set_cons_succ]
                      refine wpAnyH_done (by kernel_rfl) ?_ _
                      clear hHeld
                      go_wp2_with fail
                      have F6 := Fr.setCell w_4 Z 5 (.slice qA (kacc.length + 1) qC)
                      refine ⟨⟨j + 1, kacc ++ [y], st, .slice qA (kacc.length + 1) qC, by go_num, by omega, by rw [List.length_append, HAL.out]; rfl, HRV.out.fr F6 (by have := HSZ.out; have := HSZ2.out; omega), HZ4.out.set 5 _, HDS4.out.fr F6 (fun q hq => by rw [show q = Z from hq]; omega) (by show ¬ D = Z; omega), HF4.out.trans (F6.mono fun q hq => .inr hq), HN⟩, by simp [intOf]; omega⟩
                    ·
                      obtain ⟨w_3, hw3⟩ : ∃ W, w_2.alloc (.cells #[e0, e1, e2, e3, e4, e5] 32) = W := ⟨_, rfl⟩
                      obtain ⟨S, hS⟩ : ∃ S, w_2.heap.size = S := ⟨_, rfl⟩
                      have X3 : Ext w_2 w_3 := by rw [← hw3]; exact (Ext.refl _).alloc _
                      have HRD : Hid (RdS w_3 6 1 [e0, e1, e2, e3, e4, e5] (.slice (some ⟨S, 0, none⟩) 1 1)) := Lib.hid (by rw [← hw3, ← hS]; exact RdS.one (cs := #[e0, e1, e2, e3, e4, e5]) rfl)
                      have HO' := Lib.hid (owns_ext X3 HO.out)
                      have HZ' := Lib.hid (HZ.out.ext X3)
                      have HDS' := Lib.hid (HDS.out.more X3)
                      have HF' := Lib.hid (HF.out.trans (Fr.of_ext X3 _))
                      have HLT' := Lib.hid (HLT.out.ext X3)
                      have HLY' := Lib.hid (HLY.out.ext X3)
                      have HSL' := Lib.hid (Nat.le_trans HSL.out X3.size)
                      have HW3 := Lib.hid hw3
                      have HSS := Lib.hid hS
                      clear hw3 hS X3
                      clear HZ
                      have HZ := HZ'
                      clear HZ'
                      clear HO
                      have HO := HO'
                      clear HO'
                      clear HF
                      have HF := HF'
                      clear HF'
                      clear HLT
                      have HLT := HLT'
                      clear HLT'
                      clear HDS
                      have HDS := HDS'
                      clear HDS'
                      clear HSL
                      have HSL := HSL'
                      clear HSL'
                      clear HLY
                      have HLY := HLY'
                      clear HLY'
                      go_simp
                      rw [HW3.out, HSS.out]
                      refine hK.out _ _ trivial (fun hHeld => ?_)
                      clear hK K' HW3 HSS
                      try simp only [Act.put, List.setIfInBounds_toArray, List.set_cons_zero, List.set_cons_succ]
                      refine wpAnyH_ready (rs := [1]) (by kernel_rfl) (by simp) ?_
                      refine AllReadyH.cons (o := ⟨_, _, _, _, _, _⟩) rfl (fun K' hK => ?_) (AllReadyH.nil)
                      have yk := HZ.out.cell 5
                      go_simp
                      refine hK.out _ _ trivial (fun hHeld => ?_)
                      clear hK K' yk
                      try simp only [Act.put, List.setIfInBounds_toArray, List.set_cons_zero, List.set_cons_succ]
                      refine wpAnyH_ready (rs := [7]) (by kernel_rfl) (by simp) ?_
                      refine AllReadyH.cons (o := ⟨_, _, _, _, _, _⟩) rfl (fun K' hK => ?_) (AllReadyH.nil)
                      refine wp_append_rd rfl T30 (by rfl) HO.out (by rfl) HRD.out HONES.out (by omega) (by simp only [maxLen]; omega) (Nat.le_trans HSW.out HSL.out) ?_
                      intro v4 w_4 O1 hg hat
                      have F5 := Fr.grown hg
                      have hgb : ∀ q, (Value.slice kA kacc.length kC).ownBlock = some q → LO2 ≤ q := fun q hq => owns_base HO.out q hq
                      have HZ4 := Lib.hid (HZ.out.fr F5 (fun hh => by have := hgb Z hh; have := HSZ.out; have := HSZ2.out; omega))
                      have HRV := Lib.hid (rowV2.add HOW.out HLT.out HLY.out rfl HSW.out hg hat O1)
                      have HDS4 := Lib.hid (HDS.out.fr F5 (fun q hq => Nat.le_trans (by have := HSZ.out; have := HSZ2.out; omega) (hgb q hq)) HNO.out)
                      have HF4 : Hid (Fr wB w_4 (fun q => q = D ∨ q = Z)) := Lib.hid (Fr.new ((HF.out.mono fun q hq => .inl hq).trans (F5.mono fun q hq => .inr (by rw [HLO2.out]; exact hgb q hq))))
                      obtain ⟨qA, qC, rfl, -⟩ := RdS.of_owns O1
                      clear F5 hgb hg hat O1 HDS HF HLT HLY HRD HONES HZ
                      refine hK.out _ _ trivial (fun hHeld => ?_)
                      clear hK K'
                      try simp only [Act.put, List.setIfInBounds_toArray, List.set_cons_zero, List.set_cons_succ]
                      refine wpAnyH_take (i := 8) (oi := ⟨_, _, _, _, _, _⟩) (v := ?_) rfl (by kernel_rfl) (by kernel_rfl) (by kernel_rfl) (fun _ _ _ h => h) (Or.inl ⟨by rfl, ?_⟩) hHeld ?_
                      rotate_left
                      · intro w hSw
                        try dsimp only at hSw
                        go_simp
                        all_goals (first | with_reducible rfl | rw [if_pos (by omega)])
                      try simp only [Act.put, List.setIfInBounds_toArray, List.set_cons_zero, List.set_cons_succ]
                      refine wpAnyH_ready (rs := [9]) (by kernel_rfl) (by simp) ?_
                      refine AllReadyH.cons (o := ⟨_, _, _, _, _, _⟩) rfl (fun K' hK => ?_) (AllReadyH.nil)
                      have y5 := HZ4.out.cell 5
                      have z5 := HZ4.out.frozen 5
                      go_simp
                      refine hK.out _ _ trivial (fun hHeld => ?_)
                      clear hK K' y5 z5
                      try simp only [Act.put, List.setIfInBounds_toArray, List.set_cons_zero, List.set_cons_succ]
                      refine wpAnyH_done (by kernel_rfl) ?_ _
                      clear hHeld
                      go_wp2_with fail
                      have F6 := Fr.setCell w_4 Z 5 (.slice qA (kacc.length + 1) qC)
                      refine ⟨⟨j + 1, kacc ++ [y], st, .slice qA (kacc.length + 1) qC, by go_num, by omega, by rw [List.length_append, HAL.out]; rfl, HRV.out.fr F6 (by have := HSZ.out; have := HSZ2.out; omega), HZ4.out.set 5 _, HDS4.out.fr F6 (fun q hq => by rw [show q = Z from hq]; omega) (by show ¬ D = Z; omega), HF4.out.trans (F6.mono fun q hq => .inr hq), HN⟩, by simp [intOf]; omega⟩
              · have q2 : (m : Int) ≤ (j : Int) := by omega
                have HN2 : Hid (FIN = st.bind (fun r => some (Nd.mk i false l acc ⟨#[]⟩ kacc, r))) := Lib.hid (by
                  rw [HN.out, show m - j = 0 by omega]
                  exact congrArg (fun g => st.bind g) (funext fun r => nK_zero k i l acc kacc r))
                clear HNO HAL HLT HO HN
                have HN := HN2
                clear HN2
                have HLK := Lib.hid HRV.out.kids
                have HBY2' := Lib.hid (HBY2.out.fr HF.out (by rintro (hh | hh) <;> omega))
                have HLA' := Lib.hid (HLA.out.to (S' := old LO) HF.out (fun q _ hh => by
                  rcases hh with (hh | hh) | hh
                  · rw [hh]; have := HSZ.out; show D < LO; omega
                  · rw [hh]; have := HSZ.out; show Z < LO; omega
                  · exact hh))
                have HF' : Hid (Fr w wr (isB D)) := Lib.hid (Fr.new ((HFw.out.mono fun q hq => .inl hq).trans (HF.out.mono fun q hq => hq.elim (fun h => .inl h) (fun h => .inr (by rw [h, HYY.out]; omega)))))
                clear HBY2 HLA HF HRV
                have HBY2 := HBY2'
                have HLA := HLA'
                have HF := HF'
                clear HBY2' HLA' HF'
                go_upto_region 21 with fail
                have y0 := HBY2.out.cell 0
                have f0 := HBY2.out.frozen 0
                have z0 := HZ.out.cell 0
                have y1 := HBY2.out.cell 1
                have f1 := HBY2.out.frozen 1
                have z1 := HZ.out.cell 1
                have y2 := HBY2.out.cell 2
                have f2 := HBY2.out.frozen 2
                have z2 := HZ.out.cell 2
                have y3 := HBY2.out.cell 3
                have f3 := HBY2.out.frozen 3
                have z3 := HZ.out.cell 3
                have y4 := HBY2.out.cell 4
                have f4 := HBY2.out.frozen 4
                have z4 := HZ.out.cell 4
                have y5 := HBY2.out.cell 5
                have f5 := HBY2.out.frozen 5
                have z5 := HZ.out.cell 5
                go_wp2_with fail
                refine bodyPost_ret (results_st rfl _ rfl (HBY2.out.six _ _ _ _ _ _) Try.underlying32 rfl info32) rfl ?_
                have F2 := Fr.six wr Y (.int .u64 (i : Int)) (.bool false) (.string l) (.slice vA acc.length vC) (.string ⟨#[]⟩) (.slice kA kacc.length kC)
                have hwL : w.heap.size ≤ LO := by have := HSZ.out; rw [HYY.out]; omega
                refine DocC.fin (x := .mk i false l acc ⟨#[]⟩ kacc) (Fr.new ((HF.out.mono fun q hq => .inl hq).trans (F2.mono fun q hq => .inr (by rw [show q = Y from hq, HYY.out]; omega)))) HN.out ?_ (HDS.out.fr F2 (fun q hq => by rw [show q = Y from hq]; omega) (by show ¬ D = Y; omega))
                have a1 : Late (old w.heap.size) (fun W => RdA W acc (.slice vA acc.length vC)) _ := HLA.out.to F2 (fun q hq hh => by
                  rcases hh with hh | hh
                  · rw [show q = Y from hh]; have := HSZ.out; show Y < LO; omega
                  · exact Nat.lt_of_lt_of_le (show q < w.heap.size from hh) hwL)
                have a2 : Late (old w.heap.size) (fun W => RdK W kacc (.slice kA kacc.length kC)) _ := HLK.out.to F2 (fun q hq hh => by
                  rcases hh with hh | hh
                  · rw [show q = Y from hh]; have := HSZ.out; have := HSZ2.out; show Y < LO2; omega
                  · exact Nat.lt_of_lt_of_le (show q < w.heap.size from hh) (Nat.le_trans hwL HSZ2.out))
                exact (a1.and a2).imp fun W ⟨h1, h2⟩ => Nd.rd_shut (t := .mk (i : Int) false l acc ⟨#[]⟩ kacc) (Int.natCast_nonneg i) (by show (i : Int) ≤ _; omega) hl (by show (0 : Nat) ≤ maxLen; decide) h1 h2
          have HN2 : Hid (FIN = (none : Option (List UInt8)).bind (fun r => some (Nd.mk i false l acc ⟨#[]⟩ [], r))) := Lib.hid (HN.out.trans (by
            rcases st with _ | r
            · rfl
            show nN k i l acc m r = none
            by_cases hm2 : m ≤ 512
            · have hk : k = 0 := by omega
              rw [hk]
              exact nN_deep i l acc m r h0
            · unfold nN
              exact if_neg hm2))
          clear HN
          have HN := HN2
          clear HN2
          obtain ⟨a, x, hb, ha, -⟩ := HDS.out.box
          have b2 := hb.cell 2
          have f2 := hb.frozen 2
          obtain ⟨wC, hwC⟩ : ∃ W, wB.setCell ⟨D, 2, none⟩ (.bool true) = W := ⟨_, rfl⟩
          have F2 : Fr wB wC (isB D) := by rw [← hwC]; exact Fr.setCell _ _ _ _
          have HDS' : Hid (DS w0 wC D bs bv none) := Lib.hid ⟨Fr.ext HDS.out.ext F2 (fun q hq => by rw [show q = D from hq]; exact HDS.out.hD), HDS.out.hD, HDS.out.rd, HDS.out.len, a, true, (by rw [← hwC]; exact hb.set 2 _), ha, rfl⟩
          have HZ' := Lib.hid (HZ.out.fr F2 (by show ¬ Z = D; omega))
          have HBY2' := Lib.hid (HBY2.out.fr F2 (by show ¬ Y = D; omega))
          have HF' := Lib.hid (HF.out.trans F2)
          have HLA' := Lib.hid (HLA.out.to (S' := old LO) F2 (fun q _ hh => hh.elim (fun h => by rw [show q = D from h]; have := HSZ.out; show D < LO; omega) id))
          have HWC := Lib.hid hwC
          clear hwC F2 HDS hb
          clear HZ
          have HZ := HZ'
          clear HZ'
          clear HBY2
          have HBY2 := HBY2'
          clear HBY2'
          clear HF
          have HF := HF'
          clear HF'
          clear HLA
          have HLA := HLA'
          clear HLA'
          have HDS := HDS'
          clear HDS'
          rcases Nat.lt_or_ge d 64 with hd2 | hd2
          · have t2 : decide (64 ≤ d) = false := decide_eq_false (by omega)
            have t2' : decide ((64 : Int) ≤ (d : Int)) = false := decide_eq_false (by omega)
            have t3 : decide (512 < m) = true := decide_eq_true (by omega)
            have t3' : decide ((512 : Int) < (m : Int)) = true := decide_eq_true (by omega)
            go_upto_region 17 with fail
            rw [HWC.out]
            clear HWC b2 f2
            obtain ⟨a', x', hb', -, hx'⟩ := HDS.out.box
            have b2 := hb'.cell 2
            subst hx'
            clear hb'
            go_wp2_with fail
            go_loopw [9] (fun s9 wr => s9 = .int .i64 0 ∧ wr = wC) (fun _ _ => 0)
            case atStart => exact ⟨rfl, rfl⟩
            case round =>
              obtain ⟨rfl, rfl⟩ := hrel
              go_upto_region 21 with fail
              have y0 := HBY2.out.cell 0
              have f0 := HBY2.out.frozen 0
              have z0 := HZ.out.cell 0
              have y1 := HBY2.out.cell 1
              have f1 := HBY2.out.frozen 1
              have z1 := HZ.out.cell 1
              have y2 := HBY2.out.cell 2
              have f2 := HBY2.out.frozen 2
              have z2 := HZ.out.cell 2
              have y3 := HBY2.out.cell 3
              have f3 := HBY2.out.frozen 3
              have z3 := HZ.out.cell 3
              have y4 := HBY2.out.cell 4
              have f4 := HBY2.out.frozen 4
              have z4 := HZ.out.cell 4
              have y5 := HBY2.out.cell 5
              have f5 := HBY2.out.frozen 5
              have z5 := HZ.out.cell 5
              go_wp2_with fail
              refine bodyPost_ret (results_st rfl _ rfl (HBY2.out.six _ _ _ _ _ _) Try.underlying32 rfl info32) rfl ?_
              have F2 := Fr.six wr Y (.int .u64 (i : Int)) (.bool false) (.string l) (.slice vA acc.length vC) (.string ⟨#[]⟩) (.slice none 0 0)
              have hwL : w.heap.size ≤ LO := by have := HSZ.out; rw [HYY.out]; omega
              refine DocC.fin (x := .mk i false l acc ⟨#[]⟩ []) (Fr.new ((HF.out.mono fun q hq => .inl hq).trans (F2.mono fun q hq => .inr (by rw [show q = Y from hq, HYY.out]; omega)))) HN.out ?_ (HDS.out.fr F2 (fun q hq => by rw [show q = Y from hq]; omega) (by show ¬ D = Y; omega))
              have a1 : Late (old w.heap.size) (fun W => RdA W acc (.slice vA acc.length vC)) _ := HLA.out.to F2 (fun q hq hh => by
                rcases hh with hh | hh
                · rw [show q = Y from hh]; have := HSZ.out; show Y < LO; omega
                · exact Nat.lt_of_lt_of_le (show q < w.heap.size from hh) hwL)
              exact (a1.and (show Late (old w.heap.size) (fun W => RdK W [] (.slice none 0 0)) _ from Late.all fun W => ⟨none, 0, rfl, Nat.le_refl _, by decide, fun h => absurd rfl h⟩)).imp fun W ⟨h1, h2⟩ => Nd.rd_shut (t := .mk (i : Int) false l acc ⟨#[]⟩ []) (Int.natCast_nonneg i) (by show (i : Int) ≤ _; omega) hl (by show (0 : Nat) ≤ maxLen; decide) h1 h2
          · have t2 : decide (64 ≤ d) = true := decide_eq_true (by omega)
            have t2' : decide ((64 : Int) ≤ (d : Int)) = true := decide_eq_true (by omega)
            go_upto_region 17 with fail
            rw [HWC.out]
            clear HWC b2 f2
            obtain ⟨a', x', hb', -, hx'⟩ := HDS.out.box
            have b2 := hb'.cell 2
            subst hx'
            clear hb'
            go_wp2_with fail
            go_loopw [9] (fun s9 wr => s9 = .int .i64 0 ∧ wr = wC) (fun _ _ => 0)
            case atStart => exact ⟨rfl, rfl⟩
            case round =>
              obtain ⟨rfl, rfl⟩ := hrel
              go_upto_region 21 with fail
              have y0 := HBY2.out.cell 0
              have f0 := HBY2.out.frozen 0
              have z0 := HZ.out.cell 0
              have y1 := HBY2.out.cell 1
              have f1 := HBY2.out.frozen 1
              have z1 := HZ.out.cell 1
              have y2 := HBY2.out.cell 2
              have f2 := HBY2.out.frozen 2
              have z2 := HZ.out.cell 2
              have y3 := HBY2.out.cell 3
              have f3 := HBY2.out.frozen 3
              have z3 := HZ.out.cell 3
              have y4 := HBY2.out.cell 4
              have f4 := HBY2.out.frozen 4
              have z4 := HZ.out.cell 4
              have y5 := HBY2.out.cell 5
              have f5 := HBY2.out.frozen 5
              have z5 := HZ.out.cell 5
              go_wp2_with fail
              refine bodyPost_ret (results_st rfl _ rfl (HBY2.out.six _ _ _ _ _ _) Try.underlying32 rfl info32) rfl ?_
              have F2 := Fr.six wr Y (.int .u64 (i : Int)) (.bool false) (.string l) (.slice vA acc.length vC) (.string ⟨#[]⟩) (.slice none 0 0)
              have hwL : w.heap.size ≤ LO := by have := HSZ.out; rw [HYY.out]; omega
              refine DocC.fin (x := .mk i false l acc ⟨#[]⟩ []) (Fr.new ((HF.out.mono fun q hq => .inl hq).trans (F2.mono fun q hq => .inr (by rw [show q = Y from hq, HYY.out]; omega)))) HN.out ?_ (HDS.out.fr F2 (fun q hq => by rw [show q = Y from hq]; omega) (by show ¬ D = Y; omega))
              have a1 : Late (old w.heap.size) (fun W => RdA W acc (.slice vA acc.length vC)) _ := HLA.out.to F2 (fun q hq hh => by
                rcases hh with hh | hh
                · rw [show q = Y from hh]; have := HSZ.out; show Y < LO; omega
                · exact Nat.lt_of_lt_of_le (show q < w.heap.size from hh) hwL)
              exact (a1.and (show Late (old w.heap.size) (fun W => RdK W [] (.slice none 0 0)) _ from Late.all fun W => ⟨none, 0, rfl, Nat.le_refl _, by decide, fun h => absurd rfl h⟩)).imp fun W ⟨h1, h2⟩ => Nd.rd_shut (t := .mk (i : Int) false l acc ⟨#[]⟩ []) (Int.natCast_nonneg i) (by show (i : Int) ≤ _; omega) hl (by show (0 : Nat) ≤ maxLen; decide) h1 h2
      | some b =>
        obtain ⟨rfl, -⟩ := hs
        have HN2 : Hid (FIN = ((some b).bind (textP 64)).bind (fun q => nAv k i f l acc (n - (j + 1)) q.1 q.2)) := Lib.hid (HN.out.trans ((congrArg (fun q => nA k i f l acc q b) (show n - j = (n - (j + 1)) + 1 by omega)).trans (nA_step k i f l acc (n - (j + 1)) b)))
        have hc := dtext_any 64 (by decide) bs bv (some b) w0 wr D HDS.out
        obtain ⟨p, hp⟩ : ∃ p, (some b).bind (textP 64) = p := ⟨_, rfl⟩
        rw [hp] at hc HN2
        clear hp HN HRV
        go_wp2_with fail
        refine hc.mono ?_
        clear hc b2
        rintro e w_2 hP
        obtain ⟨key, st, v, rfl, hv, hDS, hF, HG⟩ := DocC.one hP
        obtain ⟨rfl, hkl⟩ := hv
        have HN := Lib.hid (HN2.out.trans (HG.out (nAv k i f l acc (n - (j + 1)))))
        clear HN2 HG hP
        obtain ⟨w_3, hw3⟩ : ∃ W, w_2.alloc (.cells #[.string ⟨#[]⟩, .string ⟨#[]⟩] 78) = W := ⟨_, rfl⟩
        obtain ⟨A, hA⟩ : ∃ q, w_2.heap.size = q := ⟨_, rfl⟩
        have X3 : Ext w_2 w_3 := by rw [← hw3]; exact (Ext.refl _).alloc _
        have bA : NBox w_3 A 78 #[.string ⟨#[]⟩, .string ⟨#[]⟩] := by rw [← hw3, ← hA]; exact NBox.new _ _ _
        have HAL2 := Lib.hid (show wr.heap.size ≤ A from by rw [← hA]; exact hF.size)
        obtain ⟨w_4, hw4⟩ : ∃ W, (w_3.setCell ⟨A, 0, none⟩ (.string key)).setCell ⟨A, 1, none⟩ (.string ⟨#[]⟩) = W := ⟨_, rfl⟩
        have F4 : Fr w_3 w_4 (isB A) := by rw [← hw4]; exact (Fr.setCell _ _ _ _).trans (Fr.setCell _ _ _ _)
        have F3 := hF.trans (Fr.of_ext X3 _)
        have HSL0 := HSL
        have hAA : A ≠ D ∧ A ≠ Z ∧ A ≠ Y ∧ w.heap.size ≤ A ∧ w0.heap.size ≤ A ∧ LO ≤ A := by
          have h1 := HAL2.out
          have h2 := HSL.out
          have h3 := HSZ.out
          have h4 := HYY.out
          omega
        have HAO := Lib.hid (fun g (hg : (Value.slice vA acc.length vC).ownBlock = some g) => (show g < A from Nat.lt_of_lt_of_le (HO.out.lt g hg).2 HAL2.out))
        have HA := Lib.hid (show NBox w_4 A 78 #[.string key, .string ⟨#[]⟩] from by rw [← hw4]; exact bA.set2 _ _)
        have HZ' := Lib.hid ((HZ.out.fr F3 (by show ¬ Z = D; omega)).fr F4 (by show ¬ Z = A; omega))
        have HBY2' := Lib.hid ((HBY2.out.fr F3 (by show ¬ Y = D; omega)).fr F4 (by show ¬ Y = A; omega))
        have HDS' := Lib.hid ((hDS.more X3).fr F4 (fun q hq => by rw [show q = A from hq]; omega) (by show ¬ D = A; omega))
        have HO' := Lib.hid (owns_fr F4 (owns_fr F3 HO.out (fun g hg hk => HNO.out (by rw [hg]; exact congrArg some hk))) (fun g hg hk => by have := HAO.out g hg; rw [show g = A from hk] at this; omega))
        have HF' : Hid (Fr w w_4 (isB D)) := Lib.hid (Fr.new (((HF.out.trans F3).mono fun q hq => .inl hq).trans (F4.mono fun q hq => .inr (by rw [show q = A from hq]; omega))))
        have HSL' := Lib.hid (Nat.le_trans HSL.out (Nat.le_trans F3.size F4.size))
        have y0 := bA.cell 0
        have y1 := bA.cell 1
        have z0 := bA.frozen 0
        have z1 := bA.frozen 1
        have HW3 := Lib.hid hw3
        have HAA := Lib.hid hA
        have HW4 := Lib.hid hw4
        clear hw3 hA hw4 X3 bA F4 F3 HSL0 hDS hF
        clear HZ
        have HZ := HZ'
        clear HZ'
        clear HBY2
        have HBY2 := HBY2'
        clear HBY2'
        clear HDS
        have HDS := HDS'
        clear HDS'
        clear HO
        have HO := HO'
        clear HO'
        clear HF
        have HF := HF'
        clear HF'
        clear HSL
        have HSL := HSL'
        clear HSL'
        go_upto_region 9 with (rw [HW3.out, HAA.out]; clear HW3 HAA)
        rw [HW4.out]
        clear HW4 y0 y1 z0 z1
        have HN2 : Hid (FIN = (st.bind (textP 256)).bind (fun q => (fun (u : ByteArray) (r : List UInt8) => nA k i f l (acc ++ [(key, u)]) (n - (j + 1)) r) q.1 q.2)) := Lib.hid (HN.out.trans (bind_eq (fun r => rfl)))
        have hc := dtext_any 256 (by decide) bs bv st w0 w_4 D HDS.out
        obtain ⟨p, hp⟩ : ∃ p, st.bind (textP 256) = p := ⟨_, rfl⟩
        rw [hp] at hc HN2
        clear hp HN
        go_wp2_with fail
        refine hc.mono ?_
        clear hc
        rintro e w_5 hP
        obtain ⟨val, st, v, rfl, hv, hDS, hF, HG⟩ := DocC.one hP
        obtain ⟨rfl, hvl⟩ := hv
        have HN : Hid (FIN = st.bind (nA k i f l (acc ++ [(key, val)]) (n - (j + 1)))) := Lib.hid (HN2.out.trans (HG.out (fun (u : ByteArray) (r : List UInt8) => nA k i f l (acc ++ [(key, u)]) (n - (j + 1)) r)))
        clear HN2 HG hP
        have bA := HA.out.fr hF (by show ¬ A = D; omega)
        obtain ⟨w_6, hw6⟩ : ∃ W, w_5.setCell ⟨A, 1, none⟩ (.string val) = W := ⟨_, rfl⟩
        have F6 : Fr w_5 w_6 (isB A) := by rw [← hw6]; exact Fr.setCell _ _ _ _
        have HA' := Lib.hid (show NBox w_6 A 78 #[.string key, .string val] from by rw [← hw6]; exact bA.set 1 _)
        have HZ' := Lib.hid ((HZ.out.fr hF (by show ¬ Z = D; omega)).fr F6 (by show ¬ Z = A; omega))
        have HBY2' := Lib.hid ((HBY2.out.fr hF (by show ¬ Y = D; omega)).fr F6 (by show ¬ Y = A; omega))
        have HDS' := Lib.hid (hDS.fr F6 (fun q hq => by rw [show q = A from hq]; omega) (by show ¬ D = A; omega))
        have HO' := Lib.hid (owns_fr F6 (owns_fr hF HO.out (fun g hg hk => HNO.out (by rw [hg]; exact congrArg some hk))) (fun g hg hk => by have := HAO.out g hg; rw [show g = A from hk] at this; omega))
        have HF' : Hid (Fr w w_6 (isB D)) := Lib.hid (Fr.new (((HF.out.trans hF).mono fun q hq => .inl hq).trans (F6.mono fun q hq => .inr (by rw [show q = A from hq]; omega))))
        have HSL' := Lib.hid (Nat.le_trans HSL.out (Nat.le_trans hF.size F6.size))
        have y0 := bA.cell 1
        have z0 := bA.frozen 1
        have HW6 := Lib.hid hw6
        clear hw6 F6 bA hDS hF
        clear HA
        have HA := HA'
        clear HA'
        clear HZ
        have HZ := HZ'
        clear HZ'
        clear HBY2
        have HBY2 := HBY2'
        clear HBY2'
        clear HDS
        have HDS := HDS'
        clear HDS'
        clear HO
        have HO := HO'
        clear HO'
        clear HF
        have HF := HF'
        clear HF'
        clear HSL
        have HSL := HSL'
        clear HSL'
        go_upto_region 10 with fail
        rw [HW6.out]
        clear HW6 y0 z0
        obtain ⟨w_7, hw7⟩ : ∃ W, w_6.alloc (.cells #[.string key, .string val] 78) = W := ⟨_, rfl⟩
        obtain ⟨S, hS⟩ : ∃ S, w_6.heap.size = S := ⟨_, rfl⟩
        have X7 : Ext w_6 w_7 := by rw [← hw7]; exact (Ext.refl _).alloc _
        have HRD : Hid (RdS w_7 2 1 [.string key, .string val] (.slice (some ⟨S, 0, none⟩) 1 1)) := Lib.hid (by rw [← hw7, ← hS]; exact RdS.one (cs := #[.string key, .string val]) rfl)
        have HO7 := Lib.hid (owns_ext X7 HO.out)
        have HZ7 := Lib.hid (HZ.out.ext X7)
        have HY7 := Lib.hid (HBY2.out.ext X7)
        have HDS7 := Lib.hid (HDS.out.more X7)
        have HF7 := Lib.hid (HF.out.trans (Fr.of_ext X7 _))
        have HSL7 := Lib.hid (Nat.le_trans HSL.out X7.size)
        have HONES : Hid (∀ u ∈ [Value.string key, Value.string val], u.oneCell' = true) := Lib.hid (by simp [Value.oneCell'])
        have HKV := Lib.hid (And.intro hkl hvl)
        have HW7 := Lib.hid hw7
        have HSS := Lib.hid hS
        have a0 := HA.out.cell 0
        have a1 := HA.out.cell 1
        have zk := HZ.out.cell 3
        clear hw7 hS X7 HA HZ HBY2 HDS HO HF hkl hvl
        go_wp2_with (first | (rw [HW7.out, HSS.out]; clear HW7 HSS a0 a1 zk) | (at_builtin; refine wpList_append_rd rfl rfl T29 (v := _) (by rfl) HO7.out (by rfl) HRD.out HONES.out (by omega) (by simp only [maxLen]; omega) HSL7.out ?_; intro v4 w_8 O1 hg hat; have F5 := Fr.grown hg; have HZ8 := Lib.hid (HZ7.out.fr F5 (owns_not HO7.out (by have := HSZ.out; omega))); have HY8 := Lib.hid (HY7.out.fr F5 (owns_not HO7.out (by have := HSZ.out; omega))); have HRV := Lib.hid (rowV2.add HO7.out (Late.all HLT.out) (Late.all (fun _ => show RdAtr _ (key, val) (.agg [Value.string key, Value.string val].toArray) from ⟨rfl, HKV.out.1, HKV.out.2⟩)) rfl HSL7.out hg hat O1); obtain ⟨qA, qC, rfl, -⟩ := RdS.of_owns O1; have y3 := HZ8.out.cell 3; have z3 := HZ8.out.frozen 3))
        have F6 := Fr.setCell w_8 Z 3 (.slice qA (acc.length + 1) qC)
        have hgb : ∀ q, (Value.slice vA acc.length vC).ownBlock = some q → LO ≤ q := fun q hq => owns_base HO7.out q hq
        refine ⟨⟨j + 1, acc ++ [(key, val)], st, .slice qA (acc.length + 1) qC, by go_num, by omega, by rw [List.length_append, HAL.out]; rfl, HRV.out.fr F6 (by have := HSZ.out; omega), Nat.le_trans HSL7.out (Nat.le_trans F5.size F6.size), HZ8.out.set 3 _, HY8.out.fr F6 (by show ¬ Y = Z; omega), (HDS7.out.fr F5 (fun q hq => by have := hgb q hq; have := HSZ.out; omega) HNO.out).fr F6 (fun q hq => by rw [show q = Z from hq]; omega) (by show ¬ D = Z; omega), Fr.new (((HF7.out.mono fun q hq => .inl hq).trans (F5.mono fun q hq => .inr (by have := hgb q hq; have := HSZ.out; have := HYY.out; omega))).trans (F6.mono fun q hq => .inr (by rw [show q = Z from hq, HYY.out]; omega))), HN⟩, by simp [intOf]; omega⟩
    · have q2 : (n : Int) ≤ (j : Int) := by omega
      have HLA := Lib.hid HRV.out.atrs
      have HN2 : Hid (FIN = st.bind (nU k i f l acc)) := Lib.hid (by
        rw [HN.out, show n - j = 0 by omega]
        exact congrArg (fun g => st.bind g) (funext fun r => nA_zero k i f l acc r))
      clear HNO HAL HLT HO HRV HN b2
      have HN := HN2
      clear HN2
      go_upto_region 11 with fail
      have zl := HZ.out.cell 1
      cases f with
      | true =>
        have hc := dtext_any 2048 (by decide) bs bv st w0 wr D HDS.out
        have HN' : Hid (FIN = ((st).bind (textP 2048)).bind (fun q => (fun (t : ByteArray) (r : List UInt8) => some (Nd.mk i true l acc t [], r)) q.1 q.2)) := Lib.hid (HN.out.trans (bind_eq (fun r => rfl)))
        obtain ⟨p, hp⟩ : ∃ p, (st).bind (textP 2048) = p := ⟨_, rfl⟩
        rw [hp] at hc HN'
        clear hp HN
        go_wp2_with fail
        refine hc.mono ?_
        clear hc
        rintro e wt hP
        obtain ⟨t, st, v, rfl, hv, hDS, hF, HG⟩ := DocC.one hP
        obtain ⟨rfl, htl⟩ := hv
        clear zl
        have HN := Lib.hid (HN'.out.trans (HG.out ((fun (t : ByteArray) (r : List UInt8) => some (Nd.mk i true l acc t [], r)))))
        clear HG HN' hP
        have HLA' := Lib.hid (HLA.out.to (S' := old LO) hF (fun q _ hh => hh.elim (fun h => by rw [show q = D from h]; have := HSZ.out; show D < LO; omega) id))
        clear HLA
        have HLA := HLA'
        clear HLA'
        have bZ2 := HZ.out.fr hF (by show ¬ Z = D; omega)
        obtain ⟨wu, hw⟩ : ∃ W, wt.setCell ⟨Z, 4, none⟩ (.string t) = W := ⟨_, rfl⟩
        have F2 : Fr wt wu (isB Z) := by rw [← hw]; exact Fr.setCell _ _ _ _
        have HZ' := Lib.hid (show NBox wu Z 32 #[.int .u64 (i : Int), .bool true, .string l, .slice vA acc.length vC, .string t, .slice none 0 0] from by rw [← hw]; exact bZ2.set 4 _)
        have HDS' := Lib.hid (hDS.fr F2 (fun q hq => by rw [show q = Z from hq]; omega) (by show ¬ D = Z; omega))
        have HBY2' := Lib.hid ((HBY2.out.fr hF (by show ¬ Y = D; omega)).fr F2 (by show ¬ Y = Z; omega))
        have HF' : Hid (Fr w wu (isB D)) := Lib.hid (Fr.new (((HF.out.trans hF).mono fun q hq => .inl hq).trans (F2.mono fun q hq => .inr (by rw [show q = Z from hq, HYY.out]; omega))))
        have y0 := bZ2.cell 4
        have z0 := bZ2.frozen 4
        have HW := Lib.hid hw
        have HLA' := Lib.hid (HLA.out.to (S' := old LO) F2 (fun q _ hh => hh.elim (fun h => by rw [show q = Z from h]; have := HSZ.out; show Z < LO; omega) id))
        clear HLA
        have HLA := HLA'
        clear HLA'
        clear hw F2 bZ2 HZ HDS HBY2 HF
        have HZ := HZ'
        have HDS := HDS'
        have HBY2 := HBY2'
        have HF := HF'
        clear HZ' HDS' HBY2' HF' hDS hF
        go_upto_region 13 with fail
        rw [HW.out]
        clear HW y0 z0
        have y0 := HBY2.out.cell 0
        have f0 := HBY2.out.frozen 0
        have z0 := HZ.out.cell 0
        have y1 := HBY2.out.cell 1
        have f1 := HBY2.out.frozen 1
        have z1 := HZ.out.cell 1
        have y2 := HBY2.out.cell 2
        have f2 := HBY2.out.frozen 2
        have z2 := HZ.out.cell 2
        have y3 := HBY2.out.cell 3
        have f3 := HBY2.out.frozen 3
        have z3 := HZ.out.cell 3
        have y4 := HBY2.out.cell 4
        have f4 := HBY2.out.frozen 4
        have z4 := HZ.out.cell 4
        have y5 := HBY2.out.cell 5
        have f5 := HBY2.out.frozen 5
        have z5 := HZ.out.cell 5
        go_wp2_with fail
        refine bodyPost_ret (results_st rfl _ rfl (HBY2.out.six _ _ _ _ _ _) Try.underlying32 rfl info32) rfl ?_
        have F2 := Fr.six wu Y (.int .u64 (i : Int)) (.bool true) (.string l) (.slice vA acc.length vC) (.string t) (.slice none 0 0)
        have hwL : w.heap.size ≤ LO := by have := HSZ.out; rw [HYY.out]; omega
        refine DocC.fin (x := .mk i true l acc t []) (Fr.new ((HF.out.mono fun q hq => .inl hq).trans (F2.mono fun q hq => .inr (by rw [show q = Y from hq, HYY.out]; omega)))) HN.out ?_ (HDS.out.fr F2 (fun q hq => by rw [show q = Y from hq]; omega) (by show ¬ D = Y; omega))
        have a1 : Late (old w.heap.size) (fun W => RdA W acc (.slice vA acc.length vC)) _ := HLA.out.to F2 (fun q hq hh => by
          rcases hh with hh | hh
          · rw [show q = Y from hh]; have := HSZ.out; show Y < LO; omega
          · exact Nat.lt_of_lt_of_le (show q < w.heap.size from hh) hwL)
        exact (a1.and (show Late (old w.heap.size) (fun W => RdK W [] (.slice none 0 0)) _ from Late.all fun W => ⟨none, 0, rfl, Nat.le_refl _, by decide, fun h => absurd rfl h⟩)).imp fun W ⟨h1, h2⟩ => Nd.rd_shut (t := .mk (i : Int) true l acc t []) (Int.natCast_nonneg i) (by show (i : Int) ≤ _; omega) hl htl h1 h2
      | false =>
        have hc : Calls Try.prog 86 #[.pointer (some ⟨D, 0, none⟩), .int .u64 1048576] wr (NumC w0 wr D bs bv ((st).bind (smallP 1048577))) := dnumber_any 1048576 bs bv (st) w0 wr D HDS.out
        have HN' : Hid (FIN = ((st).bind (smallP 1048577)).bind (fun q => nN k i l acc q.1 q.2)) := Lib.hid (HN.out.trans (bind_eq (fun r => nU_false k i l acc r)))
        have HLT := Lib.hid (fun n r (hh : (st).bind (smallP 1048577) = some (n, r)) => small_bind (most := 1048576) hh)
        obtain ⟨p, hp⟩ : ∃ p, (st).bind (smallP 1048577) = p := ⟨_, rfl⟩
        rw [hp] at hc HN' HLT
        clear hp HN
        go_wp2_with fail
        refine hc.mono ?_
        clear hc
        rintro e wB hP
        obtain ⟨m, st, rfl, hm, hDS, hF, HG, HZN⟩ := NumC.one hP HLT.out
        have HN := Lib.hid (HN'.out.trans (HG.out (nN k i l acc)))
        clear HG HN' hP HLT
        have HZ' := Lib.hid (HZ.out.fr hF (by show ¬ Z = D; omega))
        have HDS' := Lib.hid hDS
        have HBY2' := Lib.hid (HBY2.out.fr hF (by show ¬ Y = D; omega))
        have HF' : Hid (Fr w wB (isB D)) := Lib.hid (HF.out.trans hF)
        have HLA' := Lib.hid (HLA.out.to (S' := old LO) hF (fun q _ hh => hh.elim (fun h => by rw [show q = D from h]; have := HSZ.out; show D < LO; omega) id))
        have HSL' := Lib.hid (Nat.le_trans HSL.out hF.size)
        clear HLA HSL zl HZN
        have HLA := HLA'
        have HSL := HSL'
        clear HLA' HSL'
        clear HZ HDS HBY2 HF
        have HZ := HZ'
        have HDS := HDS'
        have HBY2 := HBY2'
        have HF := HF'
        clear HZ' HDS' HBY2' HF' hDS hF
        have qm : (0 : Int) ≤ (m : Int) := by omega
        rcases Nat.eq_zero_or_pos m with h0 | h0
        · have t1 : decide (0 < m) = false := decide_eq_false (by omega)
          have t1' : decide ((0 : Int) < (m : Int)) = false := decide_eq_false (by omega)
          have HN2 : Hid (FIN = st.bind (fun r => some (Nd.mk i false l acc ⟨#[]⟩ [], r))) := Lib.hid (HN.out.trans (congrArg (fun g => st.bind g) (funext fun r => by
            unfold nN
            rw [if_pos (by omega), h0]
            exact nK_zero k i l acc [] r)))
          clear HN
          have HN := HN2
          clear HN2
          go_wp2_with fail
          go_loopw [9] (fun s9 wr => s9 = .int .i64 0 ∧ wr = wB) (fun _ _ => 0)
          case atStart => exact ⟨rfl, rfl⟩
          case round =>
            obtain ⟨rfl, rfl⟩ := hrel
            go_upto_region 21 with fail
            have y0 := HBY2.out.cell 0
            have f0 := HBY2.out.frozen 0
            have z0 := HZ.out.cell 0
            have y1 := HBY2.out.cell 1
            have f1 := HBY2.out.frozen 1
            have z1 := HZ.out.cell 1
            have y2 := HBY2.out.cell 2
            have f2 := HBY2.out.frozen 2
            have z2 := HZ.out.cell 2
            have y3 := HBY2.out.cell 3
            have f3 := HBY2.out.frozen 3
            have z3 := HZ.out.cell 3
            have y4 := HBY2.out.cell 4
            have f4 := HBY2.out.frozen 4
            have z4 := HZ.out.cell 4
            have y5 := HBY2.out.cell 5
            have f5 := HBY2.out.frozen 5
            have z5 := HZ.out.cell 5
            go_wp2_with fail
            refine bodyPost_ret (results_st rfl _ rfl (HBY2.out.six _ _ _ _ _ _) Try.underlying32 rfl info32) rfl ?_
            have F2 := Fr.six wr Y (.int .u64 (i : Int)) (.bool false) (.string l) (.slice vA acc.length vC) (.string ⟨#[]⟩) (.slice none 0 0)
            have hwL : w.heap.size ≤ LO := by have := HSZ.out; rw [HYY.out]; omega
            refine DocC.fin (x := .mk i false l acc ⟨#[]⟩ []) (Fr.new ((HF.out.mono fun q hq => .inl hq).trans (F2.mono fun q hq => .inr (by rw [show q = Y from hq, HYY.out]; omega)))) HN.out ?_ (HDS.out.fr F2 (fun q hq => by rw [show q = Y from hq]; omega) (by show ¬ D = Y; omega))
            have a1 : Late (old w.heap.size) (fun W => RdA W acc (.slice vA acc.length vC)) _ := HLA.out.to F2 (fun q hq hh => by
              rcases hh with hh | hh
              · rw [show q = Y from hh]; have := HSZ.out; show Y < LO; omega
              · exact Nat.lt_of_lt_of_le (show q < w.heap.size from hh) hwL)
            exact (a1.and (show Late (old w.heap.size) (fun W => RdK W [] (.slice none 0 0)) _ from Late.all fun W => ⟨none, 0, rfl, Nat.le_refl _, by decide, fun h => absurd rfl h⟩)).imp fun W ⟨h1, h2⟩ => Nd.rd_shut (t := .mk (i : Int) false l acc ⟨#[]⟩ []) (Int.natCast_nonneg i) (by show (i : Int) ≤ _; omega) hl (by show (0 : Nat) ≤ maxLen; decide) h1 h2
        have t1 : decide (0 < m) = true := decide_eq_true h0
        have t1' : decide ((0 : Int) < (m : Int)) = true := decide_eq_true (by omega)
        by_cases hbad : d < 64 ∧ m ≤ 512
        · obtain ⟨hd2, hm2⟩ := hbad
          have t2 : decide (64 ≤ d) = false := decide_eq_false (by omega)
          have t2' : decide ((64 : Int) ≤ (d : Int)) = false := decide_eq_false (by omega)
          have t3 : decide (512 < m) = false := decide_eq_false (by omega)
          have t3' : decide ((512 : Int) < (m : Int)) = false := decide_eq_false (by omega)
          have HN2 : Hid (FIN = st.bind (nK k i l acc [] m)) := Lib.hid (HN.out.trans (congrArg (fun g => st.bind g) (funext fun r => by
            unfold nN
            rw [if_pos (by omega)])))
          clear HN
          have HN := HN2
          clear HN2
          obtain ⟨LO2, hLO2⟩ : ∃ q, wB.heap.size = q := ⟨_, rfl⟩
          have HSZ2 := Lib.hid (show LO ≤ LO2 by rw [← hLO2]; exact HSL.out)
          have HLO2 := Lib.hid hLO2
          have HZ0 := HZ
          have HFw := HF
          clear hLO2 HF HSL
          go_wp2_with fail
          go_loopw [9] (fun s9 wr => ∃ (j : Nat) (kacc : List Nd) (st : Option (List UInt8)) (kv : Value), s9 = .int .i64 (j : Int) ∧ j ≤ m ∧ kacc.length = j ∧ rowV2 RdNd 32 6 LO2 kacc kv wr ∧ NBox wr Z 32 #[.int .u64 (i : Int), .bool false, .string l, .slice vA acc.length vC, .string ⟨#[]⟩, kv] ∧ DS w0 wr D bs bv st ∧ Fr wB wr (fun q => q = D ∨ q = Z) ∧ Hid (FIN = st.bind (nK k i l acc kacc (m - j)))) (fun s9 _ => m - (intOf s9).toNat)
          case atStart => exact ⟨0, [], st, _, rfl, Nat.zero_le _, rfl, ⟨[], ⟨rfl, .inl ⟨rfl, rfl⟩⟩, Late.all fun _ => rfl⟩, HZ.out, HDS.out, Fr.refl _ _, HN⟩
          case round =>
            clear HDS HN HZ
            obtain ⟨j, kacc, st, kv, rfl, hj, hal, hRV, hZ, hDS, hF, HN⟩ := hrel
            have HRV := Lib.hid hRV
            obtain ⟨us, hO, hLT⟩ := hRV
            have q1 : (0 : Int) ≤ (j : Int) := by omega
            obtain ⟨a, x, hb, ha, hs⟩ := hDS.box
            have b2 := hb.cell 2
            have hnoD := hb.not_own hO (by decide)
            have HO := Lib.hid hO
            have HLT := Lib.hid hLT
            have HF := Lib.hid hF
            have HDS := Lib.hid hDS
            have HZ := Lib.hid hZ
            have HAL : Hid (kacc.length = j) := Lib.hid hal
            have hal2 : kacc.length ≤ 512 := by omega
            obtain ⟨kA, kC, rfl, -⟩ := RdS.of_owns hO
            have HNO := Lib.hid hnoD
            clear hO hDS hF hal hb hLT hZ hnoD
            rcases Nat.lt_or_ge j m with hlt | hlt
            · have q2 : (j : Int) < (m : Int) := by omega
              cases st with
              | none =>
                subst hs
                clear HNO HAL HLT HO
                have HLK := Lib.hid HRV.out.kids
                have HBY2' := Lib.hid (HBY2.out.fr HF.out (by rintro (hh | hh) <;> omega))
                have HLA' := Lib.hid (HLA.out.to (S' := old LO) HF.out (fun q _ hh => by
                  rcases hh with (hh | hh) | hh
                  · rw [hh]; have := HSZ.out; show D < LO; omega
                  · rw [hh]; have := HSZ.out; show Z < LO; omega
                  · exact hh))
                have HF' : Hid (Fr w wr (isB D)) := Lib.hid (Fr.new ((HFw.out.mono fun q hq => .inl hq).trans (HF.out.mono fun q hq => hq.elim (fun h => .inl h) (fun h => .inr (by rw [h, HYY.out]; omega)))))
                clear HBY2 HLA HF HRV
                have HBY2 := HBY2'
                have HLA := HLA'
                have HF := HF'
                clear HBY2' HLA' HF'
                have HN : Hid (FIN = (none : Option (List UInt8)).bind (fun r => some (Nd.mk i false l acc ⟨#[]⟩ kacc, r))) := HN
                go_upto_region 21 with fail
                clear b2
                have y0 := HBY2.out.cell 0
                have f0 := HBY2.out.frozen 0
                have z0 := HZ.out.cell 0
                have y1 := HBY2.out.cell 1
                have f1 := HBY2.out.frozen 1
                have z1 := HZ.out.cell 1
                have y2 := HBY2.out.cell 2
                have f2 := HBY2.out.frozen 2
                have z2 := HZ.out.cell 2
                have y3 := HBY2.out.cell 3
                have f3 := HBY2.out.frozen 3
                have z3 := HZ.out.cell 3
                have y4 := HBY2.out.cell 4
                have f4 := HBY2.out.frozen 4
                have z4 := HZ.out.cell 4
                have y5 := HBY2.out.cell 5
                have f5 := HBY2.out.frozen 5
                have z5 := HZ.out.cell 5
                go_wp2_with fail
                refine bodyPost_ret (results_st rfl _ rfl (HBY2.out.six _ _ _ _ _ _) Try.underlying32 rfl info32) rfl ?_
                have F2 := Fr.six wr Y (.int .u64 (i : Int)) (.bool false) (.string l) (.slice vA acc.length vC) (.string ⟨#[]⟩) (.slice kA kacc.length kC)
                have hwL : w.heap.size ≤ LO := by have := HSZ.out; rw [HYY.out]; omega
                refine DocC.fin (x := .mk i false l acc ⟨#[]⟩ kacc) (Fr.new ((HF.out.mono fun q hq => .inl hq).trans (F2.mono fun q hq => .inr (by rw [show q = Y from hq, HYY.out]; omega)))) HN.out ?_ (HDS.out.fr F2 (fun q hq => by rw [show q = Y from hq]; omega) (by show ¬ D = Y; omega))
                have a1 : Late (old w.heap.size) (fun W => RdA W acc (.slice vA acc.length vC)) _ := HLA.out.to F2 (fun q hq hh => by
                  rcases hh with hh | hh
                  · rw [show q = Y from hh]; have := HSZ.out; show Y < LO; omega
                  · exact Nat.lt_of_lt_of_le (show q < w.heap.size from hh) hwL)
                have a2 : Late (old w.heap.size) (fun W => RdK W kacc (.slice kA kacc.length kC)) _ := HLK.out.to F2 (fun q hq hh => by
                  rcases hh with hh | hh
                  · rw [show q = Y from hh]; have := HSZ.out; have := HSZ2.out; show Y < LO2; omega
                  · exact Nat.lt_of_lt_of_le (show q < w.heap.size from hh) (Nat.le_trans hwL HSZ2.out))
                exact (a1.and a2).imp fun W ⟨h1, h2⟩ => Nd.rd_shut (t := .mk (i : Int) false l acc ⟨#[]⟩ kacc) (Int.natCast_nonneg i) (by show (i : Int) ≤ _; omega) hl (by show (0 : Nat) ≤ maxLen; decide) h1 h2
              | some b =>
                obtain ⟨rfl, -⟩ := hs
                have HN2 : Hid (FIN = (nodeP k b).bind (fun q => nK k i l acc (kacc ++ [q.1]) (m - (j + 1)) q.2)) := Lib.hid (HN.out.trans ((congrArg (fun q => nK k i l acc kacc q b) (show m - j = (m - (j + 1)) + 1 by omega)).trans (nK_step k i l acc kacc (m - (j + 1)) b)))
                clear HRV HN
                have HN := HN2
                clear HN2
                have hk0 : 0 < k := by omega
                have HSW : Hid (LO2 ≤ wr.heap.size) := Lib.hid (by rw [← HLO2.out]; exact HF.out.size)
                go_upto_region 20 with fail
                clear b2
                obtain ⟨c0, hc0⟩ : ∃ c0, wr.drew = c0 := ⟨_, rfl⟩
                have hX0 : Ext wr c0 := by rw [← hc0]; exact (Ext.refl _).drew
                have HOW := HO
                have HO' := Lib.hid (owns_ext hX0 HO.out)
                have HZ' := Lib.hid (HZ.out.ext hX0)
                have HDS' := Lib.hid (HDS.out.more hX0)
                have HF' := Lib.hid (HF.out.trans (Fr.of_ext hX0 _))
                have HLT' := Lib.hid (HLT.out.ext hX0)
                have HSL := Lib.hid hX0.size
                clear HO
                have HO := HO'
                clear HO'
                clear HZ
                have HZ := HZ'
                clear HZ'
                clear HDS
                have HDS := HDS'
                clear HDS'
                clear HF
                have HF := HF'
                clear HF'
                clear HLT
                have HLT := HLT'
                clear HLT'
                refine wp_region_held_drew (S := fun _ => True) (by kernel_rfl) trivial (fun hHeld => ?_)
                rw [hc0]
                clear hc0 hX0
                refine wpAnyH_take (i := 0) (oi := ⟨_, _, _, _, _, _⟩) (v := ?_) rfl (by kernel_rfl) (by kernel_rfl) (by kernel_rfl) (fun _ _ _ h => h) (Or.inl ⟨by rfl, ?_⟩) hHeld ?_
                rotate_left
                · intro w hSw
                  try dsimp only at hSw
                  go_simp
                  all_goals (first | with_reducible rfl | rw [if_pos (by omega)])
                try simp only [Act.put, List.setIfInBounds_toArray, List.set_cons_zero, List.set_cons_succ]
                refine wpAnyH_take (i := 2) (oi := ⟨_, _, _, _, _, _⟩) (v := ?_) rfl (by kernel_rfl) (by kernel_rfl) (by kernel_rfl) (fun _ _ _ h => h) (Or.inl ⟨by rfl, ?_⟩) hHeld ?_
                rotate_left
                · intro w hSw
                  try dsimp only at hSw
                  go_simp
                  all_goals (first | with_reducible rfl | rw [if_pos (by omega)])
                try simp only [Act.put, List.setIfInBounds_toArray, List.set_cons_zero, List.set_cons_succ]
                refine wpAnyH_take (i := 3) (oi := ⟨_, _, _, _, _, _⟩) (v := ?_) rfl (by kernel_rfl) (by kernel_rfl) (by kernel_rfl) (fun _ _ _ h => h) (Or.inl ⟨by rfl, ?_⟩) hHeld ?_
                rotate_left
                · intro w hSw
                  try dsimp only at hSw
                  go_simp
                  all_goals (first | with_reducible rfl | rw [if_pos (by omega)])
                try simp only [Act.put, List.setIfInBounds_toArray, List.set_cons_zero, List.set_cons_succ]
                refine wpAnyH_take (i := 4) (oi := ⟨_, _, _, _, _, _⟩) (v := ?_) rfl (by kernel_rfl) (by kernel_rfl) (by kernel_rfl) (fun _ _ _ h => h) (Or.inl ⟨by rfl, ?_⟩) hHeld ?_
                rotate_left
                · intro w hSw
                  try dsimp only at hSw
                  go_simp
                  all_goals (first | with_reducible rfl | rw [if_pos (by omega)])
                try simp only [Act.put, List.setIfInBounds_toArray, List.set_cons_zero, List.set_cons_succ]
                refine wpAnyH_ready (rs := [1, 5]) (by kernel_rfl) (by simp) ?_
                refine AllReadyH.cons (o := ⟨_, _, _, _, _, _⟩) rfl (fun K' hK => ?_) (AllReadyH.cons (o := ⟨_, _, _, _, _, _⟩) rfl (fun K' hK => ?_) (AllReadyH.nil))
                ·
                  have yk := HZ.out.cell 5
                  go_simp
                  refine hK.out _ _ trivial (fun hHeld => ?_)
                  clear hK K' yk
                  try simp only [Act.put, List.setIfInBounds_toArray, List.set_cons_zero, List.set_cons_succ]
                  refine wpAnyH_ready (rs := [5]) (by kernel_rfl) (by simp) ?_
                  refine AllReadyH.cons (o := ⟨_, _, _, _, _, _⟩) rfl (fun K' hK => ?_) (AllReadyH.nil)
                  have hc := HIH.out hk0 (d + 1) bs bv (some b) w0 c0 D (by omega) HDS.out
                  have hcast : ((d + 1 : Nat) : Int) = IntKind.i64.wrap ((d : Int) + 1) := by rw [IntWalk.i64_in _ (by omega)]; omega
                  rw [hcast] at hc
                  clear hcast
                  obtain ⟨p, hp⟩ : ∃ p, (some b).bind (nodeP k) = p := ⟨_, rfl⟩
                  have HN3 : Hid (FIN = p.bind (fun q => nK k i l acc (kacc ++ [q.1]) (m - (j + 1)) q.2)) := Lib.hid (by rw [← hp]; exact HN.out)
                  rw [hp] at hc
                  clear hp HN
                  go_simp
                  go_at_call 60
                  refine hc.mono ?_
                  clear hc
                  rintro e w_2 hP
                  obtain ⟨y, st, v, rfl, hv, hDS, hF, HG⟩ := DocC.one hP
                  obtain ⟨e0, e1, e2, e3, e4, e5, rfl, ⟨o0, o1, o2, o3, o4, o5⟩, hLY⟩ := ndV_gets _ _ _ _ hv
                  have HN : Hid (FIN = st.bind (nK k i l acc (kacc ++ [y]) (m - (j + 1)))) := Lib.hid (HN3.out.trans (HG.out (fun z => nK k i l acc (kacc ++ [z]) (m - (j + 1)))))
                  have HZ' := Lib.hid (HZ.out.fr hF (by show ¬ Z = D; omega))
                  have HO' := Lib.hid (owns_fr hF HO.out (fun g hg hk => HNO.out (by rw [hg]; exact congrArg some hk)))
                  have HF' := Lib.hid (HF.out.trans (hF.mono fun q hq => .inl hq))
                  have HLT' := Lib.hid (HLT.out.to (S' := rowS LO2 (.slice kA kacc.length kC)) hF (fun q _ hh => hh.elim (fun h => .inl (by rw [show q = D from h]; have := HSZ.out; have := HSZ2.out; omega)) id))
                  have HLY := Lib.hid (hLY.low HSL.out)
                  have HDS' := Lib.hid hDS
                  have HONES : Hid (∀ u ∈ [e0, e1, e2, e3, e4, e5], u.oneCell' = true) := Lib.hid (by simp [o0, o1, o2, o3, o4, o5])
                  have HSL' := Lib.hid (Nat.le_trans HSL.out hF.size)
                  clear hP HG HN3 hv hLY hDS hF o0 o1 o2 o3 o4 o5
                  clear HZ
                  have HZ := HZ'
                  clear HZ'
                  clear HO
                  have HO := HO'
                  clear HO'
                  clear HF
                  have HF := HF'
                  clear HF'
                  clear HLT
                  have HLT := HLT'
                  clear HLT'
                  clear HDS
                  have HDS := HDS'
                  clear HDS'
                  clear HSL
                  have HSL := HSL'
                  clear HSL'
                  refine hK.out _ _ trivial (fun hHeld => ?_)
                  clear hK K'
                  try simp only [Act.put, List.setIfInBounds_toArray, List.set_cons_zero, List.set_cons_succ]
                  refine wpAnyH_ready (rs := [6]) (by kernel_rfl) (by simp) ?_
                  refine AllReadyH.cons (o := ⟨_, _, _, _, _, _⟩) rfl (fun K' hK => ?_) (AllReadyH.nil)
                  obtain ⟨w_3, hw3⟩ : ∃ W, w_2.alloc (.cells #[e0, e1, e2, e3, e4, e5] 32) = W := ⟨_, rfl⟩
                  obtain ⟨S, hS⟩ : ∃ S, w_2.heap.size = S := ⟨_, rfl⟩
                  have X3 : Ext w_2 w_3 := by rw [← hw3]; exact (Ext.refl _).alloc _
                  have HRD : Hid (RdS w_3 6 1 [e0, e1, e2, e3, e4, e5] (.slice (some ⟨S, 0, none⟩) 1 1)) := Lib.hid (by rw [← hw3, ← hS]; exact RdS.one (cs := #[e0, e1, e2, e3, e4, e5]) rfl)
                  have HO' := Lib.hid (owns_ext X3 HO.out)
                  have HZ' := Lib.hid (HZ.out.ext X3)
                  have HDS' := Lib.hid (HDS.out.more X3)
                  have HF' := Lib.hid (HF.out.trans (Fr.of_ext X3 _))
                  have HLT' := Lib.hid (HLT.out.ext X3)
                  have HLY' := Lib.hid (HLY.out.ext X3)
                  have HSL' := Lib.hid (Nat.le_trans HSL.out X3.size)
                  have HW3 := Lib.hid hw3
                  have HSS := Lib.hid hS
                  clear hw3 hS X3
                  clear HZ
                  have HZ := HZ'
                  clear HZ'
                  clear HO
                  have HO := HO'
                  clear HO'
                  clear HF
                  have HF := HF'
                  clear HF'
                  clear HLT
                  have HLT := HLT'
                  clear HLT'
                  clear HDS
                  have HDS := HDS'
                  clear HDS'
                  clear HSL
                  have HSL := HSL'
                  clear HSL'
                  clear HLY
                  have HLY := HLY'
                  clear HLY'
                  go_simp
                  rw [HW3.out, HSS.out]
                  refine hK.out _ _ trivial (fun hHeld => ?_)
                  clear hK K' HW3 HSS
                  try simp only [Act.put, List.setIfInBounds_toArray, List.set_cons_zero, List.set_cons_succ]
                  refine wpAnyH_ready (rs := [7]) (by kernel_rfl) (by simp) ?_
                  refine AllReadyH.cons (o := ⟨_, _, _, _, _, _⟩) rfl (fun K' hK => ?_) (AllReadyH.nil)
                  refine wp_append_rd rfl T30 (by rfl) HO.out (by rfl) HRD.out HONES.out (by omega) (by simp only [maxLen]; omega) (Nat.le_trans HSW.out HSL.out) ?_
                  intro v4 w_4 O1 hg hat
                  have F5 := Fr.grown hg
                  have hgb : ∀ q, (Value.slice kA kacc.length kC).ownBlock = some q → LO2 ≤ q := fun q hq => owns_base HO.out q hq
                  have HZ4 := Lib.hid (HZ.out.fr F5 (fun hh => by have := hgb Z hh; have := HSZ.out; have := HSZ2.out; omega))
                  have HRV := Lib.hid (rowV2.add HOW.out HLT.out HLY.out rfl HSW.out hg hat O1)
                  have HDS4 := Lib.hid (HDS.out.fr F5 (fun q hq => Nat.le_trans (by have := HSZ.out; have := HSZ2.out; omega) (hgb q hq)) HNO.out)
                  have HF4 : Hid (Fr wB w_4 (fun q => q = D ∨ q = Z)) := Lib.hid (Fr.new ((HF.out.mono fun q hq => .inl hq).trans (F5.mono fun q hq => .inr (by rw [HLO2.out]; exact hgb q hq))))
                  obtain ⟨qA, qC, rfl, -⟩ := RdS.of_owns O1
                  clear F5 hgb hg hat O1 HDS HF HLT HLY HRD HONES HZ
                  refine hK.out _ _ trivial (fun hHeld => ?_)
                  clear hK K'
                  try simp only [Act.put, List.setIfInBounds_toArray, List.set_cons_zero, List.set_cons_succ]
                  refine wpAnyH_take (i := 8) (oi := ⟨_, _, _, _, _, _⟩) (v := ?_) rfl (by kernel_rfl) (by kernel_rfl) (by kernel_rfl) (fun _ _ _ h => h) (Or.inl ⟨by rfl, ?_⟩) hHeld ?_
                  rotate_left
                  · intro w hSw
                    try dsimp only at hSw
                    go_simp
                    all_goals (first | with_reducible rfl | rw [if_pos (by omega)])
                  try simp only [Act.put, List.setIfInBounds_toArray, List.set_cons_zero, List.set_cons_succ]
                  refine wpAnyH_ready (rs := [9]) (by kernel_rfl) (by simp) ?_
                  refine AllReadyH.cons (o := ⟨_, _, _, _, _, _⟩) rfl (fun K' hK => ?_) (AllReadyH.nil)
                  have y5 := HZ4.out.cell 5
                  have z5 := HZ4.out.frozen 5
                  go_simp
                  refine hK.out _ _ trivial (fun hHeld => ?_)
                  clear hK K' y5 z5
                  try simp only [Act.put, List.setIfInBounds_toArray, List.set_cons_zero, List.set_cons_succ]
                  refine wpAnyH_done (by kernel_rfl) ?_ _
                  clear hHeld
                  go_wp2_with fail
                  have F6 := Fr.setCell w_4 Z 5 (.slice qA (kacc.length + 1) qC)
                  refine ⟨⟨j + 1, kacc ++ [y], st, .slice qA (kacc.length + 1) qC, by go_num, by omega, by rw [List.length_append, HAL.out]; rfl, HRV.out.fr F6 (by have := HSZ.out; have := HSZ2.out; omega), HZ4.out.set 5 _, HDS4.out.fr F6 (fun q hq => by rw [show q = Z from hq]; omega) (by show ¬ D = Z; omega), HF4.out.trans (F6.mono fun q hq => .inr hq), HN⟩, by simp [intOf]; omega⟩
                ·
                  have hc := HIH.out hk0 (d + 1) bs bv (some b) w0 c0 D (by omega) HDS.out
                  have hcast : ((d + 1 : Nat) : Int) = IntKind.i64.wrap ((d : Int) + 1) := by rw [IntWalk.i64_in _ (by omega)]; omega
                  rw [hcast] at hc
                  clear hcast
                  obtain ⟨p, hp⟩ : ∃ p, (some b).bind (nodeP k) = p := ⟨_, rfl⟩
                  have HN3 : Hid (FIN = p.bind (fun q => nK k i l acc (kacc ++ [q.1]) (m - (j + 1)) q.2)) := Lib.hid (by rw [← hp]; exact HN.out)
                  rw [hp] at hc
                  clear hp HN
                  go_simp
                  go_at_call 60
                  refine hc.mono ?_
                  clear hc
                  rintro e w_2 hP
                  obtain ⟨y, st, v, rfl, hv, hDS, hF, HG⟩ := DocC.one hP
                  obtain ⟨e0, e1, e2, e3, e4, e5, rfl, ⟨o0, o1, o2, o3, o4, o5⟩, hLY⟩ := ndV_gets _ _ _ _ hv
                  have HN : Hid (FIN = st.bind (nK k i l acc (kacc ++ [y]) (m - (j + 1)))) := Lib.hid (HN3.out.trans (HG.out (fun z => nK k i l acc (kacc ++ [z]) (m - (j + 1)))))
                  have HZ' := Lib.hid (HZ.out.fr hF (by show ¬ Z = D; omega))
                  have HO' := Lib.hid (owns_fr hF HO.out (fun g hg hk => HNO.out (by rw [hg]; exact congrArg some hk)))
                  have HF' := Lib.hid (HF.out.trans (hF.mono fun q hq => .inl hq))
                  have HLT' := Lib.hid (HLT.out.to (S' := rowS LO2 (.slice kA kacc.length kC)) hF (fun q _ hh => hh.elim (fun h => .inl (by rw [show q = D from h]; have := HSZ.out; have := HSZ2.out; omega)) id))
                  have HLY := Lib.hid (hLY.low HSL.out)
                  have HDS' := Lib.hid hDS
                  have HONES : Hid (∀ u ∈ [e0, e1, e2, e3, e4, e5], u.oneCell' = true) := Lib.hid (by simp [o0, o1, o2, o3, o4, o5])
                  have HSL' := Lib.hid (Nat.le_trans HSL.out hF.size)
                  clear hP HG HN3 hv hLY hDS hF o0 o1 o2 o3 o4 o5
                  clear HZ
                  have HZ := HZ'
                  clear HZ'
                  clear HO
                  have HO := HO'
                  clear HO'
                  clear HF
                  have HF := HF'
                  clear HF'
                  clear HLT
                  have HLT := HLT'
                  clear HLT'
                  clear HDS
                  have HDS := HDS'
                  clear HDS'
                  clear HSL
                  have HSL := HSL'
                  clear HSL'
                  refine hK.out _ _ trivial (fun hHeld => ?_)
                  clear hK K'
                  try simp only [Act.put, List.setIfInBounds_toArray, List.set_cons_zero, List.set_cons_succ]
                  refine wpAnyH_ready (rs := [1, 6]) (by kernel_rfl) (by simp) ?_
                  refine AllReadyH.cons (o := ⟨_, _, _, _, _, _⟩) rfl (fun K' hK => ?_) (AllReadyH.cons (o := ⟨_, _, _, _, _, _⟩) rfl (fun K' hK => ?_) (AllReadyH.nil))
                  ·
                    have yk := HZ.out.cell 5
                    go_simp
                    refine hK.out _ _ trivial (fun hHeld => ?_)
                    clear hK K' yk
                    try simp only [Act.put, List.setIfInBounds_toArray, List.set_cons_zero, List.set_cons_succ]
                    refine wpAnyH_ready (rs := [6]) (by kernel_rfl) (by simp) ?_
                    refine AllReadyH.cons (o := ⟨_, _, _, _, _, _⟩) rfl (fun K' hK => ?_) (AllReadyH.nil)
                    obtain ⟨w_3, hw3⟩ : ∃ W, w_2.alloc (.cells #[e0, e1, e2, e3, e4, e5] 32) = W := ⟨_, rfl⟩
                    obtain ⟨S, hS⟩ : ∃ S, w_2.heap.size = S := ⟨_, rfl⟩
                    have X3 : Ext w_2 w_3 := by rw [← hw3]; exact (Ext.refl _).alloc _
                    have HRD : Hid (RdS w_3 6 1 [e0, e1, e2, e3, e4, e5] (.slice (some ⟨S, 0, none⟩) 1 1)) := Lib.hid (by rw [← hw3, ← hS]; exact RdS.one (cs := #[e0, e1, e2, e3, e4, e5]) rfl)
                    have HO' := Lib.hid (owns_ext X3 HO.out)
                    have HZ' := Lib.hid (HZ.out.ext X3)
                    have HDS' := Lib.hid (HDS.out.more X3)
                    have HF' := Lib.hid (HF.out.trans (Fr.of_ext X3 _))
                    have HLT' := Lib.hid (HLT.out.ext X3)
                    have HLY' := Lib.hid (HLY.out.ext X3)
                    have HSL' := Lib.hid (Nat.le_trans HSL.out X3.size)
                    have HW3 := Lib.hid hw3
                    have HSS := Lib.hid hS
                    clear hw3 hS X3
                    clear HZ
                    have HZ := HZ'
                    clear HZ'
                    clear HO
                    have HO := HO'
                    clear HO'
                    clear HF
                    have HF := HF'
                    clear HF'
                    clear HLT
                    have HLT := HLT'
                    clear HLT'
                    clear HDS
                    have HDS := HDS'
                    clear HDS'
                    clear HSL
                    have HSL := HSL'
                    clear HSL'
                    clear HLY
                    have HLY := HLY'
                    clear HLY'
                    go_simp
                    rw [HW3.out, HSS.out]
                    refine hK.out _ _ trivial (fun hHeld => ?_)
                    clear hK K' HW3 HSS
                    try simp only [Act.put, List.setIfInBounds_toArray, List.set_cons_zero, List.set_cons_succ]
                    refine wpAnyH_ready (rs := [7]) (by kernel_rfl) (by simp) ?_
                    refine AllReadyH.cons (o := ⟨_, _, _, _, _, _⟩) rfl (fun K' hK => ?_) (AllReadyH.nil)
                    refine wp_append_rd rfl T30 (by rfl) HO.out (by rfl) HRD.out HONES.out (by omega) (by simp only [maxLen]; omega) (Nat.le_trans HSW.out HSL.out) ?_
                    intro v4 w_4 O1 hg hat
                    have F5 := Fr.grown hg
                    have hgb : ∀ q, (Value.slice kA kacc.length kC).ownBlock = some q → LO2 ≤ q := fun q hq => owns_base HO.out q hq
                    have HZ4 := Lib.hid (HZ.out.fr F5 (fun hh => by have := hgb Z hh; have := HSZ.out; have := HSZ2.out; omega))
                    have HRV := Lib.hid (rowV2.add HOW.out HLT.out HLY.out rfl HSW.out hg hat O1)
                    have HDS4 := Lib.hid (HDS.out.fr F5 (fun q hq => Nat.le_trans (by have := HSZ.out; have := HSZ2.out; omega) (hgb q hq)) HNO.out)
                    have HF4 : Hid (Fr wB w_4 (fun q => q = D ∨ q = Z)) := Lib.hid (Fr.new ((HF.out.mono fun q hq => .inl hq).trans (F5.mono fun q hq => .inr (by rw [HLO2.out]; exact hgb q hq))))
                    obtain ⟨qA, qC, rfl, -⟩ := RdS.of_owns O1
                    clear F5 hgb hg hat O1 HDS HF HLT HLY HRD HONES HZ
                    refine hK.out _ _ trivial (fun hHeld => ?_)
                    clear hK K'
                    try simp only [Act.put, List.setIfInBounds_toArray, List.set_cons_zero, List.set_cons_succ]
                    refine wpAnyH_take (i := 8) (oi := ⟨_, _, _, _, _, _⟩) (v := ?_) rfl (by kernel_rfl) (by kernel_rfl) (by kernel_rfl) (fun _ _ _ h => h) (Or.inl ⟨by rfl, ?_⟩) hHeld ?_
                    rotate_left
                    · intro w hSw
                      try dsimp only at hSw
                      go_simp
                      all_goals (first | with_reducible rfl | rw [if_pos (by omega)])
                    try simp only [Act.put, List.setIfInBounds_toArray, List.set_cons_zero, List.set_cons_succ]
                    refine wpAnyH_ready (rs := [9]) (by kernel_rfl) (by simp) ?_
                    refine AllReadyH.cons (o := ⟨_, _, _, _, _, _⟩) rfl (fun K' hK => ?_) (AllReadyH.nil)
                    have y5 := HZ4.out.cell 5
                    have z5 := HZ4.out.frozen 5
                    go_simp
                    refine hK.out _ _ trivial (fun hHeld => ?_)
                    clear hK K' y5 z5
                    try simp only [Act.put, List.setIfInBounds_toArray, List.set_cons_zero, List.set_cons_succ]
                    refine wpAnyH_done (by kernel_rfl) ?_ _
                    clear hHeld
                    go_wp2_with fail
                    have F6 := Fr.setCell w_4 Z 5 (.slice qA (kacc.length + 1) qC)
                    refine ⟨⟨j + 1, kacc ++ [y], st, .slice qA (kacc.length + 1) qC, by go_num, by omega, by rw [List.length_append, HAL.out]; rfl, HRV.out.fr F6 (by have := HSZ.out; have := HSZ2.out; omega), HZ4.out.set 5 _, HDS4.out.fr F6 (fun q hq => by rw [show q = Z from hq]; omega) (by show ¬ D = Z; omega), HF4.out.trans (F6.mono fun q hq => .inr hq), HN⟩, by simp [intOf]; omega⟩
                  ·
                    obtain ⟨w_3, hw3⟩ : ∃ W, w_2.alloc (.cells #[e0, e1, e2, e3, e4, e5] 32) = W := ⟨_, rfl⟩
                    obtain ⟨S, hS⟩ : ∃ S, w_2.heap.size = S := ⟨_, rfl⟩
                    have X3 : Ext w_2 w_3 := by rw [← hw3]; exact (Ext.refl _).alloc _
                    have HRD : Hid (RdS w_3 6 1 [e0, e1, e2, e3, e4, e5] (.slice (some ⟨S, 0, none⟩) 1 1)) := Lib.hid (by rw [← hw3, ← hS]; exact RdS.one (cs := #[e0, e1, e2, e3, e4, e5]) rfl)
                    have HO' := Lib.hid (owns_ext X3 HO.out)
                    have HZ' := Lib.hid (HZ.out.ext X3)
                    have HDS' := Lib.hid (HDS.out.more X3)
                    have HF' := Lib.hid (HF.out.trans (Fr.of_ext X3 _))
                    have HLT' := Lib.hid (HLT.out.ext X3)
                    have HLY' := Lib.hid (HLY.out.ext X3)
                    have HSL' := Lib.hid (Nat.le_trans HSL.out X3.size)
                    have HW3 := Lib.hid hw3
                    have HSS := Lib.hid hS
                    clear hw3 hS X3
                    clear HZ
                    have HZ := HZ'
                    clear HZ'
                    clear HO
                    have HO := HO'
                    clear HO'
                    clear HF
                    have HF := HF'
                    clear HF'
                    clear HLT
                    have HLT := HLT'
                    clear HLT'
                    clear HDS
                    have HDS := HDS'
                    clear HDS'
                    clear HSL
                    have HSL := HSL'
                    clear HSL'
                    clear HLY
                    have HLY := HLY'
                    clear HLY'
                    go_simp
                    rw [HW3.out, HSS.out]
                    refine hK.out _ _ trivial (fun hHeld => ?_)
                    clear hK K' HW3 HSS
                    try simp only [Act.put, List.setIfInBounds_toArray, List.set_cons_zero, List.set_cons_succ]
                    refine wpAnyH_ready (rs := [1]) (by kernel_rfl) (by simp) ?_
                    refine AllReadyH.cons (o := ⟨_, _, _, _, _, _⟩) rfl (fun K' hK => ?_) (AllReadyH.nil)
                    have yk := HZ.out.cell 5
                    go_simp
                    refine hK.out _ _ trivial (fun hHeld => ?_)
                    clear hK K' yk
                    try simp only [Act.put, List.setIfInBounds_toArray, List.set_cons_zero, List.set_cons_succ]
                    refine wpAnyH_ready (rs := [7]) (by kernel_rfl) (by simp) ?_
                    refine AllReadyH.cons (o := ⟨_, _, _, _, _, _⟩) rfl (fun K' hK => ?_) (AllReadyH.nil)
                    refine wp_append_rd rfl T30 (by rfl) HO.out (by rfl) HRD.out HONES.out (by omega) (by simp only [maxLen]; omega) (Nat.le_trans HSW.out HSL.out) ?_
                    intro v4 w_4 O1 hg hat
                    have F5 := Fr.grown hg
                    have hgb : ∀ q, (Value.slice kA kacc.length kC).ownBlock = some q → LO2 ≤ q := fun q hq => owns_base HO.out q hq
                    have HZ4 := Lib.hid (HZ.out.fr F5 (fun hh => by have := hgb Z hh; have := HSZ.out; have := HSZ2.out; omega))
                    have HRV := Lib.hid (rowV2.add HOW.out HLT.out HLY.out rfl HSW.out hg hat O1)
                    have HDS4 := Lib.hid (HDS.out.fr F5 (fun q hq => Nat.le_trans (by have := HSZ.out; have := HSZ2.out; omega) (hgb q hq)) HNO.out)
                    have HF4 : Hid (Fr wB w_4 (fun q => q = D ∨ q = Z)) := Lib.hid (Fr.new ((HF.out.mono fun q hq => .inl hq).trans (F5.mono fun q hq => .inr (by rw [HLO2.out]; exact hgb q hq))))
                    obtain ⟨qA, qC, rfl, -⟩ := RdS.of_owns O1
                    clear F5 hgb hg hat O1 HDS HF HLT HLY HRD HONES HZ
                    refine hK.out _ _ trivial (fun hHeld => ?_)
                    clear hK K'
                    try simp only [Act.put, List.setIfInBounds_toArray, List.set_cons_zero, List.set_cons_succ]
                    refine wpAnyH_take (i := 8) (oi := ⟨_, _, _, _, _, _⟩) (v := ?_) rfl (by kernel_rfl) (by kernel_rfl) (by kernel_rfl) (fun _ _ _ h => h) (Or.inl ⟨by rfl, ?_⟩) hHeld ?_
                    rotate_left
                    · intro w hSw
                      try dsimp only at hSw
                      go_simp
                      all_goals (first | with_reducible rfl | rw [if_pos (by omega)])
                    try simp only [Act.put, List.setIfInBounds_toArray, List.set_cons_zero, List.set_cons_succ]
                    refine wpAnyH_ready (rs := [9]) (by kernel_rfl) (by simp) ?_
                    refine AllReadyH.cons (o := ⟨_, _, _, _, _, _⟩) rfl (fun K' hK => ?_) (AllReadyH.nil)
                    have y5 := HZ4.out.cell 5
                    have z5 := HZ4.out.frozen 5
                    go_simp
                    refine hK.out _ _ trivial (fun hHeld => ?_)
                    clear hK K' y5 z5
                    try simp only [Act.put, List.setIfInBounds_toArray, List.set_cons_zero, List.set_cons_succ]
                    refine wpAnyH_done (by kernel_rfl) ?_ _
                    clear hHeld
                    go_wp2_with fail
                    have F6 := Fr.setCell w_4 Z 5 (.slice qA (kacc.length + 1) qC)
                    refine ⟨⟨j + 1, kacc ++ [y], st, .slice qA (kacc.length + 1) qC, by go_num, by omega, by rw [List.length_append, HAL.out]; rfl, HRV.out.fr F6 (by have := HSZ.out; have := HSZ2.out; omega), HZ4.out.set 5 _, HDS4.out.fr F6 (fun q hq => by rw [show q = Z from hq]; omega) (by show ¬ D = Z; omega), HF4.out.trans (F6.mono fun q hq => .inr hq), HN⟩, by simp [intOf]; omega⟩
            · have q2 : (m : Int) ≤ (j : Int) := by omega
              have HN2 : Hid (FIN = st.bind (fun r => some (Nd.mk i false l acc ⟨#[]⟩ kacc, r))) := Lib.hid (by
                rw [HN.out, show m - j = 0 by omega]
                exact congrArg (fun g => st.bind g) (funext fun r => nK_zero k i l acc kacc r))
              clear HNO HAL HLT HO HN
              have HN := HN2
              clear HN2
              have HLK := Lib.hid HRV.out.kids
              have HBY2' := Lib.hid (HBY2.out.fr HF.out (by rintro (hh | hh) <;> omega))
              have HLA' := Lib.hid (HLA.out.to (S' := old LO) HF.out (fun q _ hh => by
                rcases hh with (hh | hh) | hh
                · rw [hh]; have := HSZ.out; show D < LO; omega
                · rw [hh]; have := HSZ.out; show Z < LO; omega
                · exact hh))
              have HF' : Hid (Fr w wr (isB D)) := Lib.hid (Fr.new ((HFw.out.mono fun q hq => .inl hq).trans (HF.out.mono fun q hq => hq.elim (fun h => .inl h) (fun h => .inr (by rw [h, HYY.out]; omega)))))
              clear HBY2 HLA HF HRV
              have HBY2 := HBY2'
              have HLA := HLA'
              have HF := HF'
              clear HBY2' HLA' HF'
              go_upto_region 21 with fail
              have y0 := HBY2.out.cell 0
              have f0 := HBY2.out.frozen 0
              have z0 := HZ.out.cell 0
              have y1 := HBY2.out.cell 1
              have f1 := HBY2.out.frozen 1
              have z1 := HZ.out.cell 1
              have y2 := HBY2.out.cell 2
              have f2 := HBY2.out.frozen 2
              have z2 := HZ.out.cell 2
              have y3 := HBY2.out.cell 3
              have f3 := HBY2.out.frozen 3
              have z3 := HZ.out.cell 3
              have y4 := HBY2.out.cell 4
              have f4 := HBY2.out.frozen 4
              have z4 := HZ.out.cell 4
              have y5 := HBY2.out.cell 5
              have f5 := HBY2.out.frozen 5
              have z5 := HZ.out.cell 5
              go_wp2_with fail
              refine bodyPost_ret (results_st rfl _ rfl (HBY2.out.six _ _ _ _ _ _) Try.underlying32 rfl info32) rfl ?_
              have F2 := Fr.six wr Y (.int .u64 (i : Int)) (.bool false) (.string l) (.slice vA acc.length vC) (.string ⟨#[]⟩) (.slice kA kacc.length kC)
              have hwL : w.heap.size ≤ LO := by have := HSZ.out; rw [HYY.out]; omega
              refine DocC.fin (x := .mk i false l acc ⟨#[]⟩ kacc) (Fr.new ((HF.out.mono fun q hq => .inl hq).trans (F2.mono fun q hq => .inr (by rw [show q = Y from hq, HYY.out]; omega)))) HN.out ?_ (HDS.out.fr F2 (fun q hq => by rw [show q = Y from hq]; omega) (by show ¬ D = Y; omega))
              have a1 : Late (old w.heap.size) (fun W => RdA W acc (.slice vA acc.length vC)) _ := HLA.out.to F2 (fun q hq hh => by
                rcases hh with hh | hh
                · rw [show q = Y from hh]; have := HSZ.out; show Y < LO; omega
                · exact Nat.lt_of_lt_of_le (show q < w.heap.size from hh) hwL)
              have a2 : Late (old w.heap.size) (fun W => RdK W kacc (.slice kA kacc.length kC)) _ := HLK.out.to F2 (fun q hq hh => by
                rcases hh with hh | hh
                · rw [show q = Y from hh]; have := HSZ.out; have := HSZ2.out; show Y < LO2; omega
                · exact Nat.lt_of_lt_of_le (show q < w.heap.size from hh) (Nat.le_trans hwL HSZ2.out))
              exact (a1.and a2).imp fun W ⟨h1, h2⟩ => Nd.rd_shut (t := .mk (i : Int) false l acc ⟨#[]⟩ kacc) (Int.natCast_nonneg i) (by show (i : Int) ≤ _; omega) hl (by show (0 : Nat) ≤ maxLen; decide) h1 h2
        have HN2 : Hid (FIN = (none : Option (List UInt8)).bind (fun r => some (Nd.mk i false l acc ⟨#[]⟩ [], r))) := Lib.hid (HN.out.trans (by
          rcases st with _ | r
          · rfl
          show nN k i l acc m r = none
          by_cases hm2 : m ≤ 512
          · have hk : k = 0 := by omega
            rw [hk]
            exact nN_deep i l acc m r h0
          · unfold nN
            exact if_neg hm2))
        clear HN
        have HN := HN2
        clear HN2
        obtain ⟨a, x, hb, ha, -⟩ := HDS.out.box
        have b2 := hb.cell 2
        have f2 := hb.frozen 2
        obtain ⟨wC, hwC⟩ : ∃ W, wB.setCell ⟨D, 2, none⟩ (.bool true) = W := ⟨_, rfl⟩
        have F2 : Fr wB wC (isB D) := by rw [← hwC]; exact Fr.setCell _ _ _ _
        have HDS' : Hid (DS w0 wC D bs bv none) := Lib.hid ⟨Fr.ext HDS.out.ext F2 (fun q hq => by rw [show q = D from hq]; exact HDS.out.hD), HDS.out.hD, HDS.out.rd, HDS.out.len, a, true, (by rw [← hwC]; exact hb.set 2 _), ha, rfl⟩
        have HZ' := Lib.hid (HZ.out.fr F2 (by show ¬ Z = D; omega))
        have HBY2' := Lib.hid (HBY2.out.fr F2 (by show ¬ Y = D; omega))
        have HF' := Lib.hid (HF.out.trans F2)
        have HLA' := Lib.hid (HLA.out.to (S' := old LO) F2 (fun q _ hh => hh.elim (fun h => by rw [show q = D from h]; have := HSZ.out; show D < LO; omega) id))
        have HWC := Lib.hid hwC
        clear hwC F2 HDS hb
        clear HZ
        have HZ := HZ'
        clear HZ'
        clear HBY2
        have HBY2 := HBY2'
        clear HBY2'
        clear HF
        have HF := HF'
        clear HF'
        clear HLA
        have HLA := HLA'
        clear HLA'
        have HDS := HDS'
        clear HDS'
        rcases Nat.lt_or_ge d 64 with hd2 | hd2
        · have t2 : decide (64 ≤ d) = false := decide_eq_false (by omega)
          have t2' : decide ((64 : Int) ≤ (d : Int)) = false := decide_eq_false (by omega)
          have t3 : decide (512 < m) = true := decide_eq_true (by omega)
          have t3' : decide ((512 : Int) < (m : Int)) = true := decide_eq_true (by omega)
          go_upto_region 17 with fail
          rw [HWC.out]
          clear HWC b2 f2
          obtain ⟨a', x', hb', -, hx'⟩ := HDS.out.box
          have b2 := hb'.cell 2
          subst hx'
          clear hb'
          go_wp2_with fail
          go_loopw [9] (fun s9 wr => s9 = .int .i64 0 ∧ wr = wC) (fun _ _ => 0)
          case atStart => exact ⟨rfl, rfl⟩
          case round =>
            obtain ⟨rfl, rfl⟩ := hrel
            go_upto_region 21 with fail
            have y0 := HBY2.out.cell 0
            have f0 := HBY2.out.frozen 0
            have z0 := HZ.out.cell 0
            have y1 := HBY2.out.cell 1
            have f1 := HBY2.out.frozen 1
            have z1 := HZ.out.cell 1
            have y2 := HBY2.out.cell 2
            have f2 := HBY2.out.frozen 2
            have z2 := HZ.out.cell 2
            have y3 := HBY2.out.cell 3
            have f3 := HBY2.out.frozen 3
            have z3 := HZ.out.cell 3
            have y4 := HBY2.out.cell 4
            have f4 := HBY2.out.frozen 4
            have z4 := HZ.out.cell 4
            have y5 := HBY2.out.cell 5
            have f5 := HBY2.out.frozen 5
            have z5 := HZ.out.cell 5
            go_wp2_with fail
            refine bodyPost_ret (results_st rfl _ rfl (HBY2.out.six _ _ _ _ _ _) Try.underlying32 rfl info32) rfl ?_
            have F2 := Fr.six wr Y (.int .u64 (i : Int)) (.bool false) (.string l) (.slice vA acc.length vC) (.string ⟨#[]⟩) (.slice none 0 0)
            have hwL : w.heap.size ≤ LO := by have := HSZ.out; rw [HYY.out]; omega
            refine DocC.fin (x := .mk i false l acc ⟨#[]⟩ []) (Fr.new ((HF.out.mono fun q hq => .inl hq).trans (F2.mono fun q hq => .inr (by rw [show q = Y from hq, HYY.out]; omega)))) HN.out ?_ (HDS.out.fr F2 (fun q hq => by rw [show q = Y from hq]; omega) (by show ¬ D = Y; omega))
            have a1 : Late (old w.heap.size) (fun W => RdA W acc (.slice vA acc.length vC)) _ := HLA.out.to F2 (fun q hq hh => by
              rcases hh with hh | hh
              · rw [show q = Y from hh]; have := HSZ.out; show Y < LO; omega
              · exact Nat.lt_of_lt_of_le (show q < w.heap.size from hh) hwL)
            exact (a1.and (show Late (old w.heap.size) (fun W => RdK W [] (.slice none 0 0)) _ from Late.all fun W => ⟨none, 0, rfl, Nat.le_refl _, by decide, fun h => absurd rfl h⟩)).imp fun W ⟨h1, h2⟩ => Nd.rd_shut (t := .mk (i : Int) false l acc ⟨#[]⟩ []) (Int.natCast_nonneg i) (by show (i : Int) ≤ _; omega) hl (by show (0 : Nat) ≤ maxLen; decide) h1 h2
        · have t2 : decide (64 ≤ d) = true := decide_eq_true (by omega)
          have t2' : decide ((64 : Int) ≤ (d : Int)) = true := decide_eq_true (by omega)
          go_upto_region 17 with fail
          rw [HWC.out]
          clear HWC b2 f2
          obtain ⟨a', x', hb', -, hx'⟩ := HDS.out.box
          have b2 := hb'.cell 2
          subst hx'
          clear hb'
          go_wp2_with fail
          go_loopw [9] (fun s9 wr => s9 = .int .i64 0 ∧ wr = wC) (fun _ _ => 0)
          case atStart => exact ⟨rfl, rfl⟩
          case round =>
            obtain ⟨rfl, rfl⟩ := hrel
            go_upto_region 21 with fail
            have y0 := HBY2.out.cell 0
            have f0 := HBY2.out.frozen 0
            have z0 := HZ.out.cell 0
            have y1 := HBY2.out.cell 1
            have f1 := HBY2.out.frozen 1
            have z1 := HZ.out.cell 1
            have y2 := HBY2.out.cell 2
            have f2 := HBY2.out.frozen 2
            have z2 := HZ.out.cell 2
            have y3 := HBY2.out.cell 3
            have f3 := HBY2.out.frozen 3
            have z3 := HZ.out.cell 3
            have y4 := HBY2.out.cell 4
            have f4 := HBY2.out.frozen 4
            have z4 := HZ.out.cell 4
            have y5 := HBY2.out.cell 5
            have f5 := HBY2.out.frozen 5
            have z5 := HZ.out.cell 5
            go_wp2_with fail
            refine bodyPost_ret (results_st rfl _ rfl (HBY2.out.six _ _ _ _ _ _) Try.underlying32 rfl info32) rfl ?_
            have F2 := Fr.six wr Y (.int .u64 (i : Int)) (.bool false) (.string l) (.slice vA acc.length vC) (.string ⟨#[]⟩) (.slice none 0 0)
            have hwL : w.heap.size ≤ LO := by have := HSZ.out; rw [HYY.out]; omega
            refine DocC.fin (x := .mk i false l acc ⟨#[]⟩ []) (Fr.new ((HF.out.mono fun q hq => .inl hq).trans (F2.mono fun q hq => .inr (by rw [show q = Y from hq, HYY.out]; omega)))) HN.out ?_ (HDS.out.fr F2 (fun q hq => by rw [show q = Y from hq]; omega) (by show ¬ D = Y; omega))
            have a1 : Late (old w.heap.size) (fun W => RdA W acc (.slice vA acc.length vC)) _ := HLA.out.to F2 (fun q hq hh => by
              rcases hh with hh | hh
              · rw [show q = Y from hh]; have := HSZ.out; show Y < LO; omega
              · exact Nat.lt_of_lt_of_le (show q < w.heap.size from hh) hwL)
            exact (a1.and (show Late (old w.heap.size) (fun W => RdK W [] (.slice none 0 0)) _ from Late.all fun W => ⟨none, 0, rfl, Nat.le_refl _, by decide, fun h => absurd rfl h⟩)).imp fun W ⟨h1, h2⟩ => Nd.rd_shut (t := .mk (i : Int) false l acc ⟨#[]⟩ []) (Int.natCast_nonneg i) (by show (i : Int) ≤ _; omega) hl (by show (0 : Nat) ≤ maxLen; decide) h1 h2
theorem dnode_all : ∀ k, DNodeR (k + 1)
  | 0 => dnode_rd 0 (fun h => absurd h (Nat.lt_irrefl 0))
  | k + 1 => dnode_rd (k + 1) (fun _ => dnode_all k)
end Go.Proofs.Ytoplaokimahdiaa.Wi
