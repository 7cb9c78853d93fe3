/- Chapter 17: reading operations and trees, in plain Lean: what was put is read again. -/
import Derived.Test.YtoplaokimahdiaaWiRead
namespace Go.Proofs.Ytoplaokimahdiaa.Wi
open Go.RowKit Go.Proofs.Ytoplaokimahdiaa.Bw

def pieceP : Rd Pc := fun b => (smallP 1048577 b).bind fun k => (smallP 1048577 k.2).bind fun d => (textP 1048576 d.2).bind fun t => some (⟨k.1, d.1, t.1⟩, t.2)
def noOp (kind : Int) (p : List Int) : OpD := ⟨kind, p, 0, [], 0, false, ⟨#[]⟩, ⟨#[]⟩, ⟨#[]⟩, false, []⟩
def insP (p : List Int) : Rd OpD := fun b => (smallP 1048577 b).bind fun a => (rdNum 0 0 a.2).bind fun i => (flagP i.2).bind fun f => (textP 64 f.2).bind fun t => some ({ noOp 1 p with at_ := a.1, id := i.1, leaf := f.1, label := t.1 }, t.2)
def movP (p : List Int) : Rd OpD := fun b => (pathP b).bind fun q => (smallP 1048577 q.2).bind fun a => some ({ noOp 3 p with to := q.1, at_ := a.1 }, a.2)
def setP (p : List Int) : Rd OpD := fun b => (textP 64 b).bind fun k => (flagP k.2).bind fun g => (textP 256 g.2).bind fun v => if !g.1 || v.1.size == 0 then some ({ noOp 4 p with key := k.1, gone := g.1, value := v.1 }, v.2) else none
def relP (p : List Int) : Rd OpD := fun b => (textP 64 b).bind fun t => some ({ noOp 5 p with label := t.1 }, t.2)
def ediP (p : List Int) : Rd OpD := fun b => (rowP 4096 pieceP b).bind fun c => some ({ noOp 6 p with pcs := c.1 }, c.2)
def restP (k : Nat) (p : List Int) : Rd OpD := if k = 1 then insP p else if k = 2 then (fun b => some (noOp 2 p, b)) else if k = 3 then movP p else if k = 4 then setP p else if k = 5 then relP p else if k = 6 then ediP p else fun _ => none
def opP : Rd OpD
  | [] => none
  | c :: b => (pathP b).bind fun p => restP c.toNat p.1 p.2
def listP : Rd (List OpD) := rowP 4096 opP
/-- What g puts, f reads again. -/
def Comp {α : Type} (f : Rd α) (g : α → Option (List UInt8)) (P : α → Prop) : Prop := ∀ x l r, P x → g x = some l → f (l ++ r) = some (x, r)
theorem Inv.comp {α : Type} {f : Rd α} {g : α → Option (List UInt8)} (h : Inv f g) (P : α → Prop) : Comp f g P := fun x l r _ hl => (h (l ++ r) x r).2 ⟨l, hl, rfl⟩
theorem manyP_cons {α : Type} {f : Rd α} {k : Nat} {b r t : List UInt8} {x : α} {l : List α} (h : f b = some (x, r)) (h2 : manyP f k r = some (l, t)) : manyP f (k + 1) b = some (x :: l, t) := by
  unfold manyP
  rw [h]
  simp only
  rw [h2]
theorem many_comp {α : Type} {f : Rd α} {g : α → Option (List UInt8)} {P : α → Prop} (hf : Comp f g P) : ∀ (l : List α) (m r : List UInt8), (∀ x ∈ l, P x) → seqE (l.map g) = some m → manyP f l.length (m ++ r) = some (l, r)
  | [], m, r, _, h => by cases h; rfl
  | x :: l, m, r, hP, h => by
    obtain ⟨a, c, h2, h3, rfl⟩ := seqE_cons_some (show seqE (g x :: l.map g) = some m from h)
    show (match f (a ++ c ++ r) with | none => none | some (x, r) => match manyP f l.length r with | none => none | some (l, r) => some (x :: l, r)) = _
    rw [List.append_assoc, hf x a (c ++ r) (hP x List.mem_cons_self) h2]
    simp only
    rw [many_comp hf l c r (fun y hy => hP y (List.mem_cons_of_mem _ hy)) h3]
theorem row_comp {α : Type} {f : Rd α} {g : α → Option (List UInt8)} {P : α → Prop} (hf : Comp f g P) (most : Nat) (hm : most ≤ 18446744073709551615) : Comp (rowP most f) (fun l => rowE l most g) (fun l => ∀ x ∈ l, P x) := by
  intro x l r hP h
  have h : (if x.length ≤ most then seqE (some (num x.length) :: x.map g) else none) = some l := h
  split at h
  next h1 =>
    obtain ⟨a, c, h2, h3, rfl⟩ := seqE_cons_some h
    cases h2
    unfold rowP
    rw [List.append_assoc, (small_inv (most + 1) (by omega) _ x.length (c ++ r)).2 ⟨by omega, rfl⟩]
    exact many_comp hf x c r hP h3
  next => cases h
theorem small_get {x : Int} {l : List UInt8} (h : smallE x 1048577 = some l) (r : List UInt8) : smallP 1048577 (l ++ r) = some (x.toNat, r) ∧ ((x.toNat : Nat) : Int) = x := by
  unfold smallE at h
  split at h
  next h1 =>
    cases h
    exact ⟨(small_inv 1048577 (by decide) _ x.toNat r).2 ⟨by omega, rfl⟩, Int.toNat_of_nonneg h1.1⟩
  next => cases h
theorem text_get {s : ByteArray} {most : Nat} (hm : most ≤ 18446744073709551615) {l : List UInt8} (h : textE s most = some l) (r : List UInt8) : textP most (l ++ r) = some (s, r) := (text_inv most hm (l ++ r) s r).2 ⟨l, h, rfl⟩
theorem flag_get (b : Bool) (r : List UInt8) : flagP (flagE b ++ r) = some (b, r) := (flag_inv _ b r).2 rfl
theorem piece_comp : Comp pieceP pieceE (fun _ => True) := by
  intro x l r _ h
  obtain ⟨a1, a2, e1, e2, rfl⟩ := seqE_cons_some h
  obtain ⟨a3, a4, e3, e4, rfl⟩ := seqE_two e2
  unfold pieceP
  simp only [List.append_assoc]
  obtain ⟨p1, q1⟩ := small_get e1 (a3 ++ (a4 ++ r))
  obtain ⟨p2, q2⟩ := small_get e3 (a4 ++ r)
  rw [p1]
  show (smallP 1048577 (a3 ++ (a4 ++ r))).bind _ = _
  rw [p2]
  show (textP 1048576 (a4 ++ r)).bind _ = _
  rw [text_get (by decide) e4 r]
  show some ((⟨((x.keep.toNat : Nat) : Int), ((x.drop.toNat : Nat) : Int), x.put⟩ : Pc), r) = _
  rw [q1, q2]
/-- An identity that fits. -/
def idOk (o : OpD) : Prop := 0 ≤ o.id ∧ o.id ≤ 18446744073709551615
theorem op_comp : Comp opP opE idOk := by
  intro o l r hid h
  unfold opE at h
  split at h
  next ko =>
    obtain ⟨k1, k2, k3⟩ := ko
    obtain ⟨a1, a2, e1, e2, rfl⟩ := seqE_cons_some h
    cases e1
    obtain ⟨a3, a4, e3, e4, rfl⟩ := seqE_cons_some e2
    have hb := bare_is k3
    unfold idOk at hid
    simp only [List.append_assoc]
    show (pathP (a3 ++ (a4 ++ r))).bind (fun p => restP (UInt8.ofNat o.kind.toNat).toNat p.1 p.2) = _
    rw [(path_inv (a3 ++ (a4 ++ r)) o.path (a4 ++ r)).2 ⟨a3, e3, rfl⟩]
    show restP (UInt8.ofNat o.kind.toNat).toNat o.path (a4 ++ r) = _
    rw [toNat_ofNat (by omega)]
    obtain ⟨k, p, a, t, i, lf, lb, ky, v, g, c⟩ := o
    simp only at k1 k2 e4 hb hid
    unfold restE at e4
    simp only at e4 ⊢
    by_cases c1 : k = 1
    · rw [if_pos c1] at e4
      obtain ⟨u1, u2, f1, f2, rfl⟩ := seqE_cons_some e4
      obtain ⟨u3, u4, f3, f4, rfl⟩ := seqE_cons_some f2
      obtain ⟨u5, u6, f5, f6, rfl⟩ := seqE_two f4
      cases f3; cases f5
      have n3 : k ≠ 3 := by omega
      have n4 : k ≠ 4 := by omega
      have n6 : k ≠ 6 := by omega
      obtain ⟨rfl, rfl, rfl⟩ := hb.2.2.2.1 n4
      obtain rfl := hb.2.2.1 n3
      obtain rfl := hb.2.2.2.2.2 n6
      subst c1
      show insP p _ = _
      unfold insP
      simp only [List.append_assoc]
      obtain ⟨p1, q1⟩ := small_get f1 (num i.toNat ++ (flagE lf ++ (u6 ++ r)))
      rw [p1]
      show (rdNum 0 0 (num i.toNat ++ (flagE lf ++ (u6 ++ r)))).bind _ = _
      rw [get_num (by omega)]
      show (flagP (flagE lf ++ (u6 ++ r))).bind _ = _
      rw [flag_get]
      show (textP 64 (u6 ++ r)).bind _ = _
      rw [text_get (by decide) f6]
      show some (({ noOp 1 p with at_ := ((a.toNat : Nat) : Int), id := ((i.toNat : Nat) : Int), leaf := lf, label := lb } : OpD), r) = _
      rw [q1, Int.toNat_of_nonneg hid.1]
      rfl
    · rw [if_neg c1] at e4
      obtain ⟨rfl, rfl⟩ := hb.1 c1
      by_cases c3 : k = 3
      · rw [if_pos c3] at e4
        obtain ⟨u1, u2, f1, f2, rfl⟩ := seqE_two e4
        have n4 : k ≠ 4 := by omega
        have n5 : k ≠ 5 := by omega
        have n6 : k ≠ 6 := by omega
        obtain ⟨rfl, rfl, rfl⟩ := hb.2.2.2.1 n4
        obtain rfl := hb.2.2.2.2.1 c1 n5
        obtain rfl := hb.2.2.2.2.2 n6
        subst c3
        show movP p _ = _
        unfold movP
        simp only [List.append_assoc]
        obtain ⟨p1, q1⟩ := small_get f2 r
        rw [(path_inv (u1 ++ (u2 ++ r)) t (u2 ++ r)).2 ⟨u1, f1, rfl⟩]
        show (smallP 1048577 (u2 ++ r)).bind _ = _
        rw [p1]
        show some (({ noOp 3 p with to := t, at_ := ((a.toNat : Nat) : Int) } : OpD), r) = _
        rw [q1]
        rfl
      · rw [if_neg c3] at e4
        obtain rfl := hb.2.1 c1 c3
        obtain rfl := hb.2.2.1 c3
        by_cases c4 : k = 4
        · rw [if_pos c4] at e4
          obtain ⟨u1, u2, f1, f2, rfl⟩ := seqE_cons_some e4
          obtain ⟨u3, u4, f3, f4, rfl⟩ := seqE_cons_some f2
          obtain ⟨u5, u6, f5, f6, rfl⟩ := seqE_two f4
          have n5 : k ≠ 5 := by omega
          have n6 : k ≠ 6 := by omega
          obtain rfl := hb.2.2.2.2.1 c1 n5
          obtain rfl := hb.2.2.2.2.2 n6
          subst c4
          cases f5
          have hg : (!g || v.size == 0) = true ∧ u1 = [] := by
            split at f1
            next hh => cases f1; exact ⟨hh, rfl⟩
            next => cases f1
          obtain ⟨hg, rfl⟩ := hg
          show setP p _ = _
          unfold setP
          simp only [List.append_assoc, List.nil_append]
          rw [text_get (by decide) f3]
          show (flagP (flagE g ++ (u6 ++ r))).bind _ = _
          rw [flag_get]
          show (textP 256 (u6 ++ r)).bind _ = _
          rw [text_get (by decide) f6]
          show (if (!g || v.size == 0) = true then _ else _) = _
          rw [if_pos hg]
          rfl
        · rw [if_neg c4] at e4
          obtain ⟨rfl, rfl, rfl⟩ := hb.2.2.2.1 c4
          by_cases c5 : k = 5
          · rw [if_pos c5] at e4
            obtain ⟨u1, u2, f1, f2, rfl⟩ := seqE_cons_some e4
            cases f2
            have n6 : k ≠ 6 := by omega
            obtain rfl := hb.2.2.2.2.2 n6
            subst c5
            show relP p _ = _
            unfold relP
            rw [List.append_nil, text_get (by decide) f1]
            rfl
          · rw [if_neg c5] at e4
            obtain rfl := hb.2.2.2.2.1 c1 c5
            by_cases c6 : k = 6
            · rw [if_pos c6] at e4
              obtain ⟨u1, u2, f1, f2, rfl⟩ := seqE_cons_some e4
              cases f2
              subst c6
              show ediP p _ = _
              unfold ediP
              rw [List.append_nil, row_comp piece_comp 4096 (by decide) c u1 r (fun _ _ => trivial) f1]
              rfl
            · rw [if_neg c6] at e4
              cases e4
              obtain rfl := hb.2.2.2.2.2 c6
              obtain rfl : k = 2 := by omega
              rfl
  next => cases h
theorem list_comp : Comp listP listE (fun l => ∀ o ∈ l, idOk o) := row_comp op_comp 4096 (by decide)

/-! ### Trees -/
def attrP : Rd (ByteArray × ByteArray) := fun b => (textP 64 b).bind fun k => (textP 256 k.2).bind fun v => some ((k.1, v.1), v.2)
def nodeP : Nat → Rd Nd
  | 0 => fun _ => none
  | k + 1 => fun b => (rdNum 0 0 b).bind fun i => (flagP i.2).bind fun f => (textP 64 f.2).bind fun l => (rowP 2048 attrP l.2).bind fun a =>
    if f.1 then (textP 2048 a.2).bind fun t => some (.mk i.1 f.1 l.1 a.1 t.1 [], t.2) else (rowP 512 (nodeP k) a.2).bind fun c => some (.mk i.1 f.1 l.1 a.1 ⟨#[]⟩ c.1, c.2)
theorem attr_comp : Comp attrP attrE (fun _ => True) := by
  intro x l r _ h
  obtain ⟨a1, a2, e1, e2, rfl⟩ := seqE_two h
  unfold attrP
  rw [List.append_assoc, text_get (by decide) e1]
  show (textP 256 (a2 ++ r)).bind _ = _
  rw [text_get (by decide) e2]
  rfl
mutual
/-- Identities that fit. -/
def idsFit : Nd → Prop
  | .mk id _ _ _ _ ks => (0 ≤ id ∧ id ≤ 18446744073709551615) ∧ kidsFit ks
def kidsFit : List Nd → Prop
  | [] => True
  | k :: r => idsFit k ∧ kidsFit r
end
mutual
theorem node_comp : ∀ (x : Nd) (d k : Nat) (l r : List UInt8), d + k = 65 → idsFit x → nodeE d x = some l → nodeP k (l ++ r) = some (x, r)
  | .mk i f lb at_ tx ks, d, k, l, r, hd, hi, h => by
    unfold nodeE at h
    unfold idsFit at hi
    split at h
    next cx =>
      obtain ⟨k, rfl⟩ : ∃ j, k = j + 1 := ⟨k - 1, by omega⟩
      obtain ⟨a1, a2, p1, p2, rfl⟩ := seqE_cons_some h
      obtain ⟨a3, a4, p3, p4, rfl⟩ := seqE_cons_some p2
      obtain ⟨a5, a6, p5, p6, rfl⟩ := seqE_cons_some p4
      obtain ⟨a7, a8, p7, p8, rfl⟩ := seqE_two p6
      cases p1; cases p3
      unfold nodeP
      simp only [List.append_assoc]
      rw [get_num (by omega)]
      show (flagP (flagE f ++ (a5 ++ (a7 ++ (a8 ++ r))))).bind _ = _
      rw [flag_get]
      show (textP 64 (a5 ++ (a7 ++ (a8 ++ r)))).bind _ = _
      rw [text_get (by decide) p5]
      show (rowP 2048 attrP (a7 ++ (a8 ++ r))).bind _ = _
      rw [row_comp attr_comp 2048 (by decide) at_ a7 (a8 ++ r) (fun _ _ => trivial) p7]
      cases f with
      | true =>
        obtain rfl := List.length_eq_zero_iff.1 (cx.2.1 rfl)
        show (textP 2048 (a8 ++ r)).bind _ = _
        rw [text_get (by decide) p8]
        show some (Nd.mk ((i.toNat : Nat) : Int) true lb at_ tx [], r) = _
        rw [Int.toNat_of_nonneg hi.1.1]
      | false =>
        obtain rfl := size_zero (cx.2.2.1 rfl)
        simp only [Bool.false_eq_true, if_false] at p8
        split at p8
        next hl =>
          obtain ⟨u1, g1, rfl⟩ := Option.map_eq_some_iff.1 p8
          show (rowP 512 (nodeP k) (num ks.length ++ u1 ++ r)).bind _ = _
          unfold rowP
          rw [List.append_assoc, (small_inv (512 + 1) (by decide) _ ks.length (u1 ++ r)).2 ⟨by omega, rfl⟩]
          show (manyP (nodeP k) ks.length (u1 ++ r)).bind _ = _
          rw [kids_comp ks (d + 1) k u1 r (by omega) hi.2 g1]
          show some (Nd.mk ((i.toNat : Nat) : Int) false lb at_ ⟨#[]⟩ ks, r) = _
          rw [Int.toNat_of_nonneg hi.1.1]
        next => cases p8
    next => cases h
theorem kids_comp : ∀ (x : List Nd) (d k : Nat) (l r : List UInt8), d + k = 65 → kidsFit x → kidsE d x = some l → manyP (nodeP k) x.length (l ++ r) = some (x, r)
  | [], d, k, l, r, _, _, h => by unfold kidsE at h; cases h; rfl
  | x :: xs, d, k, l, r, hd, hi, h => by
    unfold kidsE at h
    unfold kidsFit at hi
    obtain ⟨a, c, h2, h3, rfl⟩ := seqE_two h
    rw [List.append_assoc]
    exact manyP_cons (node_comp x d k a (c ++ r) hd hi.1 h2) (kids_comp xs d k c r hd hi.2 h3)
end
end Go.Proofs.Ytoplaokimahdiaa.Wi
