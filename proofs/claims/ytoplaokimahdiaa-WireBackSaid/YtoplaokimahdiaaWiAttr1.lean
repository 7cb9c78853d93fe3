/- Chapter 17: an attribute is put, if its key comes behind the last one's. -/
import Derived.Test.YtoplaokimahdiaaWiOp
import Derived.RegionTactic
import Derived.ChangeAlike
namespace Go.Proofs.Ytoplaokimahdiaa.Wi
open Go.RowKit Go.Proofs.Ytoplaokimahdiaa.Bw Go.Proofs.Ytoplaokimahdiaa.Bs

theorem NBox.chg {w0 W W' : World} {B : Nat} {v : Value} {bs : List UInt8} {E : Nat → Prop} {C : Nat} {t : TypeId} {cs : Array Value} (h : NBox W C t cs) (hS : St w0 W B v bs) (hF : Fr W W' (Chg B v E)) (h1 : t ≠ 106) (h2 : t ≠ 5) (h3 : ¬ E C) : NBox W' C t cs :=
  h.fr hF (fun hk => by
    rcases hk with hk | hk | hk
    · exact NBox.apart h hS.box h1 hk
    · exact h.not_own hS.own h2 hk
    · exact h3 hk)
/-- Other blocks turn: a writer stays. -/
theorem St.fr {w0 W W' : World} {B : Nat} {v : Value} {bs : List UInt8} {S : Nat → Prop} (h : St w0 W B v bs) (F : Fr W W' S) (h1 : ∀ k, S k → w0.heap.size ≤ k) (h2 : ¬ S B) (h3 : ∀ k, v.ownBlock = some k → ¬ S k) : St w0 W' B v bs :=
  ⟨Fr.ext h.ext F h1, h.hB, h.box.fr F h2, owns_fr F h.own h3⟩
theorem PutC.after {w0 W W1 W' : World} {B : Nat} {v : Value} {bs : List UInt8} {E : Nat → Prop} {enc : Option (List UInt8)} {e : Ending} (F : Fr W W1 E) (h : PutC w0 W1 B v bs E enc e W') : PutC w0 W B v bs E enc e W' := by
  cases enc with
  | none => exact ⟨h.1, h.2.ext, (F.mono fun _ hk => .inr (.inr hk)).trans h.2.fr⟩
  | some b =>
    obtain ⟨v', he, hP⟩ := h
    exact ⟨v', he, hP.st, (F.mono fun _ hk => .inr (.inr hk)).trans hP.fr, fun k hk => (hP.ow k hk).imp_right (Nat.le_trans F.size)⟩
theorem PutC.mono {w0 W W' : World} {B : Nat} {v : Value} {bs : List UInt8} {E F : Nat → Prop} {enc : Option (List UInt8)} {e : Ending} (h : PutC w0 W B v bs E enc e W') (hE : ∀ k, E k → F k) : PutC w0 W B v bs F enc e W' := by
  cases enc with
  | none => exact ⟨h.1, h.2.mono hE⟩
  | some b =>
    obtain ⟨v', he, hP⟩ := h
    exact ⟨v', he, hP.mono hE⟩
/-- Blocks that are new need not be told. -/
theorem PutC.new {w0 W W' : World} {B : Nat} {v : Value} {bs : List UInt8} {E F : Nat → Prop} {enc : Option (List UInt8)} {e : Ending} (h : PutC w0 W B v bs E enc e W') (hE : ∀ k, E k → F k ∨ W.heap.size ≤ k) : PutC w0 W B v bs F enc e W' := by
  have key : ∀ {W2 : World}, Fr W W2 (Chg B v E) → Fr W W2 (Chg B v F) := fun f => Fr.new (f.mono fun k hk => by
    rcases hk with hk | hk | hk
    · exact .inl (.inl hk)
    · exact .inl (.inr (.inl hk))
    · exact (hE k hk).imp_left fun h => .inr (.inr h))
  cases enc with
  | none => exact ⟨h.1, h.2.ext, key h.2.fr⟩
  | some b =>
    obtain ⟨v', he, hP⟩ := h
    exact ⟨v', he, hP.st, key hP.fr, hP.ow⟩
theorem two_sets {W : World} {F L : Nat} {t u : TypeId} {x y : Value} (bF : NBox W F t #[x]) (bL : NBox W L u #[y]) (hne : t ≠ u) (a b : Value) :
    Fr W ((W.setCell ⟨F, 0, none⟩ a).setCell ⟨L, 0, none⟩ b) (fun k => k = F ∨ k = L) ∧ NBox ((W.setCell ⟨F, 0, none⟩ a).setCell ⟨L, 0, none⟩ b) F t #[a] ∧ NBox ((W.setCell ⟨F, 0, none⟩ a).setCell ⟨L, 0, none⟩ b) L u #[b] := by
  have hFL : F ≠ L := NBox.apart bF bL hne
  have F1 := Fr.setCell W F 0 a
  have F2 := Fr.setCell (W.setCell ⟨F, 0, none⟩ a) L 0 b
  have bL1 := bL.fr F1 (fun h => hFL h.symm)
  exact ⟨(F1.mono fun _ h => .inl h).trans (F2.mono fun _ h => .inr h), (bF.set 0 a).fr F2 hFL, bL1.set 0 b⟩
theorem two_sets' {W : World} {F L : Nat} {t u : TypeId} {x y : Value} (bF : NBox W F t #[x]) (bL : NBox W L u #[y]) (hne : t ≠ u) (a b : Value) :
    Fr W ((W.setCell ⟨L, 0, none⟩ b).setCell ⟨F, 0, none⟩ a) (fun k => k = F ∨ k = L) ∧ NBox ((W.setCell ⟨L, 0, none⟩ b).setCell ⟨F, 0, none⟩ a) F t #[a] ∧ NBox ((W.setCell ⟨L, 0, none⟩ b).setCell ⟨F, 0, none⟩ a) L u #[b] := by
  obtain ⟨h1, h2, h3⟩ := two_sets bL bF (fun h => hne h.symm) b a
  exact ⟨h1.mono fun _ h => h.symm, h3, h2⟩
theorem less_gt : ∀ (x y : List UInt8), (!Op.bytesLess y x && !(y == x)) = Op.bytesLess x y
  | [], [] => rfl
  | [], b :: y => by simp [Op.bytesLess]
  | a :: x, [] => by simp [Op.bytesLess]
  | a :: x, b :: y => by
    rw [Op.bytesLess, Op.bytesLess, ← less_gt x y, show (b :: y == a :: x) = (b == a && y == x) from rfl]
    have e1 : (a < b) = (a.toNat < b.toNat) := rfl
    have e2 : (b < a) = (b.toNat < a.toNat) := rfl
    by_cases h : a = b
    · subst h
      have : ¬ a < a := by rw [e1]; omega
      simp [this]
    · have hn : a.toNat ≠ b.toNat := fun hh => h (UInt8.toNat_inj.1 hh)
      have h' : ¬ b = a := fun hh => h hh.symm
      by_cases h1 : a < b
      · have : ¬ b < a := by rw [e1] at h1; rw [e2]; omega
        simp [h', h1, this]
      · have : b < a := by rw [e1] at h1; rw [e2]; omega
        simp [h, h1, this]
theorem enters74 : ∀ args W, (callFunc 74 args).run Try.prog W = .ok (.enter 74 args) W := fun args W => by kernel_rfl
def lastK (pk : Option ByteArray) : ByteArray := match pk with | none => ⟨#[]⟩ | some k => k
set_option maxRecDepth 100000 in
set_option maxHeartbeats 2000000 in
theorem attr1_any (x : ByteArray × ByteArray) (hk : okStr x.1) (hv : okStr x.2) (pk : Option ByteArray) (F L C : Nat) (w0 w : World) (B : Nat) (v : Value) (bs : List UInt8) (h : St w0 w B v bs) (bF : NBox w F 4 #[.bool pk.isNone]) (bL : NBox w L 9 #[.string (lastK pk)])
    (bC : NBox w C 73 #[.pointer (some ⟨B, 0, none⟩)]) (hF : w0.heap.size ≤ F) (hL : w0.heap.size ≤ L) (hl : bs.length + 400 ≤ 100000000000000) :
    Calls Try.prog 74 #[.agg #[.string x.1, .string x.2], .pointer (some ⟨F, 0, none⟩), .pointer (some ⟨L, 0, none⟩), .pointer (some ⟨C, 0, none⟩)] w fun e W' => PutC w0 w B v bs (fun k => k = F ∨ k = L) (if afterK pk x.1 then attrE x else none) e W' ∧
      ∀ b, (if afterK pk x.1 then attrE x else none) = some b → NBox W' F 4 #[.bool false] ∧ NBox W' L 9 #[.string x.1] ∧ NBox W' C 73 #[.pointer (some ⟨B, 0, none⟩)] := by
  obtain ⟨k, u⟩ := x
  simp only at hk hv ⊢
  obtain ⟨w1, hw1⟩ : ∃ W, w.alloc (.cells #[.string k, .string u] 78) = W := ⟨_, rfl⟩
  have E1 : Ext w w1 := by rw [← hw1]; exact (Ext.refl w).alloc _
  obtain ⟨D, hDD⟩ : ∃ D, w.heap.size = D := ⟨_, rfl⟩
  have bD : NBox w1 D 78 #[.string k, .string u] := by rw [← hw1, ← hDD]; exact NBox.new _ _ _
  have S1 := h.more E1
  have HW := Lib.hid hw1
  have HD := Lib.hid hDD
  have HE1 := Lib.hid E1
  have HS := Lib.hid h
  have bF1 := bF.ext E1
  have bL1 := bL.ext E1
  have bC1 := bC.ext E1
  have f0 := bF1.cell 0
  have l0 := bL1.cell 0
  have d0 := bD.cell 0
  clear hw1 hDD bF bL bC
  obtain ⟨t, ht⟩ : ∃ t, afterK pk k = t := ⟨_, rfl⟩
  rw [ht]
  have hw := fun (b : Bool) => show Calls Try.prog 67 #[.bool b] w1 (fun e w' => (if b then e = .returned (.tuple #[]) else e = .panicked WR) ∧ w1 = w') from by cases b <;> first | exact want_yes w1 | exact want_no w1
  have hwt := hw t
  clear hw
  cases pk with
  | none =>
    have : t = true := ht.symm
    subst this
    clear ht
    go_enter Try.func74, Try.ntmps74
    go_upto_region 1 with fail
    rw [HW.out, HD.out]
    go_wp2_with fail
    refine hwt.mono ?_
    rintro e w' ⟨he, rfl⟩
    obtain rfl : e = .returned (.tuple #[]) := he
    go_upto_region 2 with fail
    go_cut [] from 13 to 22 (fun wx => Fr w1 wx (fun k => k = F ∨ k = L) ∧ NBox wx F 4 #[.bool false] ∧ NBox wx L 9 #[.string k])
    case first =>
      have f1 := bF1.frozen 0
      have l1 := bL1.frozen 0
      have HBF := Lib.hid bF1
      have HBL := Lib.hid bL1
      have hFL : F ≠ L := NBox.apart bF1 bL1 (by decide)
      have q1 := (bD.fr (Fr.setCell w1 F 0 (.bool false)) (NBox.apart bD bF1 (by decide))).cell 0
      have q2 := (bL1.fr (Fr.setCell w1 F 0 (.bool false)) (fun h => hFL h.symm)).cell 0
      have q3 := (bL1.fr (Fr.setCell w1 F 0 (.bool false)) (fun h => hFL h.symm)).frozen 0
      have q4 := (bF1.fr (Fr.setCell w1 L 0 (.string k)) hFL).cell 0
      have q5 := (bF1.fr (Fr.setCell w1 L 0 (.string k)) hFL).frozen 0
      clear hFL
      clear hwt bD bF1 bL1 bC1 S1 h hF hL hl E1
      go_region
      all_goals (go_wp2_with fail; go_meet)
      all_goals (try exact (fun (h : _ ∧ _) => ⟨h.1.trans (Fr.of_ext (Ext.refl _).drew _), h.2.1.ext (Ext.refl _).drew, h.2.2.ext (Ext.refl _).drew⟩) (two_sets HBF.out HBL.out (by decide) _ _))
      all_goals (try exact (fun (h : _ ∧ _) => ⟨h.1.trans (Fr.of_ext (Ext.refl _).drew _), h.2.1.ext (Ext.refl _).drew, h.2.2.ext (Ext.refl _).drew⟩) (two_sets' HBF.out HBL.out (by decide) _ _))
    case rest =>
      obtain ⟨hFr, bF2, bL2⟩ := hcut
      obtain ⟨w2, hw2⟩ : ∃ W, wc = W := ⟨_, rfl⟩
      rw [hw2] at hFr bF2 bL2 ⊢
      clear hw2
      have bC2 := bC1.fr hFr (fun h => h.elim (NBox.apart bC1 bF1 (by decide)) (NBox.apart bC1 bL1 (by decide)))
      have bD2 := bD.fr hFr (fun h => h.elim (NBox.apart bD bF1 (by decide)) (NBox.apart bD bL1 (by decide)))
      have S2 : St w0 w2 B v bs := S1.fr hFr (fun k hk => by rcases hk with rfl | rfl <;> assumption) (fun h => h.elim (NBox.apart S1.box bF1 (by decide)) (NBox.apart S1.box bL1 (by decide))) (fun k hk h => by
        rcases h with rfl | rfl
        · exact bF1.not_own S1.own (by decide) hk
        · exact bL1.not_own S1.own (by decide) hk)
      have nF : ∀ {W' : World} {v2 : Value} {b2 : List UInt8} {W2 : World}, St w0 W2 B v2 b2 → Fr W2 W' (Chg B v2 none_) → NBox W2 F 4 #[.bool false] → NBox W' F 4 #[.bool false] := fun hS hF h => h.chg hS hF (by decide) (by decide) (fun h => h)
      have HC2 := Lib.hid bC2
      have HD2 := Lib.hid bD2
      have HF2 := Lib.hid bF2
      have HL2 := Lib.hid bL2
      have HS2 := Lib.hid S2
      have HFR : Hid (∀ {enc : Option (List UInt8)} {e : Ending} {W' : World}, PutC w0 w2 B v bs (fun k => k = F ∨ k = L) enc e W' → PutC w0 w B v bs (fun k => k = F ∨ k = L) enc e W') := Lib.hid (fun hP => (hP.after hFr).from HE1.out)
      have hc := text_any k 64 (by decide) hk w0 w2 B v bs S2 (by omega)
      have c0 := bC2.cell 0
      have d0 := bD2.cell 0
      clear f0 l0 bC1 bD bF1 bL1 S1 S2 bC2 bD2 bF2 bL2 hFr nF
      go_wp2_with fail
      refine hc.mono ?_
      clear hc c0 d0
      rintro e w3 hC
      cases h1 : textE k 64 with
      | none =>
        rw [h1] at hC
        obtain ⟨rfl, hN⟩ := hC
        have HRN : Hid (attrE (k, u) = none) := Lib.hid (by unfold attrE; rw [h1]; rfl)
        have hP := Lib.hid (HFR.out (show PutC w0 w2 B v bs (fun k => k = F ∨ k = L) none (.panicked WR) w3 from ⟨rfl, hN.any⟩))
        clear h1 hN
        go_wp2_with fail
        refine ⟨rfl, ?_⟩
        rw [HRN.out]
        exact ⟨hP.out, fun b hb => by cases hb⟩
      | some b1 =>
        rw [h1] at hC
        obtain ⟨v3, rfl, hP3⟩ := hC
        have l1 := textE_len (by decide) h1
        have bC3 := HC2.out.puts HS2.out hP3.fr (by decide) (by decide)
        have bD3 := HD2.out.puts HS2.out hP3.fr (by decide) (by decide)
        have HF3 := Lib.hid (HF2.out.puts HS2.out hP3.fr (by decide) (by decide))
        have HL3 := Lib.hid (HL2.out.puts HS2.out hP3.fr (by decide) (by decide))
        have HC3 := Lib.hid bC3
        have hc := text_any u 256 (by decide) hv w0 w3 B v3 (bs ++ b1) hP3.st (by rw [List.length_append]; omega)
        have c0 := bC3.cell 0
        have d1 := bD3.cell 1
        have H1 := Lib.hid h1
        have HP3 := Lib.hid hP3
        clear bC3 bD3 h1 hP3
        go_wp2_with fail
        refine hc.mono ?_
        clear hc c0 d1
        rintro e w4 hC
        cases h2 : textE u 256 with
        | none =>
          rw [h2] at hC
          obtain ⟨rfl, hN⟩ := hC
          have HRN : Hid (attrE (k, u) = none) := Lib.hid (by unfold attrE; rw [H1.out, h2]; rfl)
          have hP := Lib.hid (HFR.out (show PutC w0 w2 B v bs (fun k => k = F ∨ k = L) none (.panicked WR) w4 from ⟨rfl, (HP3.out.no hN).any⟩))
          clear h2 hN
          go_wp2_with fail
          refine ⟨rfl, ?_⟩
          rw [HRN.out]
          exact ⟨hP.out, fun b hb => by cases hb⟩
        | some b2 =>
          rw [h2] at hC
          obtain ⟨v4, rfl, hP4⟩ := hC
          have HRN : Hid (attrE (k, u) = some (b1 ++ b2)) := Lib.hid (by unfold attrE; rw [H1.out, h2]; simp [seqE])
          have hP := Lib.hid (HFR.out (show PutC w0 w2 B v bs (fun k => k = F ∨ k = L) (some (b1 ++ b2)) (.returned (.tuple #[])) w4 from ⟨v4, rfl, (HP3.out.trans hP4).any⟩))
          have HBX := Lib.hid (show NBox w4 F 4 #[.bool false] ∧ NBox w4 L 9 #[.string k] ∧ NBox w4 C 73 #[.pointer (some ⟨B, 0, none⟩)] from ⟨HF3.out.puts HP3.out.st hP4.fr (by decide) (by decide), HL3.out.puts HP3.out.st hP4.fr (by decide) (by decide), HC3.out.puts HP3.out.st hP4.fr (by decide) (by decide)⟩)
          clear h2 hP4
          go_wp2_with fail
          go_end0
          rw [HRN.out]
          exact ⟨hP.out, fun b _ => HBX.out⟩
  | some q =>
    have ht2 := Lib.hid ((less_gt q.toList k.toList).trans ht)
    have l0' : w1.cell? ⟨L, 0, none⟩ = some (.string q) := l0
    clear ht l0
    have l0 := l0'
    clear l0'
    cases t with
    | false =>
      go_enter Try.func74, Try.ntmps74
      go_upto_region 1 with fail
      rw [HW.out, HD.out]
      go_wp2_with fail
      rw [ht2.out]
      refine hwt.mono ?_
      rintro e w' ⟨he, rfl⟩
      obtain rfl : e = .panicked WR := he
      clear hwt bD bF1 bL1 bC1 S1 h hF hL hl E1
      go_wp2_with fail
      first | exact ⟨rfl, PutC.bad HS.out HE1.out⟩ | exact ⟨rfl, PutC.bad HS.out HE1.out, fun b hb => by cases hb⟩
    | true =>
      go_enter Try.func74, Try.ntmps74
      go_upto_region 1 with fail
      rw [HW.out, HD.out]
      go_wp2_with fail
      rw [ht2.out]
      refine hwt.mono ?_
      clear ht2
      rintro e w' ⟨he, rfl⟩
      obtain rfl : e = .returned (.tuple #[]) := he
      go_upto_region 2 with fail
      go_cut [] from 13 to 22 (fun wx => Fr w1 wx (fun k => k = F ∨ k = L) ∧ NBox wx F 4 #[.bool false] ∧ NBox wx L 9 #[.string k])
      case first =>
        have f1 := bF1.frozen 0
        have l1 := bL1.frozen 0
        have HBF := Lib.hid bF1
        have HBL := Lib.hid bL1
        have hFL : F ≠ L := NBox.apart bF1 bL1 (by decide)
        have q1 := (bD.fr (Fr.setCell w1 F 0 (.bool false)) (NBox.apart bD bF1 (by decide))).cell 0
        have q2 := (bL1.fr (Fr.setCell w1 F 0 (.bool false)) (fun h => hFL h.symm)).cell 0
        have q3 := (bL1.fr (Fr.setCell w1 F 0 (.bool false)) (fun h => hFL h.symm)).frozen 0
        have q4 := (bF1.fr (Fr.setCell w1 L 0 (.string k)) hFL).cell 0
        have q5 := (bF1.fr (Fr.setCell w1 L 0 (.string k)) hFL).frozen 0
        clear hFL
        clear hwt bD bF1 bL1 bC1 S1 h hF hL hl E1
        go_region
        all_goals (go_wp2_with fail; go_meet)
        all_goals (try exact (fun (h : _ ∧ _) => ⟨h.1.trans (Fr.of_ext (Ext.refl _).drew _), h.2.1.ext (Ext.refl _).drew, h.2.2.ext (Ext.refl _).drew⟩) (two_sets HBF.out HBL.out (by decide) _ _))
        all_goals (try exact (fun (h : _ ∧ _) => ⟨h.1.trans (Fr.of_ext (Ext.refl _).drew _), h.2.1.ext (Ext.refl _).drew, h.2.2.ext (Ext.refl _).drew⟩) (two_sets' HBF.out HBL.out (by decide) _ _))
      case rest =>
        obtain ⟨hFr, bF2, bL2⟩ := hcut
        obtain ⟨w2, hw2⟩ : ∃ W, wc = W := ⟨_, rfl⟩
        rw [hw2] at hFr bF2 bL2 ⊢
        clear hw2
        have bC2 := bC1.fr hFr (fun h => h.elim (NBox.apart bC1 bF1 (by decide)) (NBox.apart bC1 bL1 (by decide)))
        have bD2 := bD.fr hFr (fun h => h.elim (NBox.apart bD bF1 (by decide)) (NBox.apart bD bL1 (by decide)))
        have S2 : St w0 w2 B v bs := S1.fr hFr (fun k hk => by rcases hk with rfl | rfl <;> assumption) (fun h => h.elim (NBox.apart S1.box bF1 (by decide)) (NBox.apart S1.box bL1 (by decide))) (fun k hk h => by
          rcases h with rfl | rfl
          · exact bF1.not_own S1.own (by decide) hk
          · exact bL1.not_own S1.own (by decide) hk)
        have nF : ∀ {W' : World} {v2 : Value} {b2 : List UInt8} {W2 : World}, St w0 W2 B v2 b2 → Fr W2 W' (Chg B v2 none_) → NBox W2 F 4 #[.bool false] → NBox W' F 4 #[.bool false] := fun hS hF h => h.chg hS hF (by decide) (by decide) (fun h => h)
        have HC2 := Lib.hid bC2
        have HD2 := Lib.hid bD2
        have HF2 := Lib.hid bF2
        have HL2 := Lib.hid bL2
        have HS2 := Lib.hid S2
        have HFR : Hid (∀ {enc : Option (List UInt8)} {e : Ending} {W' : World}, PutC w0 w2 B v bs (fun k => k = F ∨ k = L) enc e W' → PutC w0 w B v bs (fun k => k = F ∨ k = L) enc e W') := Lib.hid (fun hP => (hP.after hFr).from HE1.out)
        have hc := text_any k 64 (by decide) hk w0 w2 B v bs S2 (by omega)
        have c0 := bC2.cell 0
        have d0 := bD2.cell 0
        clear f0 l0 bC1 bD bF1 bL1 S1 S2 bC2 bD2 bF2 bL2 hFr nF
        go_wp2_with fail
        refine hc.mono ?_
        clear hc c0 d0
        rintro e w3 hC
        cases h1 : textE k 64 with
        | none =>
          rw [h1] at hC
          obtain ⟨rfl, hN⟩ := hC
          have HRN : Hid (attrE (k, u) = none) := Lib.hid (by unfold attrE; rw [h1]; rfl)
          have hP := Lib.hid (HFR.out (show PutC w0 w2 B v bs (fun k => k = F ∨ k = L) none (.panicked WR) w3 from ⟨rfl, hN.any⟩))
          clear h1 hN
          go_wp2_with fail
          refine ⟨rfl, ?_⟩
          rw [HRN.out]
          exact ⟨hP.out, fun b hb => by cases hb⟩
        | some b1 =>
          rw [h1] at hC
          obtain ⟨v3, rfl, hP3⟩ := hC
          have l1 := textE_len (by decide) h1
          have bC3 := HC2.out.puts HS2.out hP3.fr (by decide) (by decide)
          have bD3 := HD2.out.puts HS2.out hP3.fr (by decide) (by decide)
          have HF3 := Lib.hid (HF2.out.puts HS2.out hP3.fr (by decide) (by decide))
          have HL3 := Lib.hid (HL2.out.puts HS2.out hP3.fr (by decide) (by decide))
          have HC3 := Lib.hid bC3
          have hc := text_any u 256 (by decide) hv w0 w3 B v3 (bs ++ b1) hP3.st (by rw [List.length_append]; omega)
          have c0 := bC3.cell 0
          have d1 := bD3.cell 1
          have H1 := Lib.hid h1
          have HP3 := Lib.hid hP3
          clear bC3 bD3 h1 hP3
          go_wp2_with fail
          refine hc.mono ?_
          clear hc c0 d1
          rintro e w4 hC
          cases h2 : textE u 256 with
          | none =>
            rw [h2] at hC
            obtain ⟨rfl, hN⟩ := hC
            have HRN : Hid (attrE (k, u) = none) := Lib.hid (by unfold attrE; rw [H1.out, h2]; rfl)
            have hP := Lib.hid (HFR.out (show PutC w0 w2 B v bs (fun k => k = F ∨ k = L) none (.panicked WR) w4 from ⟨rfl, (HP3.out.no hN).any⟩))
            clear h2 hN
            go_wp2_with fail
            refine ⟨rfl, ?_⟩
            rw [HRN.out]
            exact ⟨hP.out, fun b hb => by cases hb⟩
          | some b2 =>
            rw [h2] at hC
            obtain ⟨v4, rfl, hP4⟩ := hC
            have HRN : Hid (attrE (k, u) = some (b1 ++ b2)) := Lib.hid (by unfold attrE; rw [H1.out, h2]; simp [seqE])
            have hP := Lib.hid (HFR.out (show PutC w0 w2 B v bs (fun k => k = F ∨ k = L) (some (b1 ++ b2)) (.returned (.tuple #[])) w4 from ⟨v4, rfl, (HP3.out.trans hP4).any⟩))
            have HBX := Lib.hid (show NBox w4 F 4 #[.bool false] ∧ NBox w4 L 9 #[.string k] ∧ NBox w4 C 73 #[.pointer (some ⟨B, 0, none⟩)] from ⟨HF3.out.puts HP3.out.st hP4.fr (by decide) (by decide), HL3.out.puts HP3.out.st hP4.fr (by decide) (by decide), HC3.out.puts HP3.out.st hP4.fr (by decide) (by decide)⟩)
            clear h2 hP4
            go_wp2_with fail
            go_end0
            rw [HRN.out]
            exact ⟨hP.out, fun b _ => HBX.out⟩
end Go.Proofs.Ytoplaokimahdiaa.Wi
