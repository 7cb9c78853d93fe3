/- Chapter 17: what the document says of bytes: what may be put, and its bytes. -/
import Derived.Test.YtoplaokimahdiaaWiUd
namespace Go.Proofs.Ytoplaokimahdiaa.Wi
open Go.RowKit Go.Proofs.Ytoplaokimahdiaa.Bw

def smallB (n : Int) : Bool := decide (0 ≤ n) && decide (n ≤ 1048576)
def mayP (p : List Int) : Bool := decide (p.length ≤ 64) && p.all smallB
def numsB (p : List Int) : List UInt8 := p.flatMap fun n => num n.toNat
def pathB (p : List Int) : List UInt8 := num p.length ++ numsB p
def textB (s : ByteArray) : List UInt8 := num s.size ++ bl s
def pcB (p : Pc) : List UInt8 := num p.keep.toNat ++ num p.drop.toNat ++ textB p.put
def pcOk (p : Pc) : Bool := smallB p.keep && smallB p.drop && decide (p.put.size ≤ 1048576)
def pcsB (l : List Pc) : List UInt8 := l.flatMap pcB
def mayO (o : OpD) : Bool := (decide (1 ≤ o.kind) && decide (o.kind ≤ 6) && mayP o.path && bareO o) && (smallB o.at_ && mayP o.to && decide (o.label.size ≤ 64) && decide (o.key.size ≤ 64) && decide (o.value.size ≤ 256) && (!o.gone || o.value.size == 0) && decide (o.pcs.length ≤ 4096)) && o.pcs.all pcOk
def restB (o : OpD) : List UInt8 :=
  if o.kind = 1 then num o.at_.toNat ++ num o.id.toNat ++ flagE o.leaf ++ textB o.label
  else if o.kind = 3 then pathB o.to ++ num o.at_.toNat
  else if o.kind = 4 then textB o.key ++ flagE o.gone ++ textB o.value
  else if o.kind = 5 then textB o.label
  else if o.kind = 6 then num o.pcs.length ++ pcsB o.pcs
  else []
def opB (o : OpD) : List UInt8 := UInt8.ofNat o.kind.toNat :: (pathB o.path ++ restB o)
theorem smallE_eq (n : Int) : smallE n 1048577 = if smallB n then some (num n.toNat) else none := by
  unfold smallE smallB
  by_cases h : 0 ≤ n ∧ n < 1048577
  · rw [if_pos h, if_pos (by simp; omega)]
  · rw [if_neg h, if_neg (by simp; omega)]
theorem textE_eq (s : ByteArray) (most : Nat) : textE s most = if decide (s.size ≤ most) = true then some (textB s) else none := by
  unfold textE textB
  by_cases h : s.size ≤ most
  · rw [if_pos h, if_pos (decide_eq_true h)]
  · rw [if_neg h, if_neg (by rw [decide_eq_false h]; decide)]
theorem seqE_all {α : Type} {f : α → Option (List UInt8)} {ok : α → Bool} {g : α → List UInt8} (h : ∀ x, f x = if ok x then some (g x) else none) : ∀ l : List α, seqE (l.map f) = if l.all ok then some (l.flatMap g) else none
  | [] => rfl
  | x :: l => by
    rw [List.map_cons, h x]
    cases hx : ok x with
    | false => rw [if_neg (by decide), List.all_cons, hx]; rfl
    | true =>
      rw [if_pos rfl, seqE_cons, seqE_all h l, List.all_cons, hx, Bool.true_and]
      cases l.all ok <;> rfl
theorem rowE_eq {α : Type} {f : α → Option (List UInt8)} {ok : α → Bool} {g : α → List UInt8} (h : ∀ x, f x = if ok x then some (g x) else none) (l : List α) (most : Nat) : rowE l most f = if decide (l.length ≤ most) && l.all ok then some (num l.length ++ l.flatMap g) else none := by
  unfold rowE
  rw [seqE_cons, seqE_all h]
  by_cases h1 : l.length ≤ most
  · rw [if_pos h1, decide_eq_true h1, Bool.true_and]
    cases l.all ok <;> rfl
  · rw [if_neg h1, decide_eq_false h1, Bool.false_and]; rfl
theorem pathE_eq (p : List Int) : pathE p = if mayP p then some (pathB p) else none := rowE_eq smallE_eq p 64
theorem pieceE_eq (p : Pc) : pieceE p = if pcOk p then some (pcB p) else none := by
  unfold pieceE pcOk pcB
  rw [smallE_eq, smallE_eq, textE_eq]
  generalize decide (p.put.size ≤ 1048576) = t
  cases smallB p.keep <;> cases smallB p.drop <;> cases t <;> simp [seqE]
theorem pcsE_eq (l : List Pc) : rowE l 4096 pieceE = if decide (l.length ≤ 4096) && l.all pcOk then some (num l.length ++ pcsB l) else none := rowE_eq pieceE_eq l 4096
theorem small0 : smallB 0 = true := rfl
theorem may0 : mayP [] = true := rfl
theorem sz0 (n : Nat) : decide ((⟨#[]⟩ : ByteArray).size ≤ n) = true := decide_eq_true (Nat.zero_le n)
theorem sz1 : ((⟨#[]⟩ : ByteArray).size == 0) = true := rfl
theorem ln0 (n : Nat) : decide (([] : List Pc).length ≤ n) = true := decide_eq_true (Nat.zero_le n)
set_option maxHeartbeats 1000000 in
theorem opE_eq (o : OpD) : opE o = if mayO o then some (opB o) else none := by
  unfold opE
  by_cases h : 1 ≤ o.kind ∧ o.kind ≤ 6 ∧ bareO o = true
  · rw [if_pos h]
    obtain ⟨h1, h2, h3⟩ := h
    rw [seqE_cons, pathE_eq]
    have hb := bare_is h3
    unfold mayO
    rw [decide_eq_true h1, decide_eq_true h2, h3]
    obtain ⟨k, p, a, t, i, lf, lb, ky, v, g, c⟩ := o
    simp only at h1 h2 hb
    cases hp : mayP p with
    | false => simp [seqE]
    | true =>
      simp only [if_true, seqE_cons, Bool.true_and]
      unfold restE opB restB
      simp only
      by_cases c1 : k = 1
      · obtain ⟨rfl, rfl, rfl⟩ := hb.2.2.2.1 (by omega)
        obtain rfl := hb.2.2.1 (by omega)
        obtain rfl := hb.2.2.2.2.2 (by omega)
        rw [if_pos c1, if_pos c1, smallE_eq, textE_eq]
        simp only [may0, sz0, sz1, ln0]
        generalize decide (lb.size ≤ 64) = t
        cases smallB a <;> cases t <;> simp [seqE]
      · obtain ⟨rfl, rfl⟩ := hb.1 c1
        by_cases c3 : k = 3
        · obtain ⟨rfl, rfl, rfl⟩ := hb.2.2.2.1 (by omega)
          obtain rfl := hb.2.2.2.2.1 c1 (by omega)
          obtain rfl := hb.2.2.2.2.2 (by omega)
          rw [if_neg c1, if_neg c1, if_pos c3, if_pos c3, smallE_eq, pathE_eq]
          simp only [sz0, sz1, ln0]
          cases smallB a <;> cases mayP t <;> simp [seqE]
        · obtain rfl := hb.2.1 c1 c3
          obtain rfl := hb.2.2.1 c3
          by_cases c4 : k = 4
          · obtain rfl := hb.2.2.2.2.1 c1 (by omega)
            obtain rfl := hb.2.2.2.2.2 (by omega)
            rw [if_neg c1, if_neg c1, if_neg c3, if_neg c3, if_pos c4, if_pos c4, textE_eq, textE_eq]
            simp only [may0, small0, sz0, ln0]
            generalize decide (ky.size ≤ 64) = t1
            generalize decide (v.size ≤ 256) = t2
            generalize (!g || v.size == 0) = t3
            cases t1 <;> cases t2 <;> cases t3 <;> simp [seqE]
          · obtain ⟨rfl, rfl, rfl⟩ := hb.2.2.2.1 c4
            by_cases c5 : k = 5
            · obtain rfl := hb.2.2.2.2.2 (by omega)
              rw [if_neg c1, if_neg c1, if_neg c3, if_neg c3, if_neg c4, if_neg c4, if_pos c5, if_pos c5, textE_eq]
              simp only [may0, small0, sz0, sz1, ln0]
              generalize decide (lb.size ≤ 64) = t1
              cases t1 <;> simp [seqE]
            · obtain rfl := hb.2.2.2.2.1 c1 c5
              rw [if_neg c1, if_neg c1, if_neg c3, if_neg c3, if_neg c4, if_neg c4, if_neg c5, if_neg c5]
              by_cases c6 : k = 6
              · rw [if_pos c6, if_pos c6, pcsE_eq]
                simp only [may0, small0, sz0, sz1]
                generalize decide (c.length ≤ 4096) = t1
                generalize c.all pcOk = t2
                cases t1 <;> cases t2 <;> simp [seqE]
              · obtain rfl := hb.2.2.2.2.2 c6
                rw [if_neg c6, if_neg c6]
                simp only [may0, small0, sz0, sz1, ln0]
                simp [seqE]
  · rw [if_neg h]
    rw [if_neg]
    intro hm
    apply h
    unfold mayO at hm
    simp only [Bool.and_eq_true, decide_eq_true_eq] at hm
    exact ⟨hm.1.1.1.1.1, hm.1.1.1.1.2, hm.1.1.2⟩
def opsB (l : List OpD) : List UInt8 := l.flatMap opB
theorem listE_eq (l : List OpD) : listE l = if decide (l.length ≤ 4096) && l.all mayO then some (num l.length ++ opsB l) else none := rowE_eq opE_eq l 4096
end Go.Proofs.Ytoplaokimahdiaa.Wi
