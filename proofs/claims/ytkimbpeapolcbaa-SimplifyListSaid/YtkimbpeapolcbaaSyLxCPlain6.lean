/- Chapter 10: LxCPlain6 turned to this seat. (Printed by gsyport.py.) -/
import Derived.Test.YtkimbpeapolcbaaSyLxCPlain5
namespace Go.Proofs.Ytkimbpeapolcbaa.Sy
open Go.RowKit Go.Proofs.Ytkimbpeapolcbaa.Bw Go.Proofs.Ytkimbpeapolcbaa.Bs

def oldsIn : List It → Nat
  | [] => 0
  | x :: r => (if x.1 then 1 else 0) + oldsIn r
theorem oldsIn_app : ∀ (a b : List It), oldsIn (a ++ b) = oldsIn a + oldsIn b
  | [], b => by show oldsIn b = 0 + oldsIn b; omega
  | x :: r, b => by
    show (if x.1 then 1 else 0) + oldsIn (r ++ b) = (if x.1 then 1 else 0) + oldsIn r + oldsIn b
    rw [oldsIn_app r b]; omega
theorem oldsIn_new : ∀ (l : List UInt8), oldsIn (l.map fun c => ((false, c) : It)) = 0
  | [] => rfl
  | _ :: r => by
    show (if false = true then 1 else 0) + oldsIn (r.map fun c => ((false, c) : It)) = 0
    rw [oldsIn_new r]; rfl
theorem oldsIn_edV : ∀ (V : Vw) (j : Nat), oldsIn (edV V) = (stV j V).length
  | [], _ => rfl
  | x :: r, j => by
    show oldsIn (_ ++ ((if x.2 then [] else [(true, 0)]) ++ edV r)) = (if x.2 then stV (j + 1) r else j :: stV (j + 1) r).length
    rw [oldsIn_app, oldsIn_new, oldsIn_app, oldsIn_edV r (j + 1)]
    cases x.2 with
    | true => show 0 + (0 + _) = _; rw [if_pos rfl]; omega
    | false =>
      rw [if_neg (by decide), if_neg (by decide)]
      show 0 + (1 + 0 + _) = (stV (j + 1) r).length + 1
      omega
theorem stV_ge : ∀ (V : Vw) (j : Nat), ∀ x ∈ stV j V, j ≤ x ∧ x < j + V.length
  | [], _, _, h => absurd h List.not_mem_nil
  | y :: r, j, x, h => by
    have h : x ∈ (if y.2 then stV (j + 1) r else j :: stV (j + 1) r) := h
    have hl : (y :: r).length = r.length + 1 := rfl
    split at h
    · have := stV_ge r (j + 1) x h; omega
    · rcases List.mem_cons.1 h with h | h
      · omega
      · have := stV_ge r (j + 1) x h; omega
theorem stV_lt : ∀ (V : Vw) (j : Nat), (stV j V).Pairwise (· < ·)
  | [], _ => List.Pairwise.nil
  | y :: r, j => by
    show (if y.2 then stV (j + 1) r else j :: stV (j + 1) r).Pairwise (· < ·)
    split
    · exact stV_lt r (j + 1)
    · exact List.Pairwise.cons (fun x hx => by have := (stV_ge r (j + 1) x hx).1; omega) (stV_lt r (j + 1))
/-- What the loop has at a place: the list so far, what is put next, what has been gone by, how many stay. -/
structure DS where
  out : List Pc
  put : ByteArray
  last : Nat
  old : Nat
/-- What holds at a place of the loop. -/
structure DS.Ok (s : DS) (mid : List It) (V : Vw) (st : List Nat) (M i : Nat) : Prop where
  nn : Nn s.out
  w : wt s.out + s.put.size ≤ 1000000 * i + s.last
  len : s.out.length ≤ 2 * i
  la : s.last ≤ M + 1
  ol : s.old ≤ i
  cnt : oldsIn (mid.drop i) = (st.drop s.old).length
  ge : ∀ x ∈ st.drop s.old, s.last ≤ x ∧ x ≤ M
  srt : (st.drop s.old).Pairwise (· < ·)
  all : s.out ++ docC (mid.drop i) (V.drop i) (st.drop s.old) s.last s.put = docC mid V st 0 ⟨#[]⟩
theorem DS.ok0 {mid : List It} {V : Vw} {st : List Nat} {M : Nat} (h1 : oldsIn mid = st.length) (h2 : ∀ x ∈ st, x ≤ M) (h3 : st.Pairwise (· < ·)) : DS.Ok ⟨[], ⟨#[]⟩, 0, 0⟩ mid V st M 0 :=
  ⟨fun p hp => absurd hp List.not_mem_nil, by show (0 : Int) + ((0 : Nat) : Int) ≤ _; simp, Nat.zero_le _, Nat.zero_le _, Nat.le_refl _, h1, fun x hx => ⟨Nat.zero_le _, h2 x hx⟩, h3, rfl⟩
theorem wt_app2 : ∀ (a b : List Pc), wt (a ++ b) = wt a + wt b
  | [], b => by show wt b = 0 + wt b; omega
  | p :: r, b => by
    show p.keep + p.drop + p.put.size + wt (r ++ b) = p.keep + p.drop + p.put.size + wt r + wt b
    rw [wt_app2 r b]; omega
theorem nn_app {a b : List Pc} (ha : Nn a) (hb : Nn b) : Nn (a ++ b) := fun p hp => (List.mem_append.1 hp).elim (ha p) (hb p)
theorem DS.Ok.newDrop {s : DS} {mid : List It} {V : Vw} {st : List Nat} {M i : Nat} (h : s.Ok mid V st M i) {c : UInt8} {y : ByteArray} (hm : mid[i]? = some (false, c)) (hv : V[i]? = some (y, true)) (hy : y.size < 1000000) :
    DS.Ok ⟨s.out, s.put ++ y, s.last, s.old⟩ mid V st M (i + 1) := by
  obtain ⟨a1, a2, a3, a4, a5, a6, a7, a8, a9⟩ := h
  rw [drop_at hm] at a6 a9
  rw [drop_at hv] at a9
  have e : (s.put ++ y).size = s.put.size + y.size := ByteArray.size_append
  refine ⟨a1, ?_, ?_, a4, ?_, ?_, a7, a8, a9⟩
  · show wt s.out + ((s.put ++ y).size : Int) ≤ 1000000 * ((i + 1 : Nat) : Int) + s.last
    rw [e]; omega
  · show s.out.length ≤ _; omega
  · show s.old ≤ _; omega
  · show oldsIn _ = (st.drop s.old).length
    rw [← a6]
    show _ = (if false = true then 1 else 0) + oldsIn _
    simp
theorem DS.Ok.newKeep {s : DS} {mid : List It} {V : Vw} {st : List Nat} {M i : Nat} (h : s.Ok mid V st M i) {c : UInt8} {y : ByteArray} (hm : mid[i]? = some (false, c)) (hv : V[i]? = some (y, false)) (hy : y.size < 1000000) :
    DS.Ok ⟨s.out, s.put ++ y ++ ⟨#[c]⟩, s.last, s.old⟩ mid V st M (i + 1) := by
  obtain ⟨a1, a2, a3, a4, a5, a6, a7, a8, a9⟩ := h
  rw [drop_at hm] at a6 a9
  rw [drop_at hv] at a9
  have e : (s.put ++ y ++ ⟨#[c]⟩).size = s.put.size + y.size + 1 := by rw [ByteArray.size_append, ByteArray.size_append]; rfl
  refine ⟨a1, ?_, ?_, a4, ?_, ?_, a7, a8, a9⟩
  · show wt s.out + ((s.put ++ y ++ ⟨#[c]⟩).size : Int) ≤ 1000000 * ((i + 1 : Nat) : Int) + s.last
    rw [e]; omega
  · show s.out.length ≤ _; omega
  · show s.old ≤ _; omega
  · show oldsIn _ = (st.drop s.old).length
    rw [← a6]
    show _ = (if false = true then 1 else 0) + oldsIn _
    simp
/-- One of the text's: which it is. -/
theorem DS.Ok.which {s : DS} {mid : List It} {V : Vw} {st : List Nat} {M i : Nat} (h : s.Ok mid V st M i) {c : UInt8} (hm : mid[i]? = some (true, c)) : ∃ x, st[s.old]? = some x ∧ s.last ≤ x ∧ x ≤ M := by
  have h6 := h.cnt
  rw [drop_at hm] at h6
  have h6 : 1 + oldsIn (mid.drop (i + 1)) = (st.drop s.old).length := h6
  rw [List.length_drop] at h6
  have hlt : s.old < st.length := by omega
  refine ⟨st[s.old], List.getElem?_eq_getElem hlt, ?_⟩
  exact h.ge _ (by rw [List.drop_eq_getElem_cons hlt]; exact List.mem_cons_self)
theorem DS.Ok.oldDrop {s : DS} {mid : List It} {V : Vw} {st : List Nat} {M i : Nat} (h : s.Ok mid V st M i) {c : UInt8} {y : ByteArray} {x : Nat} (hm : mid[i]? = some (true, c)) (hv : V[i]? = some (y, true)) (hx : st[s.old]? = some x) (hy : y.size < 1000000) :
    DS.Ok ⟨s.out, s.put ++ y, s.last, s.old + 1⟩ mid V st M (i + 1) := by
  obtain ⟨a1, a2, a3, a4, a5, a6, a7, a8, a9⟩ := h
  rw [drop_at hm, drop_at hx] at a6
  rw [drop_at hm, drop_at hv, drop_at hx] at a9
  rw [drop_at hx] at a7 a8
  have e : (s.put ++ y).size = s.put.size + y.size := ByteArray.size_append
  refine ⟨a1, ?_, ?_, a4, ?_, ?_, fun z hz => a7 z (List.mem_cons_of_mem _ hz), (List.pairwise_cons.1 a8).2, a9⟩
  · show wt s.out + ((s.put ++ y).size : Int) ≤ 1000000 * ((i + 1 : Nat) : Int) + s.last
    rw [e]; omega
  · show s.out.length ≤ _; omega
  · show s.old + 1 ≤ _; omega
  · have a6 : 1 + oldsIn (mid.drop (i + 1)) = (st.drop (s.old + 1)).length + 1 := a6
    show oldsIn _ = (st.drop (s.old + 1)).length
    omega
theorem DS.Ok.oldKeep {s : DS} {mid : List It} {V : Vw} {st : List Nat} {M i : Nat} (h : s.Ok mid V st M i) {c : UInt8} {y : ByteArray} {x : Nat} (hm : mid[i]? = some (true, c)) (hv : V[i]? = some (y, false)) (hx : st[s.old]? = some x) (hy : y.size < 900000) :
    DS.Ok ⟨s.out ++ [⟨0, (x : Int) - (s.last : Int), s.put ++ y⟩, ⟨1, 0, ⟨#[]⟩⟩], ⟨#[]⟩, x + 1, s.old + 1⟩ mid V st M (i + 1) := by
  obtain ⟨a1, a2, a3, a4, a5, a6, a7, a8, a9⟩ := h
  rw [drop_at hm, drop_at hx] at a6
  rw [drop_at hm, drop_at hv, drop_at hx] at a9
  rw [drop_at hx] at a7 a8
  have e : (s.put ++ y).size = s.put.size + y.size := ByteArray.size_append
  obtain ⟨g1, g2⟩ := a7 x List.mem_cons_self
  have hp := List.pairwise_cons.1 a8
  refine ⟨nn_app a1 (fun p hp => ?_), ?_, ?_, ?_, ?_, ?_, fun z hz => ⟨?_, (a7 z (List.mem_cons_of_mem _ hz)).2⟩, hp.2, ?_⟩
  · rcases List.mem_cons.1 hp with rfl | hp
    · exact ⟨Int.le_refl _, by show (0 : Int) ≤ (x : Int) - (s.last : Int); omega⟩
    · rcases List.mem_cons.1 hp with rfl | hp
      · exact ⟨by decide, by decide⟩
      · exact absurd hp List.not_mem_nil
  · show wt (s.out ++ [_, _]) + (((⟨#[]⟩ : ByteArray).size : Nat) : Int) ≤ 1000000 * ((i + 1 : Nat) : Int) + ((x + 1 : Nat) : Int)
    rw [wt_app2]
    show wt s.out + (0 + ((x : Int) - (s.last : Int)) + ((s.put ++ y).size : Int) + (1 + 0 + ((0 : Nat) : Int) + 0)) + ((0 : Nat) : Int) ≤ _
    rw [e]; omega
  · show (s.out ++ [_, _]).length ≤ _
    rw [List.length_append]
    show s.out.length + 2 ≤ _
    omega
  · show x + 1 ≤ M + 1; omega
  · show s.old + 1 ≤ _; omega
  · have a6 : 1 + oldsIn (mid.drop (i + 1)) = (st.drop (s.old + 1)).length + 1 := a6
    show oldsIn _ = (st.drop (s.old + 1)).length
    omega
  · exact hp.1 z hz
  · show (s.out ++ [_, _]) ++ docC (mid.drop (i + 1)) (V.drop (i + 1)) (st.drop (s.old + 1)) (x + 1) ⟨#[]⟩ = _
    rw [← a9, List.append_assoc]
    rfl
theorem DS.Ok.done {s : DS} {mid : List It} {V : Vw} {st : List Nat} {M i : Nat} (h : s.Ok mid V st M i) (hi : mid.length ≤ i) : s.out = docC mid V st 0 ⟨#[]⟩ := by
  have h9 := h.all
  rw [List.drop_eq_nil_of_le hi] at h9
  rw [← h9]
  show s.out = s.out ++ docC [] _ _ _ _
  unfold docC
  simp
end Go.Proofs.Ytkimbpeapolcbaa.Sy
