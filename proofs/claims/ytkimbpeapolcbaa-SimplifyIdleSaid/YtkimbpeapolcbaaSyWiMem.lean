/- Chapter 10: WiMem turned to this seat. (Printed by gsyport.py.) -/
import Derived.Test.YtkimbpeapolcbaaBwMem
import Derived.Test.YtkimbpeapolcbaaSyLxFrame
import Derived.Test.YtkimbpeapolcbaaSyBsInts
import Derived.Test.YtkimbpeapolcbaaSyLxData
import Derived.Test.YtkimbpeapolcbaaSyLxLast
import Derived.Test.YtkimbpeapolcbaaSyLxRNorm2
namespace Go.Proofs.Ytkimbpeapolcbaa.Sy
open Go.RowKit Go.Proofs.Ytkimbpeapolcbaa.Bw Go.Proofs.Ytkimbpeapolcbaa.Bs

def i64 (n : Int) : Prop := -9223372036854775808 ≤ n ∧ n ≤ 9223372036854775807
def OpD.rd (w : World) (o : OpD) (v : Value) : Prop := ∃ pv tv cv, v = .agg #[.int .u8 o.kind, pv, .int .i64 o.at_, tv, .int .u64 o.id, .bool o.leaf, .string o.label, .string o.key, .string o.value, .bool o.gone, cv] ∧
  RdI w o.path pv ∧ RdI w o.to tv ∧ RdP w o.pcs cv ∧ okStr o.label ∧ okStr o.key ∧ okStr o.value ∧ (0 ≤ o.id ∧ o.id ≤ 18446744073709551615) ∧ (0 ≤ o.kind ∧ o.kind ≤ 255)
theorem OpD.rd_ext {w w' : World} (h : Ext w w') {o : OpD} {v : Value} (hr : o.rd w v) : o.rd w' v := by
  obtain ⟨pv, tv, cv, e, h1, h2, h3, h4⟩ := hr
  exact ⟨pv, tv, cv, e, RdS.ext h h1, RdS.ext h h2, RdP.ext h h3, h4⟩
/-- A row of operations from an address on: cell by cell. -/
def rdOps (w : World) (b : Nat) : Nat → List OpD → Prop
  | _, [] => True
  | off, o :: r => (∃ pv tv cv, w.cell? ⟨b, off, none⟩ = some (.int .u8 o.kind) ∧ w.cell? ⟨b, off + 1, none⟩ = some pv ∧ w.cell? ⟨b, off + 2, none⟩ = some (.int .i64 o.at_) ∧ w.cell? ⟨b, off + 3, none⟩ = some tv ∧ w.cell? ⟨b, off + 4, none⟩ = some (.int .u64 o.id) ∧
      w.cell? ⟨b, off + 5, none⟩ = some (.bool o.leaf) ∧ w.cell? ⟨b, off + 6, none⟩ = some (.string o.label) ∧ w.cell? ⟨b, off + 7, none⟩ = some (.string o.key) ∧ w.cell? ⟨b, off + 8, none⟩ = some (.string o.value) ∧ w.cell? ⟨b, off + 9, none⟩ = some (.bool o.gone) ∧ w.cell? ⟨b, off + 10, none⟩ = some cv ∧
      o.rd w (.agg #[.int .u8 o.kind, pv, .int .i64 o.at_, tv, .int .u64 o.id, .bool o.leaf, .string o.label, .string o.key, .string o.value, .bool o.gone, cv])) ∧ rdOps w b (off + 11) r
theorem rdOps_ext {w w' : World} (h : Ext w w') {b : Nat} : ∀ {off : Nat} {l : List OpD}, rdOps w b off l → rdOps w' b off l
  | _, [], _ => trivial
  | _, _ :: _, ⟨⟨pv, tv, cv, h0, h1, h2, h3, h4, h5, h6, h7, h8, h9, h10, h11⟩, hr⟩ => ⟨⟨pv, tv, cv, h.cell h0, h.cell h1, h.cell h2, h.cell h3, h.cell h4, h.cell h5, h.cell h6, h.cell h7, h.cell h8, h.cell h9, h.cell h10, OpD.rd_ext h h11⟩, rdOps_ext h hr⟩
/-- A slice value that reads as a list of operations. -/
def RdL (w : World) (l : List OpD) (v : Value) : Prop :=
  ∃ A c, v = .slice A l.length c ∧ l.length ≤ c ∧ c ≤ maxLen ∧ (0 < l.length → ∃ b off, A = some ⟨b, off, none⟩ ∧ rdOps w b off l)
theorem RdL.ext {w w' : World} (h : Ext w w') {l : List OpD} {v : Value} (hr : RdL w l v) : RdL w' l v := by
  obtain ⟨A, c, e, h1, h2, h3⟩ := hr
  refine ⟨A, c, e, h1, h2, fun h0 => ?_⟩
  obtain ⟨b, off, h4, h5⟩ := h3 h0
  exact ⟨b, off, h4, rdOps_ext h h5⟩
theorem rdOps_at {w : World} {b : Nat} : ∀ {l : List OpD} {off i : Nat} {o : OpD}, rdOps w b off l → l[i]? = some o → rdOps w b (off + i * 11) [o]
  | [], _, _, _, _, h => by simp at h
  | x :: r, off, 0, o, hr, h => by
    simp at h; obtain rfl := h
    exact ⟨by simpa using hr.1, trivial⟩
  | x :: r, off, i + 1, o, hr, h => by
    have := rdOps_at (i := i) hr.2 (by simpa using h)
    rw [show off + (i + 1) * 11 = off + 11 + i * 11 by omega]
    exact this
theorem NBox.not_own {W : World} {b : Nat} {t : TypeId} {cs : Array Value} {base e size n : Nat} {v : Value} {xs : List Value} (h : NBox W b t cs) (ho : W.ownsRow base e size v n xs) (hne : t ≠ e) : v.ownBlock ≠ some b := by
  intro hv
  rcases ho.2 with ⟨h2, _⟩ | ⟨g, cap, cur, h1, _, hg, r⟩
  · rw [h2] at hv; exact absurd hv (by simp [Value.ownBlock])
  · rw [h1] at hv
    obtain rfl : g = b := by simpa [Value.ownBlock] using hv
    have := h.symm.trans hg
    simp at this
    exact hne this.2
theorem NBox.apart {W : World} {a b : Nat} {t u : TypeId} {cs ds : Array Value} (h : NBox W a t cs) (k : NBox W b u ds) (hne : t ≠ u) : a ≠ b := by
  rintro rfl
  have : some (Obj.cells cs t (0, 0)) = some (Obj.cells ds u (0, 0)) := h.symm.trans k
  simp only [Option.some.injEq, Obj.cells.injEq] at this
  exact hne this.2.1
end Go.Proofs.Ytkimbpeapolcbaa.Sy
