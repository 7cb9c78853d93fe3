/- SyOuAt turned to this seat. (Printed by gport.py.) -/
import Derived.Test.YtofcbclokkjfjaaOyOuOps
import Derived.Test.YtofcbclokkjfjaaOyNdAt
namespace Go.Proofs.Ytofcbclokkjfjaa.Sy
open Go.RowKit Go.Proofs.Ytofcbclokkjfjaa.Bw Go.Proofs.Ytofcbclokkjfjaa.Bs
theorem lsame_at {w : World} {l : List OpD} {A : Option Addr} {c : Nat} (h : RdL w l (.slice A l.length c)) {i : Nat} {o : OpD} (hi : l[i]? = some o) : ∃ b off pv tv cv, A = some ⟨b, off, none⟩ ∧ o.rd w (.agg #[.int .u8 o.kind, pv, .int .i64 o.at_, tv, .int .u64 o.id, .bool o.leaf, .string o.label, .string o.key, .string o.value, .bool o.gone, cv]) ∧
  w.cell? ⟨b, off + i * 11, none⟩ = some (.int .u8 o.kind) ∧ w.cell? ⟨b, off + i * 11 + 1, none⟩ = some pv ∧ w.cell? ⟨b, off + i * 11 + 2, none⟩ = some (.int .i64 o.at_) ∧ w.cell? ⟨b, off + i * 11 + 3, none⟩ = some tv ∧ w.cell? ⟨b, off + i * 11 + 4, none⟩ = some (.int .u64 o.id) ∧
  w.cell? ⟨b, off + i * 11 + 5, none⟩ = some (.bool o.leaf) ∧ w.cell? ⟨b, off + i * 11 + 6, none⟩ = some (.string o.label) ∧ w.cell? ⟨b, off + i * 11 + 7, none⟩ = some (.string o.key) ∧ w.cell? ⟨b, off + i * 11 + 8, none⟩ = some (.string o.value) ∧ w.cell? ⟨b, off + i * 11 + 9, none⟩ = some (.bool o.gone) ∧ w.cell? ⟨b, off + i * 11 + 10, none⟩ = some cv := by
 obtain ⟨A', c', he, h1, h2, h3⟩ := h
 cases he
 have hlt : i < l.length := (List.getElem?_eq_some_iff.1 hi).1
 obtain ⟨b, off, rfl, hr⟩ := h3 (by omega)
 obtain ⟨⟨pv, tv, cv, k0, k1, k2, k3, k4, k5, k6, k7, k8, k9, k10, k11⟩, -⟩ := rdOps_at hr hi
 exact ⟨b, off, pv, tv, cv, rfl, k11, k0, k1, k2, k3, k4, k5, k6, k7, k8, k9, k10⟩
end Go.Proofs.Ytofcbclokkjfjaa.Sy
