/- Chapter 24: the examples' plain facts. -/
import Derived.Test.YtofcbclokkjfjaaOuSplitP
namespace Go.Proofs.Ytofcbclokkjfjaa.Wi
open Go.RowKit Go.Proofs.Ytofcbclokkjfjaa.Bw Go.Proofs.Ytofcbclokkjfjaa.Bs

def exN : Nd := .mk 0 false ⟨#[114]⟩ [] ⟨#[]⟩ [.mk 0 false ⟨#[97]⟩ [] ⟨#[]⟩ [], .mk 0 false ⟨#[98]⟩ [] ⟨#[]⟩ [], .mk 0 false ⟨#[99]⟩ [] ⟨#[]⟩ [.mk 0 true ⟨#[120]⟩ [] ⟨#[104, 101, 108, 108, 111]⟩ []]]
theorem exN_rd {W : World} {X : Nat} (h0 : NBox W X 26 #[.int .u64 0, .bool true, .string ⟨#[120]⟩, .slice none 0 0, .string ⟨#[104, 101, 108, 108, 111]⟩, .slice none 0 0])
    (h1 : NBox W (X + 1) 26 #[.int .u64 0, .bool false, .string ⟨#[97]⟩, .slice none 0 0, .string ⟨#[]⟩, .slice none 0 0, .int .u64 0, .bool false, .string ⟨#[98]⟩, .slice none 0 0, .string ⟨#[]⟩, .slice none 0 0, .int .u64 0, .bool false, .string ⟨#[99]⟩, .slice none 0 0, .string ⟨#[]⟩, .slice (some ⟨X, 0, none⟩) 1 1]) :
    exN.rd W (.agg #[.int .u64 0, .bool false, .string ⟨#[114]⟩, .slice none 0 0, .string ⟨#[]⟩, .slice (some ⟨X + 1, 0, none⟩) 3 3]) := by
  have hn : ∀ (t : ByteArray), RdA W [] (.slice none 0 0) := fun _ => ⟨none, 0, rfl, by decide, by decide, fun h => absurd rfl h⟩
  have leaf : ∀ (f : Bool) (lb tx : ByteArray), okStr lb → okStr tx → (Nd.mk 0 f lb [] tx []).rd W (.agg #[.int .u64 0, .bool f, .string lb, .slice none 0 0, .string tx, .slice none 0 0]) := fun f lb tx k1 k2 => by
    unfold Nd.rd
    exact ⟨_, _, _, rfl, by decide, k1, k2, hn lb, by decide, by decide, fun h => absurd rfl h⟩
  unfold exN
  unfold Nd.rd
  refine ⟨_, _, _, rfl, by decide, (show (1 : Nat) ≤ maxLen by decide), (show (0 : Nat) ≤ maxLen by decide), hn ⟨#[]⟩, (show 3 ≤ 3 by decide), (show 3 ≤ maxLen by decide), fun _ => ⟨X + 1, 0, rfl, ?_⟩⟩
  refine ⟨⟨_, _, _, _, _, _, h1.cell 0, h1.cell 1, h1.cell 2, h1.cell 3, h1.cell 4, h1.cell 5, leaf _ _ _ (show (1 : Nat) ≤ maxLen by decide) (show (0 : Nat) ≤ maxLen by decide)⟩, ⟨_, _, _, _, _, _, h1.cell 6, h1.cell 7, h1.cell 8, h1.cell 9, h1.cell 10, h1.cell 11, leaf _ _ _ (show (1 : Nat) ≤ maxLen by decide) (show (0 : Nat) ≤ maxLen by decide)⟩, ⟨_, _, _, _, _, _, h1.cell 12, h1.cell 13, h1.cell 14, h1.cell 15, h1.cell 16, h1.cell 17, ?_⟩, trivial⟩
  unfold Nd.rd
  exact ⟨_, _, _, rfl, by decide, (show (1 : Nat) ≤ maxLen by decide), (show (0 : Nat) ≤ maxLen by decide), hn ⟨#[]⟩, (show 1 ≤ 1 by decide), (show 1 ≤ maxLen by decide), fun _ => ⟨X, 0, rfl, ⟨_, _, _, _, _, _, h0.cell 0, h0.cell 1, h0.cell 2, h0.cell 3, h0.cell 4, h0.cell 5, leaf _ _ _ (show (1 : Nat) ≤ maxLen by decide) (show (5 : Nat) ≤ maxLen by decide)⟩, trivial⟩⟩
theorem ex1 : askP exN [1] indP = .ok ([0], 0) := by kernel_rfl
theorem ex2 : askP exN [2, 0] outP = .ok ([], 3) := by kernel_rfl
theorem ex3 : askP exN [1] upP = .ok ([], 0) := by kernel_rfl
theorem ex4 : askP exN [1] downP = .ok ([], 3) := by kernel_rfl
theorem ex5 : askG exN [2, 0] (splP 2 9) = .ok [editO [2, 0] ⟨2, 3, ⟨#[]⟩⟩, newO [2] 1 9 ⟨#[120]⟩, editO [2, 1] ⟨0, 0, ⟨#[108, 108, 111]⟩⟩] := by kernel_rfl
theorem ex6 : askP exN [0] indP = .error 4 := by kernel_rfl
theorem ex_wt : exN.wt ≤ 1000000 := by decide +kernel
end Go.Proofs.Ytofcbclokkjfjaa.Wi
