/-
  DERIVED: THE SHELF's CONTRACTS AT THIS DUMP, IN PLAIN WORDS (tools/lay-plain.mjs out of 'TryShelf.lean', which tools/lay-shelf.mjs wrote): THE SAME DECLARATIONS UNDER THE SAME NAMES: 'import', 'namespace', 'open', 'def', 'theorem' AND NOTHING ELSE: no command of the shelf's: FOR A HAND-IN. Each laying: the table of numbers ('.._ren') and one theorem, a field a fact of the dump's own or the kernel's comparison; each contract: ONE APPLICATION.
-/
import Derived.Shelf.Strings.Builder1
import Derived.Shelf.Strings.BuilderF
import Derived.Shelf.Strings.BuilderK
import Derived.Test.YtmncjknfkkedmaaProg
import Derived.Test.YtmncjknfkkedmaaLxLast
import Derived.Lib.Builder
import Derived.Lib.AppendStr
import Derived.Lib.FrozenHead
namespace Go.Proofs
open Go.Shelf
def Try.lays169_ren : Go.Shelf.Ren := ⟨fun | 169 => 31 | n => n, fun | 70 => 47 | 9 => 9 | 0 => 0 | 72 => 49 | 37 => 45 | 127 => 81 | 3 => 3 | 5 => 5 | n => n, fun | n => n⟩
theorem Try.lays169 : Go.Proofs.Lays.n169 Try.prog Try.lays169_ren := {
  mixed := by kernel_rfl
  f169 := Try.func31.trans (congrArg some (by kernel_rfl))
  t0 := Try.underlying0
  a0 := Try.isAgg0
  z0 := Try.sizeOf0
  v0 := Try.zeroValue0
  t3 := Try.underlying3
  a3 := Try.isAgg3
  z3 := Try.sizeOf3
  v3 := Try.zeroValue3
  t9 := Try.underlying9
  a9 := Try.isAgg9
  z9 := Try.sizeOf9
  v9 := Try.zeroValue9
  t37 := Try.underlying45
  a37 := Try.isAgg45
  z37 := Try.sizeOf45
  v37 := Try.zeroValue45
  t70 := Try.underlying47
  a70 := Try.isAgg47
  z70 := Try.sizeOf47
  v70 := Try.zeroValue47
  t72 := Try.underlying49
  a72 := Try.isAgg49
  z72 := Try.sizeOf49
  v72 := Try.zeroValue49
  t127 := Try.underlying81
  a127 := Try.isAgg81
  z127 := Try.sizeOf81
  v127 := Try.zeroValue81 }
theorem Try.Builder_Extra_169 : Builder.Extra Try.prog Try.lays169_ren := {
  sizeBuilder := by kernel_rfl
  liesBuilder := by kernel_rfl
  t5 := Try.underlying5
  a5 := Try.isAgg5
  z5 := Try.sizeOf5
  v5 := Try.zeroValue5
  infoByte := by kernel_rfl
  cellsByte := by kernel_rfl
  sizeByte := by kernel_rfl
  neB5 := by decide }
open Go.RowKit in
theorem Try.Builder_String_any_k (B b : Nat) (l : List UInt8) (w : World) (h : Lib.IsBuilderF 49 5 B b (Lib.byteCells l) w) (hBw : B ≤ w.heap.size) :
    Calls Try.prog 31 #[.pointer (some ⟨b, 0, none⟩)] w fun e w' => e = .returned (.string ⟨l.toArray⟩) ∧ (Lib.IsBuilderF 49 5 B b (Lib.byteCells l) w' ∧ Below B w w' ∧ Lib.OthersKept 5 (some b) w w') := Any.Builder_String_any_k Try.lays169 Try.Builder_Extra_169 B b l w h hBw
end Go.Proofs
namespace Go.Proofs.Ytmncjknfkkedmaa.Lx
open Go.RowKit Go.Proofs.Ytmncjknfkkedmaa.Bw Go.Proofs.Ytmncjknfkkedmaa.Bs

/-- A builder: at block b, its bytes with an owner from b on. -/
def BuAt (W : World) (b : Nat) (p : Option Addr) (v : Value) (s : ByteArray) : Prop :=
  NBox W b 49 #[.pointer p, v] ∧ W.ownsRow b 5 1 v s.size (Lib.strCells s) ∧ v.ownBlock ≠ some b ∧ (p = none ∨ p = some ⟨b, 0, none⟩)
theorem BuAt.fr {A B : World} {S : Nat → Prop} (k : Fr A B S) {b : Nat} {p : Option Addr} {v : Value} {s : ByteArray} (h : BuAt A b p v s) (hb : ¬ S b) (hv : ∀ g, v.ownBlock = some g → ¬ S g) : BuAt B b p v s :=
  ⟨h.1.fr k hb, owns_fr k h.2.1 hv, h.2.2.1, h.2.2.2⟩
theorem NBox.not_own {W : World} {b : Nat} {t : TypeId} {cs : Array Value} {base e size n : Nat} {v : Value} {xs : List Value} (h : NBox W b t cs) (ho : W.ownsRow base e size v n xs) (hne : t ≠ e) : v.ownBlock ≠ some b := by
  intro hv
  rcases ho.2 with ⟨h2, _⟩ | ⟨g, cap, cur, h1, _, hg, r⟩
  · rw [h2] at hv; exact absurd hv (by simp [Value.ownBlock])
  · rw [h1] at hv
    obtain rfl : g = b := by simpa [Value.ownBlock] using hv
    have := h.symm.trans hg
    simp at this
    exact hne this.2
theorem strCells_append (s t : ByteArray) : Lib.strCells s ++ Lib.strCells t = Lib.strCells (s ++ t) := by
  unfold Lib.strCells
  rw [ByteArray.data_append, Array.toList_append, List.map_append]
theorem BuAt.is {W : World} {b : Nat} {p : Option Addr} {v : Value} {s : ByteArray} (h : BuAt W b p v s) : Lib.IsBuilderF 49 5 b b (Lib.byteCells s.data.toList) W := by
  obtain ⟨h1, h2, h3, h4⟩ := h
  have e : Lib.byteCells s.data.toList = Lib.strCells s := rfl
  have hl : (Lib.strCells s).length = s.size := Lib.strCells_length s
  rw [e]
  rcases h4 with rfl | rfl
  · exact .inl (Lib.BuilderAtF.of ⟨Nat.le_refl _, v, h1, by rw [hl]; exact h2, h3⟩)
  · exact .inr (Lib.BuilderAtF.of ⟨Nat.le_refl _, v, h1, by rw [hl]; exact h2, h3⟩)

set_option maxRecDepth 100000 in
set_option maxHeartbeats 2000000 in
theorem copyCheck_any (b : Nat) (p : Option Addr) (v : Value) (w : World) (h : NBox w b 49 #[.pointer p, v]) (hp : p = none ∨ p = some ⟨b, 0, none⟩) : Calls Try.prog 46 #[.pointer (some ⟨b, 0, none⟩)] w fun e w' => e = .returned (.tuple #[]) ∧ NBox w' b 49 #[.pointer (some ⟨b, 0, none⟩), v] ∧ Fr w w' (fun k => k = b) := by
  obtain ⟨j, hj, hjs⟩ := Option.map_eq_some_iff.1 (show (Try.prog.info? 49).map (·.size) = some 2 by kernel_rfl)
  have hsh : w.shape? b = some (49, 2) := by unfold NBox at h; simp [World.shape?, h]
  have hl : liesAt Try.prog Try.prog.depth 49 (2 / Try.prog.cellsOf 49) 0 49 1 = true := by kernel_rfl
  have c0 := h.cell 0
  have fz := h.frozen 0
  rcases hp with rfl | rfl
  · go_enter Try.func46, Try.ntmps46
    go_wp2_with fail
    rw [Lib.run_to_unsafe w ⟨b, 0, none⟩ Try.underlying47 Try.underlying85 hj (by rw [hjs]; decide) hsh (Nat.zero_lt_succ 1)]
    simp only [Result.andThen]
    rw [Oper.upon_value]
    go_wp2_with fail
    rw [run_callFunc_extern Try.func48 (by kernel_rfl) (by kernel_rfl) (by kernel_rfl) (e := Extern.AbiNoEscape.same) (by kernel_rfl)]
    rw [Lib.run_noEscape]
    simp only [Result.andThen]
    rw [Oper.upon_value]
    go_wp2_with fail
    rw [Lib.run_from_unsafe w ⟨b, 0, none⟩ Try.underlying85 Try.underlying47 hj hsh hl]
    simp only [Result.andThen]
    rw [Oper.upon_value]
    go_wp2_with fail
    refine bodyPost_end (results_none rfl _ _ _) rfl ?_
    exact ⟨rfl, h.set 0 _, Fr.setCell _ _ _ _⟩
  · go_enter Try.func46, Try.ntmps46
    go_wp2_with fail
    rw [Lib.run_neq_ptr_same w _ Try.underlying47 hj]
    go_wp2_with fail
    refine bodyPost_end (results_none rfl _ _ _) rfl ?_
    exact ⟨rfl, h, Fr.refl _ _⟩
set_option maxRecDepth 100000 in
set_option maxHeartbeats 2000000 in
theorem writeString_any (b : Nat) (p : Option Addr) (v : Value) (t s : ByteArray) (w : World) (h : BuAt w b p v t) (hs : t.size + s.size ≤ 140737488355328) : Calls Try.prog 30 #[.pointer (some ⟨b, 0, none⟩), .string s] w fun e w' => ∃ v', e = .returned (.tuple #[.int .i64 s.size, .nilIface]) ∧ BuAt w' b (some ⟨b, 0, none⟩) v' (t ++ s) ∧ Fr w w' (fun k => k = b ∨ v.ownBlock = some k) := by
  obtain ⟨hN, hO, hne, hp⟩ := h
  have hc := copyCheck_any b p v w hN hp
  go_enter Try.func30, Try.ntmps30
  go_wp2_with fail
  refine hc.mono ?_
  clear hc
  rintro e w1 ⟨rfl, N1, F1⟩
  have O1 := owns_fr F1 hO (fun g hg h0 => hne (by rw [hg, h0]))
  have c1 := N1.cell 1
  have s1 := F1.size
  have hlt := hN.lt
  obtain ⟨i0, hi, hz0, hz1, hz2⟩ := info_parts (show (Try.prog.info? 5).map (fun i => (i.zero, i.size, i.bytes)) = some (some (.int .u8 0), 1, 1) by kernel_rfl)
  go_wp2_with (at_builtin; refine Lib.wpList_append_own_string _ rfl _ _ 45 9 rfl b 5 i0 Try.underlying45 Try.underlying9 hi hz0 hz1 hz2 _ _ _ rfl O1 s rfl ?c3 ?c4 ?c5 ?_)
  case c3 => unfold maxLen; omega
  case c4 => omega
  case c5 => omega
  intro v' w2 O2 hgrow _
  have F2 := Fr.grown hgrow
  have N2 := N1.fr F2 hne
  have d1 := N2.cell 1
  have f1 := N2.frozen 1
  obtain ⟨ao, n', cap, rfl⟩ : ∃ ao n' cap, v' = .slice ao n' cap := by
    rcases O2.2 with ⟨hv, _⟩ | ⟨g, cap, cur, hv, _⟩
    · exact ⟨_, _, _, hv⟩
    · exact ⟨_, _, _, hv⟩
  have hno := N2.not_own O2 (by decide)
  go_wp2_with fail
  go_ret2
  have F3 : Fr w2 (w2.setCell ⟨b, 1, none⟩ (.slice ao n' cap)) (fun k => k = b) := Fr.setCell _ _ _ _
  refine ⟨_, rfl, ⟨N2.set 1 _, ?_, ?_, .inr rfl⟩, ?_⟩
  · rw [← strCells_append, ByteArray.size_append]
    exact owns_fr F3 O2 (fun g hg h0 => hno (by rw [hg, h0]))
  · exact hno
  · exact (F1.mono (fun k h => .inl h)).trans ((F2.mono (fun k h => .inr h)).trans (F3.mono (fun k h => .inl h)))
end Go.Proofs.Ytmncjknfkkedmaa.Lx
