/- Chapter 05: the edits of a few bytes; what make makes. -/
import Derived.Test.YtmncjknfkkedmaaLxWorks
import Derived.Test.YtmncjknfkkedmaaLxView
namespace Go.Proofs.Ytmncjknfkkedmaa.Lx
open Go.RowKit Go.Proofs.Ytmncjknfkkedmaa.Bw Go.Proofs.Ytmncjknfkkedmaa.Bs

def allocsP (w : World) : List (List Pc) → World
  | [] => w
  | l :: r => allocsP (w.alloc (.cells (pcVals l).toArray 29)) r
theorem allocsP_ext : ∀ (L : List (List Pc)) (w : World), Ext w (allocsP w L)
  | [], w => Ext.refl w
  | l :: r, w => ((Ext.refl w).alloc _).trans (allocsP_ext r _)
theorem allocsP_size : ∀ (L : List (List Pc)) (w : World), (allocsP w L).heap.size = w.heap.size + L.length
  | [], w => rfl
  | l :: r, w => by
    show (allocsP (w.alloc _) r).heap.size = w.heap.size + (r.length + 1)
    rw [allocsP_size r, World.size_alloc]
    omega
def slV (b : Nat) : List (List Pc) → List Value
  | [] => []
  | l :: r => .slice (some ⟨b, 0, none⟩) l.length l.length :: slV (b + 1) r
theorem slV_rd : ∀ (L : List (List Pc)) (w : World), (∀ l ∈ L, l.length ≤ maxLen ∧ ∀ p ∈ l, okStr p.put) → ∀ u ∈ slV w.heap.size L, ∃ l, RdP (allocsP w L) l u
  | [], _, _, _, h => absurd h List.not_mem_nil
  | l :: r, w, hL, u, h => by
    rcases List.mem_cons.1 h with rfl | h
    · exact ⟨l, (rdp_lit w l (hL l List.mem_cons_self).1 (hL l List.mem_cons_self).2).ext (allocsP_ext r _)⟩
    · have hs : (w.alloc (.cells (pcVals l).toArray 29)).heap.size = w.heap.size + 1 := World.size_alloc _ _
      have := slV_rd r (w.alloc (.cells (pcVals l).toArray 29)) (fun m hm => hL m (List.mem_cons_of_mem _ hm)) u (by rw [hs]; exact h)
      exact this
theorem slV_len (b : Nat) (L : List (List Pc)) : (slV b L).length = L.length := by
  induction L generalizing b with
  | nil => rfl
  | cons l r ih => exact congrArg (· + 1) (ih (b + 1))
def FEW : List (List Pc) := [[⟨2, 0, ⟨#[88]⟩⟩], [⟨2, 0, ⟨#[89]⟩⟩], [⟨0, 3, ⟨#[]⟩⟩], [⟨1, 1, ⟨#[89]⟩⟩], [⟨0, 0, ⟨#[65, 66]⟩⟩, ⟨0, 1, ⟨#[67]⟩⟩], [⟨1, 0, ⟨#[]⟩⟩, ⟨2, 0, ⟨#[]⟩⟩, ⟨0, 1, ⟨#[113]⟩⟩], [⟨1, 2, ⟨#[]⟩⟩, ⟨1, 0, ⟨#[122, 122]⟩⟩], [⟨4, 0, ⟨#[]⟩⟩], [⟨4, 0, ⟨#[101]⟩⟩], [⟨0, 4, ⟨#[97, 108, 108]⟩⟩], [⟨0, 1, ⟨#[]⟩⟩, ⟨0, 0, ⟨#[109]⟩⟩, ⟨0, 1, ⟨#[]⟩⟩], [⟨5, 0, ⟨#[]⟩⟩], [⟨0, 5, ⟨#[]⟩⟩], [⟨-1, 0, ⟨#[]⟩⟩], [⟨0, -1, ⟨#[]⟩⟩], [⟨1048577, 0, ⟨#[]⟩⟩], [⟨0, 1048576, ⟨#[]⟩⟩], [⟨1, 0, ⟨#[49]⟩⟩, ⟨1, 0, ⟨#[50]⟩⟩, ⟨1, 0, ⟨#[51]⟩⟩]]
theorem few_ok : ∀ l ∈ FEW, l.length ≤ maxLen ∧ ∀ p ∈ l, okStr p.put := by
  unfold okStr maxLen FEW
  decide
set_option maxRecDepth 100000 in
set_option maxHeartbeats 1600000 in
theorem few_any (w : World) : Calls Try.prog 26 #[] w fun e w' => ∃ A us, e = .returned (.slice A 19 19) ∧ RdS w' 1 19 us (.slice A 19 19) ∧ Hid (∀ u ∈ us, ∃ l, RdP w' l u) ∧ Ext w w' := by
  go_enter Try.func26, Try.ntmps26
  go_wp2_with fail
  have hs := allocsP_size FEW w
  have hs2 : w.heap.size + 1 + 1 + 1 + 1 + 1 + 1 + 1 + 1 + 1 + 1 + 1 + 1 + 1 + 1 + 1 + 1 + 1 + 1 = (allocsP w FEW).heap.size := hs.symm
  go_ret
  have hE : Ext w (allocsP w FEW) := allocsP_ext FEW w
  have hu : ∀ u ∈ Value.slice none 0 0 :: slV w.heap.size FEW, ∃ l, RdP ((allocsP w FEW).alloc (.cells (Value.slice none 0 0 :: slV w.heap.size FEW).toArray 22)) l u := by
    intro u hu
    rcases List.mem_cons.1 hu with rfl | hu
    · exact ⟨[], RdP.nil _⟩
    · obtain ⟨l, hl⟩ := slV_rd FEW w few_ok u hu
      exact ⟨l, hl.ext ((Ext.refl _).alloc _)⟩
  have hr : RdS ((allocsP w FEW).alloc (.cells (Value.slice none 0 0 :: slV w.heap.size FEW).toArray 22)) 1 19 (Value.slice none 0 0 :: slV w.heap.size FEW) (.slice (some ⟨(allocsP w FEW).heap.size, 0, none⟩) 19 19) := by
    refine ⟨_, 19, rfl, rfl, Nat.le_refl _, by simp [maxLen], fun _ => ⟨_, 0, rfl, fun j u hj => ?_⟩⟩
    rw [Nat.zero_add, (NBox.new (allocsP w FEW) 22 _).cell]
    simpa using hj
  rw [← hs2] at hr
  exact ⟨_, _, rfl, hr, Lib.hid hu, hE.alloc _⟩

/-! ### What make makes -/
theorem make_bytes (W : World) : (Instr.makeSlice 45 (.int .i64 1048576) (.int .i64 1048576)).run Try.prog W = .ok (.slice (some ⟨W.heap.size, 0, none⟩) 1048576 1048576) (W.alloc (.cells (madeCells #[.int .u8 0] 1048576) 5)) :=
  run_make_row' (P := Try.prog) 45 5 (.int .u8 0) 1 Try.underlying45 (by kernel_rfl) rfl .i64 .i64 1048576 (by omega) (by omega) W
theorem made_string_n (W : World) (n : Nat) : ∃ s : ByteArray, s.size = n ∧ (convert 45 9 (.slice (some ⟨W.heap.size, 0, none⟩) n n)).run Try.prog (W.alloc (.cells (madeCells #[.int .u8 0] n) 5)) = .ok (.string s) (W.alloc (.cells (madeCells #[.int .u8 0] n) 5)) := by
  refine ⟨⟨(List.replicate n 0).toArray⟩, by simp [ByteArray.size], ?_⟩
  have h := run_convert_bytes_back (P := Try.prog) (W.alloc (.cells (madeCells #[.int .u8 0] n) 5)) 45 9 5 ⟨W.heap.size, 0, none⟩ n (List.replicate n 0) Try.underlying45 Try.underlying5 Try.underlying9 (fun j hj => by
    have hb := World.alloc_heap_new W (.cells (madeCells #[.int .u8 0] n) 5)
    simp only [List.length_replicate] at hj
    rw [Addr.add_lit, Nat.zero_add]
    simp only [World.cell?, hb]
    simp [madeCells, hj, Nat.mod_one])
  rw [List.length_replicate] at h
  exact h
/-- A great text: what make and the conversion make of it. -/
theorem big_string : ∃ O : Obj, (∀ W : World, (Instr.makeSlice 45 (.int .i64 1048576) (.int .i64 1048576)).run Try.prog W = .ok (.slice (some ⟨W.heap.size, 0, none⟩) 1048576 1048576) (W.alloc O)) ∧
    ∀ W : World, ∃ s : ByteArray, s.size = 1048576 ∧ (convert 45 9 (.slice (some ⟨W.heap.size, 0, none⟩) 1048576 1048576)).run Try.prog (W.alloc O) = .ok (.string s) (W.alloc O) :=
  ⟨_, make_bytes, fun W => made_string_n W 1048576⟩
theorem made_pcs (n : Nat) (i : Nat) (x : Value) (h : (pcVals (List.replicate n ⟨0, 0, ⟨#[]⟩⟩))[i]? = some x) : (madeCells #[.int .i64 0, .int .i64 0, .string ⟨#[]⟩] (n * 3))[i]? = some x := by
  have hl : i < n * 3 := by
    have := (List.getElem?_eq_some_iff.1 h).1
    rwa [pcVals_len, List.length_replicate] at this
  have e : ∀ (n i : Nat), i < n * 3 → (pcVals (List.replicate n ⟨0, 0, ⟨#[]⟩⟩))[i]? = (#[.int .i64 0, .int .i64 0, .string ⟨#[]⟩] : Array Value)[i % 3]? := by
    intro n
    induction n with
    | zero => intro i hi; omega
    | succ n ih =>
      intro i hi
      have e1 : pcVals (List.replicate (n + 1) ⟨0, 0, ⟨#[]⟩⟩) = [.int .i64 0, .int .i64 0, .string ⟨#[]⟩] ++ pcVals (List.replicate n ⟨0, 0, ⟨#[]⟩⟩) := rfl
      rw [e1]
      rcases Nat.lt_or_ge i 3 with h3 | h3
      · rw [List.getElem?_append_left (by simpa using h3), Nat.mod_eq_of_lt h3]
        simp
      · rw [List.getElem?_append_right (by simpa using h3)]
        show (pcVals _)[i - 3]? = _
        rw [ih (i - 3) (by omega)]
        congr 1
        omega
  rw [e n i hl] at h
  have hm : i % 3 < 3 := Nat.mod_lt _ (by decide)
  simp only [madeCells, Array.getElem?_map]
  rw [Array.getElem?_range, if_pos hl]
  simp only [Option.map_some]
  rw [← h]
  show some ((#[_, _, _] : Array Value)[i % 3]!) = _
  rw [getElem!_pos _ _ (by simpa using hm)]
  rw [Array.getElem?_eq_getElem (by simpa using hm)]
theorem rd_made (W : World) (n : Nat) (hn : n ≤ maxLen) : RdP (W.alloc (.cells (madeCells #[.int .i64 0, .int .i64 0, .string ⟨#[]⟩] (n * 3)) 29)) (List.replicate n ⟨0, 0, ⟨#[]⟩⟩) (.slice (some ⟨W.heap.size, 0, none⟩) n n) := by
  have hl : (List.replicate n (⟨0, 0, ⟨#[]⟩⟩ : Pc)).length = n := List.length_replicate
  refine ⟨_, n, by rw [hl], by rw [hl]; exact Nat.le_refl _, hn, fun _ => ⟨W.heap.size, 0, rfl, rdPcs_of_vals (fun i x hx => ?_) (fun p hp => ?_)⟩⟩
  · rw [(NBox.new W 29 _).cell, Nat.zero_add]
    exact made_pcs n i x hx
  · rw [(List.mem_replicate.1 hp).2]
    exact Nat.zero_le _
/-- So many empty pieces. -/
theorem big_pieces (n : Nat) (hn : n ≤ 100000) : ∃ O : Obj, (∀ W : World, (Instr.makeSlice 22 (.int .i64 (n : Int)) (.int .i64 (n : Int))).run Try.prog W = .ok (.slice (some ⟨W.heap.size, 0, none⟩) n n) (W.alloc O)) ∧ ∀ W : World, ∃ l, RdP (W.alloc O) l (.slice (some ⟨W.heap.size, 0, none⟩) n n) := by
  obtain ⟨i, hi, h1, h2, h3⟩ := info_parts (show (Try.prog.info? 29).map (fun i => (i.zero, i.size, i.bytes)) = some (some (.agg #[.int .i64 0, .int .i64 0, .string ⟨#[]⟩]), 3, 32) by kernel_rfl)
  refine ⟨_, fun W => ?_, fun W => ⟨_, rd_made W n (by unfold maxLen; omega)⟩⟩
  have h := run_make (P := Try.prog) W 22 29 i _ Try.underlying22 hi h1 .i64 .i64 n n (by omega) (Int.le_refl _) (by rw [h3]; omega) (by omega)
  rw [h2] at h
  simp only [Int.toNat_natCast] at h
  exact h
end Go.Proofs.Ytmncjknfkkedmaa.Lx
namespace Go.Proofs.Ytmncjknfkkedmaa.Lx
open Go.RowKit Go.Proofs.Ytmncjknfkkedmaa.Bw Go.Proofs.Ytmncjknfkkedmaa.Bs

set_option maxRecDepth 100000 in
set_option maxHeartbeats 2000000 in
theorem lawRight (l : List Pc) (v : Value) (w : World) (h : RdP w l v) : Calls Try.prog 3 #[v] w (Ret w fun r _ => r = .bool true) := by
  have hc := right_any l v w h
  obtain ⟨A, c, rfl, a1, a2, _⟩ := id h
  unfold maxLen at a2
  rcases Nat.lt_or_ge 5000 l.length with hl | hl
  · have t1 : decide ((5000 : Int) < (l.length : Int)) = true := decide_eq_true (by omega)
    have hk := works_any w
    clear hc
    go_enter Try.func3, Try.ntmps3
    go_wp2_with fail
    refine hk.mono ?_
    clear hk
    rintro e w1 ⟨_, rfl, rfl, E1⟩
    go_wp2_with fail
    go_ret
    exact ⟨_, rfl, rfl, E1⟩
  · have t1 : decide ((5000 : Int) < (l.length : Int)) = false := decide_eq_false (by omega)
    go_enter Try.func3, Try.ntmps3
    go_wp2_with fail
    refine hc.mono ?_
    clear hc
    rintro e w1 ⟨_, rfl, rfl, E1⟩
    have hc := rightR_any l _ w1 (h.ext E1)
    go_wp2_with fail
    refine hc.mono ?_
    clear hc
    rintro e w2 ⟨_, rfl, rfl, hE⟩
    have E2 := E1.trans hE
    have hk := works_any w2
    have t2 : (pcsRight l == pcsRight l) = true := by simp
    go_wp2_with fail
    refine hk.mono ?_
    clear hk
    rintro e w3 ⟨_, rfl, rfl, hE3⟩
    go_wp2_with fail
    go_ret
    exact ⟨_, rfl, rfl, E2.trans hE3⟩
end Go.Proofs.Ytmncjknfkkedmaa.Lx
