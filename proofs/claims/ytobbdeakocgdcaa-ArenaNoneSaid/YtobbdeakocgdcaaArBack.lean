/- Chapter 07: slices.Backward (54) and its iterator (60). -/
import Derived.Test.YtobbdeakocgdcaaArLib
import Derived.RangeFuncNested
import Derived.RangeFuncBound
import Derived.RangeFuncCalls
import Derived.RangeFuncLeaves
import Derived.Shelf.Abstract
import Derived.Shelf.RegionOpen
import Derived.WalkKit
import Derived.OwnWalkIn
import Derived.TacticsInMore
import Derived.LoopNIn
import Derived.LoopIn
namespace Go.Proofs.Ytobbdeakocgdcaa.Ar
open Go.RowKit Go.Proofs.Ytobbdeakocgdcaa.Bw Go.Shelf
attribute [local go_sem] Oper.semAt_some

theorem backward_any (v : Value) (hv : ∃ A n c, v = .slice A n c) (w : World) :
    Calls Try.prog 54 #[v] w fun e w' => e = .returned (.func (.func 60) #[] #[.pointer (some ⟨w.heap.size, 0, none⟩)]) ∧ w' = w.alloc (.cells #[v] 33) := by
  obtain ⟨A, n, c, rfl⟩ := hv
  go_enter Try.func54, Try.ntmps54
  go_wp2_with fail
  go_ret
  exact ⟨rfl, rfl⟩
/-- Memory below n₀ stays, and the iterator's box. -/
def KeepB (n₀ Bk : Nat) (v : Value) (W W' : World) : Prop := Below n₀ W W' ∧ (NBox W Bk 33 #[v] → NBox W' Bk 33 #[v])
theorem KeepB.refl (n₀ Bk : Nat) (v : Value) (W : World) : KeepB n₀ Bk v W W := ⟨Below.refl _ _, id⟩
theorem KeepB.trans {n₀ Bk : Nat} {v : Value} {A B C : World} (h : KeepB n₀ Bk v A B) (k : KeepB n₀ Bk v B C) : KeepB n₀ Bk v A C := ⟨h.1.trans k.1, fun x => k.2 (h.2 x)⟩
theorem room_none {F : Fence} (hd : F.depth = none) (k : Nat) : F.room k := fun d h => by rw [hd] at h; cases h
theorem RoundIn.any {F : Fence} (hd : F.depth = none) {m m' : Nat} {P : Program} {l : Nat} {f : FuncId} {tmps : Array Value} {assign body : Code} {w : World} {R : Ending → World → Prop}
    (h : RoundIn F m P l f tmps assign body w R) : RoundIn F m' P l f tmps assign body w R := ⟨h.1, fun c cs _ => h.2 c cs (room_none hd _)⟩
theorem YieldAt.any {F : Fence} (hd : F.depth = none) {m : Nat} (m' : Nat) {P : Program} {l : Nat} {args : Array Value} {W : World} {R : Ending → World → Prop} (h : YieldAt F m P l args W R) : YieldAt F m' P l args W R := by
  obtain ⟨fn, tmps, assign, body, hy, hR⟩ := h
  exact ⟨fn, tmps, assign, body, hy, RoundIn.any hd hR⟩

set_option maxRecDepth 100000 in
set_option maxHeartbeats 2000000 in
theorem back_stops (n : Nat) (w₀ : World) (n₀ : Nat) (ks : List Nat) (kv : Value) (Bk : Nat) (w : World) (hn₀ : n₀ ≤ w.heap.size) (hr : ∀ W, Below n₀ w₀ W → RdS W 1 ks.length (ints ks) kv) (hE : Below n₀ w₀ w) (hB : NBox w Bk 33 #[kv]) (hlen : ks.length ≤ 1000000) :
    SeqStopsK Fence.wide n Try.prog 60 #[.pointer (some ⟨Bk, 0, none⟩)] (fun x : Nat × Nat => #[.int .i64 (x.1 : Int), .int .i64 (x.2 : Int)]) (KeepB n₀ Bk kv) (fun xs => xs.map (·.2) = ks.reverse) (fun _ => True) ks.length w := by
  intro l J Jx W hW hJ hJx hY h0
  have hEW : Below n₀ w₀ W := hE.trans (hW.mono hn₀)
  have hBW : NBox W Bk 33 #[kv] := (hW.block Bk hB.lt).trans hB
  obtain ⟨kA, kc, hkv, -, k1, k2, -⟩ := hr W hEW
  subst hkv
  have c0 : W.cell? ⟨Bk, 0, none⟩ = some (.slice kA ks.length kc) := by rw [hBW.cell]; rfl
  refine callsIn_of_wp Try.func60 rfl trivial ?_ rfl
  simp only [Try.ntmps60, List.size_toArray, List.length_cons, List.length_nil, Nat.reduceAdd, Nat.reduceSub, Array.replicate_succ, Array.replicate_zero, List.push_toArray, List.append_toArray, List.nil_append, List.cons_append]
  gi_wp2
  gi_loopw [3] (fun s3 wr => ∃ (j : Nat) (ys : List (Nat × Nat)), s3 = .int .i64 ((j : Int) - 1) ∧ j ≤ ks.length ∧ Hid (ys.map (·.2) = (ks.drop j).reverse) ∧ J ys wr ∧ Hid (KeepB n₀ Bk (.slice kA ks.length kc) W wr)) (fun s3 _ => (intOf s3 + 1).toNat)
  case atStart => exact ⟨ks.length, [], by go_num, Nat.le_refl _, Lib.hid (by simp), h0, Lib.hid (KeepB.refl _ _ _ _)⟩
  case round =>
    obtain ⟨j, ys, rfl, hj, HY, hj2, HK⟩ := hrel
    have c0' : wr.cell? ⟨Bk, 0, none⟩ = some (.slice kA ks.length kc) := by rw [(HK.out.2 hBW).cell]; rfl
    rcases Nat.eq_zero_or_pos j with h1 | h1
    · subst h1
      gi_wp2
      go_end0
      exact ⟨⟨_, rfl⟩, .inl ⟨ys, by rw [List.drop_zero] at HY; exact HY.out, hj2⟩⟩
    · obtain ⟨i, rfl⟩ : ∃ i, j = i + 1 := ⟨j - 1, by omega⟩
      obtain ⟨k, hk⟩ : ∃ k, ks[i]? = some k := ⟨_, List.getElem?_eq_getElem (by omega)⟩
      have hRW := hr wr (hEW.trans HK.out.1)
      obtain ⟨_, _, he, _, _, _, h4⟩ := hRW
      cases he
      obtain ⟨b, off, rfl, h5⟩ := h4 (by omega)
      have ck : wr.cell? ⟨b, off + i, none⟩ = some (.int .i64 (k : Int)) := h5 i _ (ints_at hk)
      obtain ⟨fn, tmps, assign, body, hy, hR⟩ := YieldAt.any (m := n - 1) rfl (n - 1) (hY ys (i, k) wr hj2 (by
        have := congrArg List.length HY.out
        simp at this; omega))
      clear h5 h4
      have hdd : ∀ k : Nat, (Fence.wide.depth.isSome = true → 1 ≤ k) := fun k h => by cases h
      gi_wp2
      refine ⟨hdd _, hR.mono ?_⟩
      clear hR hy
      have hd2 : ks.drop i = k :: ks.drop (i + 1) := drop_at hk
      rintro e W2 (⟨rfl, hj3, hb3⟩ | ⟨rfl, hx3⟩)
      · have HY2 := Lib.hid (show (ys ++ [(i, k)]).map (·.2) = (ks.drop i).reverse by rw [List.map_append, HY.out, hd2, List.reverse_cons]; rfl)
        have HK2 := Lib.hid (HK.out.trans hb3)
        clear hd2 HY HK
        gi_wp2
        go_roundw
        case rel => exact ⟨i, ys ++ [(i, k)], by go_num, by omega, HY2, hj3, HK2⟩
        case measure => simp [intOf]
      · gi_wp2
        exact bodyPost_ret (results_none rfl _ _ _) rfl ⟨⟨_, rfl⟩, .inr ⟨_, trivial, hx3⟩⟩
end Go.Proofs.Ytobbdeakocgdcaa.Ar
