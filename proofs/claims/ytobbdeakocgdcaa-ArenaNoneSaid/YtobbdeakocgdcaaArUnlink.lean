/- Chapter 07: a slot is no child any more (46). -/
import Derived.Test.YtobbdeakocgdcaaArSet
namespace Go.Proofs.Ytobbdeakocgdcaa.Ar
open Go.RowKit Go.Proofs.Ytobbdeakocgdcaa.Bw

section
variable {w : World} {ρ : Nat → Tg} {base A : Nat} {S : St} {sv fv : Value} {bs : List Nat}
/-- The children of a slot are others, their row is written. -/
theorem AP.kidsPut (h : AP w ρ base A S sv fv bs) {w1 : World} {n b : Nat} {cs : Array Value} {av kv kv' : Value} {ks : List Nat} (hn : n < S.sl.length) (k : Fr w w1 (fun k => kv.ownBlock = some k)) (hb : bs[n / 16]? = some b) (hc : NBox w b 86 cs) (hsz : cs.size = 128)
    (hl : Lies (fun i => cs[i]?) (n % 16 * 8) (slCells (S.get n) av kv)) (hs : SlotIn w ρ base n (S.get n) av kv) (hO : w1.ownsRow base 3 1 kv' ks.length (ints ks)) (hv : kv'.ownBlock = kv.ownBlock ∨ ∃ g, kv'.ownBlock = some g ∧ w.heap.size ≤ g) (hk : ks.length ≤ 1000000) :
    ∃ ρ', AP (w1.setCells b (n % 16 * 8 + 7) [kv']) ρ' base A (S.setKids n ks) sv fv bs ∧ Step w ρ (w1.setCells b (n % 16 * 8 + 7) [kv']) ρ' := by
  have hlt : ∀ g, kv'.ownBlock = some g → g < w1.heap.size := fun g hg => (hO.lt g hg).2
  have hkt : Fr w w1 (fun k => ρ k = .kids n) := k.mono (fun g _ hg => hs.kvt g hg)
  refine ⟨tagNew ρ w.heap.size kv'.ownBlock (.kids n), ?_, h.put_step hkt hb _ (fun g hg => tagNew_old hg)⟩
  have hF : Fr w w1 (fun k => ρ k = .kids n ∨ ρ k = .no) := hkt.mono (fun _ _ h => .inl h)
  refine h.put (s' := { S.get n with kids := ks }) (av' := av) (kv' := kv') hn hF (fun g hg => tagNew_old hg) (tagNew_lt k.size hlt) hb hc hsz hl (by simp) ?_ (by simp [slCells]) hk
  refine ⟨hs.da.fr hkt (fun g hg he e => by rw [hs.avt g hg he] at e; cases e), fun g hg he => ?_, hO, fun g hg => ?_⟩
  · obtain ⟨P, c, rfl, _, _, _, h4⟩ := hs.da.ats
    obtain ⟨b', off, rfl, h5⟩ := h4 (List.length_pos_iff.2 he)
    obtain rfl : b' = g := Option.some.inj hg
    obtain ⟨u, hu⟩ : ∃ u, (attrCells (S.get n).da.attrs)[0]? = some u := ⟨_, List.getElem?_eq_getElem (by rw [attrCells_len]; have : 0 < (S.get n).attrs.length := List.length_pos_iff.2 he; show 0 < (S.get n).attrs.length * 2; omega)⟩
    rw [tagNew_old (World.block_lt_of_cell? w _ (h5 0 u hu))]
    exact hs.avt b' rfl he
  · rcases hv with h1 | ⟨g', h1, h2⟩
    · rw [h1] at hg
      rw [tagNew_old (hs.ks.lt g hg).2]
      exact hs.kvt g hg
    · rw [h1] at hg
      have := Option.some.inj hg
      exact tagNew_new (by omega) (by rw [h1, this])

set_option maxRecDepth 100000 in
set_option maxHeartbeats 4000000 in
theorem unlink_any (h : AP w ρ base A S sv fv bs) (n p : Nat) (hn : n < S.sl.length) (hp : p < S.sl.length) (hpar : (S.get n).parent = (p : Int)) (hm : n ∈ (S.get p).kids) (hbig : bs.length ≤ 1000000) :
    Calls Try.prog 46 #[.pointer (some ⟨A, 0, none⟩), .int .i64 (n : Int)] w fun e w' => e = .returned (.int .i64 ((S.get p).kids.idxOf n : Nat)) ∧ ∃ ρ', AP w' ρ' base A (S.setKids p ((S.get p).kids.erase n)) sv fv bs ∧ Step w ρ w' ρ' := by
  have hn16 : n < 16 * bs.length := Nat.lt_of_lt_of_le hn h.room
  have hp16 : p < 16 * bs.length := Nat.lt_of_lt_of_le hp h.room
  have hc1 := at_any h n hn16 hbig
  have hc2 := at_any h p hp16 hbig
  obtain ⟨b1, cs1, av1, kv1, f1, f2, f3, f4, f5, f6⟩ := h.slot hn16
  obtain ⟨b, cs, av, kv, g1, g2, g3, g4, g5, g6⟩ := h.slot hp16
  have hs1 : slotAt bs n = ⟨b1, n % 16 * 8, none⟩ := by rw [slotAt, f2]
  have hs2 : slotAt bs p = ⟨b, p % 16 * 8, none⟩ := by rw [slotAt, g2]
  rw [hs1] at hc1
  rw [hs2] at hc2
  have c6 : w.cell? ⟨b1, n % 16 * 8 + 6, none⟩ = some (.int .i64 (p : Int)) := by rw [f3.cell, ← hpar]; exact f5 6 _ rfl
  have hkl := h.big.2.2 p
  have hix := index_any kv (S.get p).kids base n w g6.ks hm (by omega)
  have hil : (S.get p).kids.idxOf n < (S.get p).kids.length := List.idxOf_lt_length_of_mem hm
  have hdel := delete_any kv (S.get p).kids base _ w g6.ks hil
  have her : (S.get p).kids.erase n = (S.get p).kids.eraseIdx ((S.get p).kids.idxOf n) := List.erase_eq_eraseIdx_of_idxOf rfl
  have HP := Lib.hid (show ∀ (w1 : World) (kv' : Value), w1.ownsRow base 3 1 kv' ((S.get p).kids.eraseIdx ((S.get p).kids.idxOf n)).length (ints ((S.get p).kids.eraseIdx ((S.get p).kids.idxOf n))) → Fr w w1 (fun k => kv.ownBlock = some k) → kv'.ownBlock = kv.ownBlock →
      ∃ ρ', AP (w1.setCells b (p % 16 * 8 + 7) [kv']) ρ' base A (S.setKids p ((S.get p).kids.erase n)) sv fv bs ∧ Step w ρ (w1.setCells b (p % 16 * 8 + 7) [kv']) ρ' from by
    intro w1 kv' hO hF hv
    rw [her]
    exact h.kidsPut hp hF g1 g3 g4 g5 g6 hO (.inl hv) (by rw [List.length_eraseIdx]; split <;> omega))
  have hbt : ρ b = .slab := by obtain ⟨_, _, _, h3, _⟩ := h.slab _ b g1; exact h3
  have c7 : w.cell? ⟨b, p % 16 * 8 + 7, none⟩ = some kv := by rw [g3.cell]; exact g5 7 _ rfl
  have FC := Lib.hid (show ∀ w1 : World, Fr w w1 (fun k => kv.ownBlock = some k) → w1.cell? ⟨b, p % 16 * 8 + 7, none⟩ = some kv ∧ w1.frozen? ⟨b, p % 16 * 8 + 7, none⟩ = false from by
    intro w1 hF
    have g9 := g3.fr hF (fun e => by have := g6.kvt b e; rw [hbt] at this; cases this)
    exact ⟨by rw [g9.cell]; exact g5 7 _ rfl, g9.frozen _⟩)
  obtain ⟨kA, kc, rfl, hk1, hk2⟩ := owns_slice g6.ks
  clear h f1 f2 f3 f4 f5 f6 g1 g2 g3 g4 g5 g6 hs1 hs2 her hm hpar
  generalize S.get p = s at *
  generalize hix0 : s.kids.idxOf n = ix at *
  have hixb : (ix : Int) ≤ 1000000 := by omega
  clear hix0
  go_enter Try.func46, Try.ntmps46
  go_wp2_with (first
    | (go_at_call 29; first | (refine hc1.mono ?_; clear hc1; rintro e w1 ⟨rfl, rfl⟩) | (refine hc2.mono ?_; clear hc2; rintro e w1 ⟨rfl, rfl⟩))
    | (go_at_call 58; refine hix.mono ?_; clear hix; rintro e w1 ⟨rfl, rfl⟩)
    | (go_at_call 59; refine hdel.mono ?_; clear hdel c7; rintro e w3 ⟨v, rfl, hO, F3, hv⟩; obtain ⟨A2, c9, rfl, -, -⟩ := owns_slice hO
       obtain ⟨c7, ff⟩ := FC.out w3 F3))
  go_ret
  exact ⟨rfl, HP.out _ _ hO F3 hv⟩
end
end Go.Proofs.Ytobbdeakocgdcaa.Ar
