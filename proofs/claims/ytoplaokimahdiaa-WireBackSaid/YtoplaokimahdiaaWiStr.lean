/- Chapter 17: append of a string's bytes onto a row of the call's own, and which block has them then; text, walked. -/
import Derived.Test.YtoplaokimahdiaaWiNum
import Derived.Lib.AppendStr
namespace Go.Proofs.Ytoplaokimahdiaa.Wi
open Go.RowKit Go.Proofs.Ytoplaokimahdiaa.Bw Go.Proofs.Ytoplaokimahdiaa.Bs

section
variable {P : Program} {w : World}
theorem run_append_str_at (base : Nat) (t u ty e : TypeId) (i : TypeInfo) (ht : P.underlying t = some (.slice e)) (hu : P.underlying u = some .string) (hi : P.info? e = some i) (hz : i.zero = some (.int .u8 0)) (hsize : i.size = 1) (hby : i.bytes = 1)
    (v : Value) (n : Nat) (xs : List Value) (hown : w.ownsRow base e 1 v n xs) (s : ByteArray) (hb : n + s.size ≤ 140737488355328) (hbase : base ≤ w.heap.size) :
    ∃ v' w', (Builtin.append_ #[t, u] ty #[v, .string s]).run P w = .ok v' w' ∧ w'.ownsRow base e 1 v' (n + s.size) (xs ++ Lib.strCells s) ∧ w.grownBy w' v.ownBlock ∧ ∀ k, v'.ownBlock = some k → v.ownBlock = some k ∨ w.heap.size ≤ k := by
  have h63 : n + s.size ≤ maxLen := by unfold maxLen; omega
  obtain ⟨v', w', hr, h2, h3, _⟩ := Lib.run_append_own_string (P := P) w base t u ty e i ht hu hi hz hsize hby v n xs hown s h63 hb hbase
  refine ⟨v', w', hr, h2, h3, fun k hk => ?_⟩
  have hxl : xs.length = n := by simpa using hown.1
  rcases hown.2 with ⟨rfl, rfl⟩ | ⟨g, cap, cur, rfl, hbg, hg, hnc, hcm, hcs, htake⟩
  · have hown2 : w.ownsRow w.heap.size e 1 (.slice none 0 0) 0 xs := ⟨hown.1, .inl ⟨rfl, rfl⟩⟩
    obtain ⟨v2, w2, hr2, k2, _, _⟩ := Lib.run_append_own_string (P := P) w w.heap.size t u ty e i ht hu hi hz hsize hby _ 0 xs hown2 s h63 hb (Nat.le_refl _)
    rw [hr] at hr2
    cases hr2
    exact .inr (owns_base k2 k hk)
  · by_cases hroom : n + s.size ≤ cap
    · have hcs' : cur.size = cap := by simpa using hcs
      have hr2 := Lib.run_append_room_string (P := P) w t u ty e i ht hu hi hsize g n cap cur hg s hroom (by omega)
      rw [hr] at hr2
      cases hr2
      exact .inl hk
    · have holds : ∀ j u, xs[j]? = some u → w.cell? ((⟨g, 0, none⟩ : Addr).add j) = some u := hown.cells (g := g) rfl
      have hr2 := Lib.run_append_grow_string (P := P) w t u ty e i (.int .u8 0) ht hu hi hz ⟨g, 0, none⟩ n cap xs (by rw [hsize]; simpa using hxl) holds s (by omega) (by omega) (by rw [hby]; exact growslice_fits (by omega) (by omega))
      rw [hr] at hr2
      cases hr2
      have : w.heap.size = k := by simpa [Value.ownBlock] using hk
      exact .inr (by omega)
theorem wpList_append_str {ops : Array Oper} {rest : List Oper} {o : Oper} {a : Act} {Q : Exit → Act → World → Prop} (hgd : o.guard = none) {sl x : Operand} {t u : TypeId}
    (ho : o.op = .call { callee := .builtin .append, args := #[sl, x], argTypes := #[t, u] }) {e : TypeId} {i : TypeInfo} (ht : P.underlying t = some (.slice e)) (hu : P.underlying u = some .string) (hi : P.info? e = some i) (hz : i.zero = some (.int .u8 0)) (hsize : i.size = 1) (hby : i.bytes = 1)
    {base : Nat} {v : Value} {n : Nat} {xs : List Value} (hs : a.eval sl = v) (hown : w.ownsRow base e 1 v n xs) {s : ByteArray} (hx : a.eval x = .string s) (hb : n + s.size ≤ 140737488355328) (hbase : base ≤ w.heap.size)
    (h : ∀ v' w', w'.ownsRow base e 1 v' (n + s.size) (xs ++ Lib.strCells s) → w.grownBy w' v.ownBlock → (∀ k, v'.ownBlock = some k → v.ownBlock = some k ∨ w.heap.size ≤ k) → wpList P ops Q rest (a.put o.dst v') w') : wpList P ops Q (o :: rest) a w := by
  refine wpList_plain hgd fun K hK => ?_
  obtain ⟨v', w', hr, h2, h3, h4⟩ := run_append_str_at (P := P) base t u o.type e i ht hu hi hz hsize hby v n xs hown s hb hbase
  unfold Oper.wp execOp
  simp only [ho, resolve, invoke, builtin, Sem.run_bind, Sem.run_pure, Result.andThen_ok, List.map_toArray, List.map_cons, List.map_nil, hs, hx, hr]
  exact hK _ _ (h v' w' h2 h3 h4)
end
set_option maxRecDepth 100000 in
set_option maxHeartbeats 1000000 in
theorem text_any (s : ByteArray) (most : Nat) (hm : most ≤ 1048576) (hs : s.size ≤ maxLen) (w0 w : World) (B : Nat) (v : Value) (bs : List UInt8) (h : St w0 w B v bs) (hl : bs.length ≤ 100000000000000) : Calls Try.prog 70 #[.pointer (some ⟨B, 0, none⟩), .string s, .int .i64 (most : Int)] w (PutC w0 w B v bs none_ (textE s most)) := by
  unfold maxLen at hs
  have hc := small_any (s.size : Int) ((most : Int) + 1) (by omega) w0 w B v bs h hl
  by_cases h0 : s.size ≤ most
  · have e : smallE (s.size : Int) ((most : Int) + 1) = some (num s.size) := by
      unfold smallE
      rw [if_pos ⟨by omega, by omega⟩, Int.toNat_natCast]
    have e2 : textE s most = some (num s.size ++ bl s) := if_pos h0
    rw [e] at hc
    rw [e2]
    clear h e e2
    go_enter Try.func70, Try.ntmps70
    go_wp2_with fail
    refine hc.mono ?_
    clear hc
    rintro e w1 ⟨v1, rfl, hP⟩
    have hPS := hP.st
    have hnl := num_len (n := s.size) (by omega)
    have b0 := hPS.box.cell 0
    have b1 := hPS.box.frozen 0
    have hO := hPS.own
    obtain ⟨N, hN⟩ : ∃ N, (bs ++ num s.size).length = N := ⟨_, rfl⟩
    have hNl : N ≤ 100000000000010 := by rw [← hN, List.length_append]; omega
    rw [hN] at hO
    have HOO := Lib.hid hO
    have HSZ := Lib.hid hPS.ext.size
    have HPP := Lib.hid hP
    have hbl := hPS.box.lt
    have HNE := Lib.hid (hPS.box.not_own hO (by decide))
    have hbx := Lib.hid hPS.box
    have HN2 := Lib.hid hN
    obtain ⟨vA, vC, rfl, -⟩ := RdS.of_owns hO
    obtain ⟨i0, hi, hz0, hz1, hz2⟩ := info_parts (show (Try.prog.info? 5).map (fun i => (i.zero, i.size, i.bytes)) = some (some (.int .u8 0), 1, 1) by kernel_rfl)
    have HI := Lib.hid hi
    have HZ0 := Lib.hid hz0
    have HZ1 := Lib.hid hz1
    have HZ2 := Lib.hid hz2
    clear hO hP hPS hN hi hz0 hz1 hz2
    go_wp2_with (at_builtin; refine wpList_append_str rfl rfl Try.underlying25 Try.underlying9 HI.out HZ0.out HZ1.out HZ2.out (v := _) (by rfl) HOO.out (by rfl) (by omega) HSZ.out ?_)
    intro v2 w2 O1 hg hat
    have c1 := hbx.out.fr (Fr.grown hg) (fun hk => HNE.out hk)
    have c2 := c1.cell 0
    have c3 := c1.frozen 0
    have P2 := HPP.out.trans (HPP.out.st.put none_ (Ext.refl _) HN2.out (n := s.size) (b := bl s) (bl_len s).symm rfl O1 hg hat)
    have HP2 := Lib.hid P2
    obtain ⟨vA1, vC1, rfl, -⟩ := RdS.of_owns O1
    clear P2 c1 O1 hg hat b0 b1 hbx
    go_wp2_with fail
    go_end0
    exact ⟨_, rfl, HP2.out⟩
  · have e : smallE (s.size : Int) ((most : Int) + 1) = none := if_neg (by omega)
    have e2 : textE s most = none := if_neg h0
    rw [e] at hc
    rw [e2]
    clear h
    go_enter Try.func70, Try.ntmps70
    go_wp2_with fail
    refine hc.mono ?_
    clear hc
    rintro e w1 ⟨rfl, hP⟩
    go_wp2_with fail
    exact ⟨rfl, rfl, hP⟩
end Go.Proofs.Ytoplaokimahdiaa.Wi
