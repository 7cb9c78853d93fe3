/- Chapter 07: a slot that nobody has (30). -/
import Derived.Test.YtobbdeakocgdcaaArWalk
import Derived.Test.YtobbdeakocgdcaaArGrow
namespace Go.Proofs.Ytobbdeakocgdcaa.Ar
open Go.RowKit Go.Proofs.Ytobbdeakocgdcaa.Bw

theorem T63 : SliceT Try.prog 63 85 (.pointer none) 1 8 := SliceT.mk' Try.underlying63 (by kernel_rfl) rfl (by decide)
theorem info86z : (Try.prog.info? 86).map (fun i => i.zero) = some (some (.agg zeroSlab)) := by kernel_rfl
theorem zv86 (w : World) : Sem.run Try.prog (zeroValue 86) w = .ok (.agg zeroSlab) w := by
  obtain ⟨i, hi, hz⟩ := Option.map_eq_some_iff.1 info86z
  simp [zeroValue, typeInfo, hi, hz]
section
variable {w : World} {ρ : Nat → Tg} {base A : Nat} {S : St} {sv fv : Value} {bs : List Nat}
theorem snoc_of {l : List Nat} (h : l ≠ []) : ∃ f x, l = f ++ [x] := ⟨_, _, (List.dropLast_concat_getLast h).symm⟩

set_option maxRecDepth 100000 in
set_option maxHeartbeats 4000000 in
theorem fresh_any (h : AP w ρ base A S sv fv bs) (hbig : bs.length ≤ 60000) (hlen : S.sl.length < 1000000) :
    Calls Try.prog 30 #[.pointer (some ⟨A, 0, none⟩)] w fun e w' => e = .returned (.int .i64 (S.fresh : Int)) ∧ ∃ ρ' sv' fv' bs', AP w' ρ' base A S.fresh' sv' fv' bs' ∧ bs <+: bs' ∧ bs'.length ≤ bs.length + 1 ∧ Step w ρ w' ρ' := by
  have hA := h.box
  have c1 : w.cell? ⟨A, 1, none⟩ = some (.int .i64 (S.sl.length : Int)) := by rw [h.box.cell]; rfl
  have f0 := h.box.frozen 0
  have f1 := h.box.frozen 1
  have f2 := h.box.frozen 2
  rcases List.eq_nil_or_concat S.free with hf | ⟨f, x, hf⟩
  · -- none is free
    have hfr : S.fresh = S.sl.length := by simp [St.fresh, hf]
    have hfr' : S.fresh' = ⟨S.sl ++ [Sl.zero], S.free⟩ := by simp [St.fresh', hf]
    obtain ⟨fA, fc, rfl, -, -⟩ := owns_slice h.fre
    obtain ⟨sA, sc, hsv, hs1, hs2⟩ := owns_slice h.row
    have c2 : w.cell? ⟨A, 2, none⟩ = some (.slice fA 0 fc) := by rw [h.box.cell, hf]; rfl
    rcases Nat.lt_or_ge S.sl.length (16 * bs.length) with hroom | hroom
    · subst hsv
      have c0 : w.cell? ⟨A, 0, none⟩ = some (.slice sA bs.length sc) := by rw [h.box.cell]; rfl
      have t1 : decide ((S.sl.length : Int) = (bs.length : Int) * 16) = false := decide_eq_false (by omega)
      have t2 : ((S.sl.length : Int) == (bs.length : Int) * 16) = false := by simp; omega
      have HP := Lib.hid (show ∀ (q : Nat) (w' : World), w' = ((w.drewN q).setCell ⟨A, 1, none⟩ (.int .i64 ((S.sl.length : Int) + 1))) → ∃ ρ' sv' fv' bs', AP w' ρ' base A S.fresh' sv' fv' bs' ∧ bs <+: bs' ∧ bs'.length ≤ bs.length + 1 ∧ Step w ρ w' ρ' from by
        rintro q w' rfl
        have F : Fr w ((w.drewN q).setCell ⟨A, 1, none⟩ (.int .i64 ((S.sl.length : Int) + 1))) (fun k => k = A) := Fr.trans (Fr.of_ext ((Ext.refl w).drewN q) _) (Fr.setCell _ _ _ _)
        have b1 : NBox ((w.drewN q).setCell ⟨A, 1, none⟩ (.int .i64 ((S.sl.length : Int) + 1))) A 65 #[.slice sA bs.length sc, .int .i64 ((S.sl.length + 1 : Nat) : Int), .slice fA S.free.length fc] := NBox.set (W := w.drewN q) hA 1 _
        rw [hfr']
        exact ⟨ρ, _, _, bs, h.counted hroom hlen F b1, List.prefix_refl _, by omega, F.mono (fun k _ hk => by rw [hk, h.boxt]; intro e; cases e), fun _ _ => rfl⟩)
      rw [hfr]
      clear h hA hfr hfr' hf
      go_enter Try.func30, Try.ntmps30
      go_upto_region 6 with fail
      go_quiet (fail)
      go_wp2_with fail
      go_ret
      exact ⟨rfl, HP.out nq _ rfl⟩
    · have hfull : S.sl.length = 16 * bs.length := Nat.le_antisymm h.room hroom
      have c0 : w.cell? ⟨A, 0, none⟩ = some sv := by rw [h.box.cell]; rfl
      have t1 : decide ((S.sl.length : Int) = (bs.length : Int) * 16) = true := decide_eq_true (by omega)
      have t2 : ((S.sl.length : Int) == (bs.length : Int) * 16) = true := by simp; omega
      have hrow := Lib.hid h.row
      subst hsv
      rw [hfr]
      have H := Lib.hid h
      have HF := Lib.hid hfull
      have hz86 := zv86
      obtain ⟨zs, hzs⟩ : ∃ zs, zeroSlab = zs := ⟨_, rfl⟩
      rw [hzs] at hz86
      have HZ := Lib.hid hzs
      clear hzs hfull
      have HNF := Lib.hid hf
      clear h hA hfr hfr' hf
      go_enter Try.func30, Try.ntmps30
      go_upto_region 6 with fail
      go_quiet (fail)
      go_upto_region 7 with fail
      obtain ⟨u, hu⟩ : ∃ u, w.drewN nq = u := ⟨_, rfl⟩
      have Eu : Ext w u := by rw [← hu]; exact (Ext.refl w).drewN _
      rw [hu]
      clear hu
      replace c0 := Eu.cell c0
      replace c1 := Eu.cell c1
      have E8 : Ext w ((u.alloc (.cells zs 86)).alloc (.cells #[.pointer (some ⟨u.heap.size, 0, none⟩)] 85)) := (Eu.alloc _).alloc _
      have hz1 : NBox (u.alloc (.cells zs 86)) u.heap.size 86 zs := NBox.new _ _ _
      have E9 : Ext (u.alloc (.cells zs 86)) ((u.alloc (.cells zs 86)).alloc (.cells #[.pointer (some ⟨u.heap.size, 0, none⟩)] 85)) := (Ext.refl _).alloc _
      have hz2 := Lib.hid (hz1.ext E9)
      have hone : RdS ((u.alloc (.cells zs 86)).alloc (.cells #[.pointer (some ⟨u.heap.size, 0, none⟩)] 85)) 1 1 [.pointer (some ⟨u.heap.size, 0, none⟩)] (.slice (some ⟨u.heap.size + 1, 0, none⟩) 1 1) := by
        have := RdS.one (W := u.alloc (.cells zs 86)) (t := 85) (cs := #[.pointer (some ⟨u.heap.size, 0, none⟩)]) (size := 1) rfl
        rwa [World.size_alloc] at this
      have H1 := Lib.hid hone
      have HE8 := Lib.hid E8
      clear hz1 E9 hone E8
      have HNE := Lib.hid (show some A ≠ (Value.slice sA bs.length sc).ownBlock from fun e => by
        have := H.out.rowt A e.symm
        rw [H.out.boxt] at this; cases this)
      go_wp2_with (at_builtin; refine wpList_append_rd rfl rfl T63 (v := _) rfl (owns_ext HE8.out hrow.out) rfl H1.out (by intro u hu; rw [List.mem_singleton.1 hu]; rfl) (by omega) (by simp only [maxLen]; omega) (Nat.le_trans H.out.lo HE8.out.size) ?_; intro v9 w9 hown hg hat; obtain ⟨A2, c9, rfl, -, -⟩ := owns_slice hown
                   have bA : NBox w9 A 65 #[.slice sA bs.length sc, .int .i64 (S.sl.length : Int), .slice fA S.free.length fc] := (hg.block A (NBox.ext HE8.out H.out.box).lt HNE.out).trans (NBox.ext HE8.out H.out.box)
                   have d0 := bA.cell 0
                   have d1 := bA.cell 1
                   have e0 := bA.frozen 0
                   have e1 := bA.frozen 1
                   clear c0 c1)
      go_ret
      refine ⟨rfl, ?_⟩
      have hu0 : w.heap.size ≤ u.heap.size := Eu.size
      have hW8 : ((u.alloc (.cells zs 86)).alloc (.cells #[.pointer (some ⟨u.heap.size, 0, none⟩)] 85)).heap.size = u.heap.size + 2 := by simp [World.size_alloc]
      have h98 : u.heap.size + 2 ≤ w9.heap.size := by have := hg.size; omega
      have F9s : Fr w w9 (fun k => ρ k = .row) := by
        refine ⟨hg.os.trans HE8.out.os, hg.tape.trans HE8.out.tape, hg.output.trans HE8.out.output, by omega, fun k hk hn => ?_⟩
        refine (hg.block k (by omega) (fun e => hn (H.out.rowt k e.symm))).trans (HE8.out.block k hk)
      have F9 : Fr w w9 (fun k => ρ k = .row ∨ ρ k = .no) := F9s.mono (fun _ _ h => .inl h)
      have F10 : Fr w (w9.setCell ⟨A, 0, none⟩ (.slice A2 (bs.length + 1) c9)) (fun k => k = A ∨ ρ k = .row ∨ ρ k = .no) :=
        (F9.mono (fun _ _ h => .inr h)).trans ((Fr.setCell w9 A 0 _).mono (fun _ _ h => .inl h))
      have b10 : NBox (w9.setCell ⟨A, 0, none⟩ (.slice A2 (bs.length + 1) c9)) A 65 #[.slice A2 (bs.length + 1) c9, .int .i64 (S.sl.length : Int), .slice fA S.free.length fc] := bA.set 0 _
      have hAu : A < w.heap.size := H.out.box.lt
      have bz : NBox (w9.setCell ⟨A, 0, none⟩ (.slice A2 (bs.length + 1) c9)) u.heap.size 86 zeroSlab := by
        rw [HZ.out]
        refine NBox.fr (Fr.setCell w9 A 0 _) ?_ (by omega)
        refine (hg.block _ (by omega) (fun e => ?_)).trans hz2.out
        have := (hrow.out.lt _ e.symm).2
        omega
      let ρ' : Nat → Tg := fun g => if g < w.heap.size then ρ g else if g = u.heap.size then .slab else if (Value.slice A2 (bs.length + 1) c9).ownBlock = some g then .row else .no
      have hρ : ∀ g, g < w.heap.size → ρ' g = ρ g := fun g hg => if_pos hg
      have hrow9 : (w9.setCell ⟨A, 0, none⟩ (.slice A2 (bs.length + 1) c9)).ownsRow base 85 1 (.slice A2 (bs.length + 1) c9) (bs.length + 1) ((bs ++ [u.heap.size]).map (fun b => .pointer (some ⟨b, 0, none⟩))) := by
        refine owns_fr (Fr.setCell w9 A 0 _) (by simpa using hown) (fun g hg' e => ?_)
        subst e
        rcases hat with h1 | h1
        · exact HNE.out (hg'.symm.trans h1)
        · rw [hg'] at h1
          have := Option.some.inj h1
          omega
      have hrt : ∀ k, (Value.slice A2 (bs.length + 1) c9).ownBlock = some k → ρ' k = .row := by
        intro k hk
        rcases hat with h1 | h1
        · have h2 := h1.symm.trans hk
          rw [hρ k (hrow.out.lt k h2).2]
          exact H.out.rowt k h2
        · rw [hk] at h1
          have := Option.some.inj h1
          show (if k < w.heap.size then ρ k else if k = u.heap.size then .slab else if (Value.slice A2 (bs.length + 1) c9).ownBlock = some k then .row else .no) = _
          rw [if_neg (by omega), if_neg (by omega), if_pos hk]
      have hnew : ∀ g, ρ' g ≠ .no → g < (w9.setCell ⟨A, 0, none⟩ (.slice A2 (bs.length + 1) c9)).heap.size := by
        intro g hg'
        have hsz : (w9.setCell ⟨A, 0, none⟩ (.slice A2 (bs.length + 1) c9)).heap.size = w9.heap.size := by simp [World.setCell]
        rw [hsz]
        rcases Nat.lt_or_ge g w.heap.size with h1 | h1
        · omega
        · by_cases h2 : g = u.heap.size
          · omega
          · by_cases h3 : (Value.slice A2 (bs.length + 1) c9).ownBlock = some g
            · exact (hown.lt g h3).2
            · exfalso
              apply hg'
              show (if g < w.heap.size then ρ g else if g = u.heap.size then .slab else if (Value.slice A2 (bs.length + 1) c9).ownBlock = some g then .row else .no) = _
              rw [if_neg (by omega), if_neg h2, if_neg h3]
      have hbt : ρ' u.heap.size = .slab := by
        show (if u.heap.size < w.heap.size then ρ u.heap.size else if u.heap.size = u.heap.size then .slab else _) = _
        rw [if_neg (by omega), if_pos rfl]
      have S1 := H.out.slabbed F10 b10 hu0 bz hbt hrow9 hrt HF.out hρ hnew
      have F11 := Fr.setCell (w9.setCell ⟨A, 0, none⟩ (.slice A2 (bs.length + 1) c9)) A 1 (.int .i64 ((S.sl.length : Int) + 1))
      have S2 := S1.counted (by rw [List.length_append]; have := HF.out; simp; omega) hlen F11 (b10.set 1 _)
      have hfr' : S.fresh' = ⟨S.sl ++ [Sl.zero], S.free⟩ := by simp [St.fresh', HNF.out]
      rw [hfr']
      refine ⟨ρ', _, _, _, S2, List.prefix_append _ _, by simp, ?_, hρ⟩
      refine ((F9s.mono (fun _ _ h => .inr h)).trans (((Fr.setCell w9 A 0 (.slice A2 (bs.length + 1) c9)).trans F11).mono (T := fun k => k = A ∨ ρ k = .row) (fun _ _ h => .inl h))).mono ?_
      rintro k hk (h1 | h1)
      · rw [h1, H.out.boxt]; intro e; cases e
      · rw [h1]; intro e; cases e
  · -- one is free
    rw [List.concat_eq_append] at hf
    have hfr : S.fresh = x := by simp [St.fresh, hf]
    have hfr' : S.fresh' = ⟨S.sl, f⟩ := by simp [St.fresh', hf]
    have hfl : S.free.length = f.length + 1 := by simp [hf]
    have hH := h
    have hfre := h.fre
    rw [hfl] at hfre
    have hbl := h.big.2.1
    rcases owns_form hfre with ⟨_, h0, _⟩ | ⟨g, cap, cs, rfl, hb2, hbx, h4, h5, h6, h7, h8⟩
    · omega
    · have c2 : w.cell? ⟨A, 2, none⟩ = some (.slice (some ⟨g, 0, none⟩) (f.length + 1) cap) := by rw [h.box.cell]; rfl
      have cx : w.cell? ⟨g, f.length, none⟩ = some (.int .i64 (x : Int)) := by
        rw [hbx.cell]
        exact h8 _ _ (ints_at (by rw [hf]; simp))
      have hown : w.ownsRow base 3 1 (.slice (some ⟨g, 0, none⟩) f.length cap) f.length (ints f) := by
        refine owns_mk hb2 hbx (by omega) h5 h6 (by rw [ints_len]; omega) (fun j u hu => h8 j u ?_)
        rw [hf, ints_app]
        have hj := (List.getElem?_eq_some_iff.1 hu).1
        rw [List.getElem?_append_left hj]; exact hu
      have hHH := Lib.hid hH
      have HO := Lib.hid hown
      rw [hfr]
      have hcap : (cap : Int) ≤ 9223372036854775807 := by unfold maxLen at h5; omega
      have hfl2 : f.length ≤ 1000000 := by omega
      clear h hH hfr hf hfl hfre hbx h8 h6 h7 hown h5 hA hbl
      go_enter Try.func30, Try.ntmps30
      go_wp2_with fail
      go_ret
      refine ⟨rfl, ?_⟩
      have F := Fr.setCell w A 2 (.slice (some ⟨g, 0, none⟩) f.length cap)
      have hA := hHH.out.box
      have hgA : g ≠ A := by
        intro e
        have := hHH.out.fret g rfl
        rw [e, hHH.out.boxt] at this; cases this
      rw [hfr']
      refine ⟨ρ, _, _, bs, hHH.out.freed (F.mono (fun _ _ h => .inl h)) (hA.set 2 _) (owns_fr F HO.out (fun k hk => by cases hk; exact hgA)) (fun k hk => by cases hk; exact hHH.out.fret g rfl) (fun _ _ => rfl) (fun k hk => ?_) hfl2, List.prefix_refl _, by omega, ?_, fun _ _ => rfl⟩
      · have := (hHH.out.old k hk).2
        simpa [World.setCell] using this
      · refine F.mono (fun k _ hk => ?_)
        rw [hk, hHH.out.boxt]; intro e; cases e
end
end Go.Proofs.Ytobbdeakocgdcaa.Ar
