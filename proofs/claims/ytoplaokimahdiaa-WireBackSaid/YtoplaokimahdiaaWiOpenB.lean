/- A goto that jumps forward, out of a loop or not: what stands behind the label is walked where the jump is. -/
import Derived.ScopeJumps
import Derived.WalkMore
import Derived.Test.YtoplaokimahdiaaWiMem
import Derived.Test.YtoplaokimahdiaaWiRead2
import Derived.Test.YtoplaokimahdiaaProg
import Derived.BigQuiet
import Derived.Deep.QuietTactic
import Derived.Deep.AppendLies
import Derived.Deep.RegionHeld3
import Derived.WalkSpells
import Derived.WalkLawsBesides
import Derived.Defers
import Derived.Recover
import Derived.Test.YtoplaokimahdiaaWiRowKit
namespace Go.Proofs.Ytoplaokimahdiaa.Bs
/-- As Q; by a goto to label l: what stands behind the label, walked on. -/
def fwd (P : Program) (l : Nat) (rest : Code) (Q : Exit → Act → World → Prop) : Exit → Act → World → Prop
  | .goto l', a, w => l' = l ∧ rest.wp P (Exit.noGoto Q) a w
  | .normal, a, w => Q .normal a w
  | .exit i, a, w => Q (.exit i) a w
  | .ret, a, w => Q .ret a w
  | .panic c, a, w => Q (.panic c) a w
  | .outgrown, a, w => Q .outgrown a w
theorem wp_scope_fwd {P : Program} {a : Act} {w : World} {Q : Exit → Act → World → Prop} {c rest : Code} (l : Nat) (hf : findLabel c l = some rest) (h : c.wp P (fwd P l rest Q) a w) : (Code.scope c).wp P Q a w := by
  refine wp_scope_jumps l (fun a w => rest.wp P (Exit.noGoto Q) a w) (fun _ _ => 0) hf (wp_mono h (fun e a w q => ?_)) (fun a w hJ => wp_mono hJ (fun e a w q => ?_))
  · cases e <;> exact q
  · cases e <;> first | exact q | exact q.elim
theorem fwd_ret {P : Program} {l : Nat} {rest : Code} {Q : Exit → Act → World → Prop} {a : Act} {w : World} : fwd P l rest Q .ret a w = Q .ret a w := rfl
theorem fwd_normal {P : Program} {l : Nat} {rest : Code} {Q : Exit → Act → World → Prop} {a : Act} {w : World} : fwd P l rest Q .normal a w = Q .normal a w := rfl
theorem fwd_goto {P : Program} {l : Nat} {rest : Code} {Q : Exit → Act → World → Prop} {a : Act} {w : World} (h : rest.wp P (Exit.noGoto Q) a w) : fwd P l rest Q (.goto l) a w := ⟨rfl, h⟩
end Go.Proofs.Ytoplaokimahdiaa.Bs
namespace Go.Proofs.Ytoplaokimahdiaa.Wi
open Go.RowKit Go.Proofs.Ytoplaokimahdiaa.Bw Go.Proofs.Ytoplaokimahdiaa.Bs

def u8s (bs : List UInt8) : List Value := bs.map fun c => Value.int .u8 c.toNat
theorem u8s_len (bs : List UInt8) : (u8s bs).length = bs.length := List.length_map ..
theorem u8s_app (a b : List UInt8) : u8s (a ++ b) = u8s a ++ u8s b := List.map_append ..
theorem u8s_one (bs : List UInt8) : ∀ u ∈ u8s bs, u.oneCell' = true := by
  intro u hu
  obtain ⟨x, _, rfl⟩ := List.mem_map.1 hu
  rfl
/-- A writer: its box, and the bytes that it owns; all behind the world w0. -/
structure St (w0 W : World) (B : Nat) (v : Value) (bs : List UInt8) : Prop where
  ext : Ext w0 W
  hB : w0.heap.size ≤ B
  box : NBox W B 106 #[v]
  own : W.ownsRow w0.heap.size 5 1 v bs.length (u8s bs)
/-- What a call that puts may change. -/
def Chg (B : Nat) (v : Value) (E : Nat → Prop) (k : Nat) : Prop := k = B ∨ v.ownBlock = some k ∨ E k
/-- The bytes b are put. -/
structure PutOk (w0 W : World) (B : Nat) (v : Value) (bs : List UInt8) (E : Nat → Prop) (b : List UInt8) (W' : World) (v' : Value) : Prop where
  st : St w0 W' B v' (bs ++ b)
  fr : Fr W W' (Chg B v E)
  ow : ∀ k, v'.ownBlock = some k → v.ownBlock = some k ∨ W.heap.size ≤ k
/-- It threw. -/
structure PutNo (w0 W : World) (B : Nat) (v : Value) (E : Nat → Prop) (W' : World) : Prop where
  ext : Ext w0 W'
  fr : Fr W W' (Chg B v E)
theorem PutOk.refl {w0 W : World} {B : Nat} {v : Value} {bs : List UInt8} (E : Nat → Prop) (h : St w0 W B v bs) : PutOk w0 W B v bs E [] W v :=
  ⟨by rw [List.append_nil]; exact h, Fr.refl _ _, fun k hk => .inl hk⟩
theorem Chg.back {W : World} {B : Nat} {v v' : Value} {E : Nat → Prop} (ow : ∀ k, v'.ownBlock = some k → v.ownBlock = some k ∨ W.heap.size ≤ k) {k : Nat} (h : Chg B v' E k) : Chg B v E k ∨ W.heap.size ≤ k := by
  rcases h with h | h | h
  · exact .inl (.inl h)
  · rcases ow k h with h | h
    · exact .inl (.inr (.inl h))
    · exact .inr h
  · exact .inl (.inr (.inr h))
theorem PutOk.fr2 {w0 W W1 W2 : World} {B : Nat} {v v1 : Value} {bs b : List UInt8} {E : Nat → Prop} (h : PutOk w0 W B v bs E b W1 v1) (k : Fr W1 W2 (Chg B v1 E)) : Fr W W2 (Chg B v E) :=
  Fr.new ((h.fr.mono fun _ hk => .inl hk).trans (k.mono fun _ hk => Chg.back h.ow hk))
theorem PutOk.trans {w0 W W1 W2 : World} {B : Nat} {v v1 v2 : Value} {bs b c : List UInt8} {E : Nat → Prop} (h : PutOk w0 W B v bs E b W1 v1) (k : PutOk w0 W1 B v1 (bs ++ b) E c W2 v2) : PutOk w0 W B v bs E (b ++ c) W2 v2 :=
  ⟨by rw [← List.append_assoc]; exact k.st, h.fr2 k.fr, fun i hi => by
    rcases k.ow i hi with h1 | h1
    · exact h.ow i h1
    · exact .inr (Nat.le_trans h.fr.size h1)⟩
theorem PutOk.no {w0 W W1 W2 : World} {B : Nat} {v v1 : Value} {bs b : List UInt8} {E : Nat → Prop} (h : PutOk w0 W B v bs E b W1 v1) (k : PutNo w0 W1 B v1 E W2) : PutNo w0 W B v E W2 := ⟨k.ext, h.fr2 k.fr⟩
theorem PutOk.mono {w0 W W1 : World} {B : Nat} {v v1 : Value} {bs b : List UInt8} {E F : Nat → Prop} (h : PutOk w0 W B v bs E b W1 v1) (hE : ∀ k, E k → F k) : PutOk w0 W B v bs F b W1 v1 :=
  ⟨h.st, h.fr.mono fun _ hk => hk.imp_right (Or.imp_right (hE _)), h.ow⟩
theorem PutNo.mono {w0 W W1 : World} {B : Nat} {v : Value} {E F : Nat → Prop} (h : PutNo w0 W B v E W1) (hE : ∀ k, E k → F k) : PutNo w0 W B v F W1 := ⟨h.ext, h.fr.mono fun _ hk => hk.imp_right (Or.imp_right (hE _))⟩
def none_ : Nat → Prop := fun _ => False
theorem PutOk.any {w0 W W1 : World} {B : Nat} {v v1 : Value} {bs b : List UInt8} {E : Nat → Prop} (h : PutOk w0 W B v bs none_ b W1 v1) : PutOk w0 W B v bs E b W1 v1 := h.mono fun _ hk => hk.elim
theorem PutNo.any {w0 W W1 : World} {B : Nat} {v : Value} {E : Nat → Prop} (h : PutNo w0 W B v none_ W1) : PutNo w0 W B v E W1 := h.mono fun _ hk => hk.elim
/-- More memory behind. -/
theorem St.more {w0 W W1 : World} {B : Nat} {v : Value} {bs : List UInt8} (h : St w0 W B v bs) (k : Ext W W1) : St w0 W1 B v bs := ⟨h.ext.trans k, h.hB, h.box.ext k, owns_ext k h.own⟩
theorem PutOk.more {w0 W W1 W2 : World} {B : Nat} {v v1 : Value} {bs b : List UInt8} {E : Nat → Prop} (h : PutOk w0 W B v bs E b W1 v1) (k : Ext W1 W2) : PutOk w0 W B v bs E b W2 v1 := ⟨h.st.more k, h.fr.trans (Fr.of_ext k _), h.ow⟩
theorem ow_of {W : World} {v v1 : Value} {g : Nat} (h : v1.ownBlock = v.ownBlock ∨ v1.ownBlock = some g) (hg : W.heap.size ≤ g) : ∀ k, v1.ownBlock = some k → v.ownBlock = some k ∨ W.heap.size ≤ k := by
  intro k hk
  rcases h with e | e
  · rw [e] at hk; exact .inl hk
  · rw [e] at hk
    have := Option.some.inj hk
    exact .inr (by omega)
/-- One append onto a writer's bytes, stored back. -/
theorem St.put {w0 W Wa w1 : World} {B : Nat} {v v1 : Value} {bs b : List UInt8} {n N : Nat} {ys : List Value} (E : Nat → Prop) (h : St w0 W B v bs) (he : Ext W Wa) (hN : bs.length = N) (hn : n = b.length) (hy : ys = u8s b) (hown : w1.ownsRow w0.heap.size 5 1 v1 (N + n) (u8s bs ++ ys))
    (hg : Wa.grownBy w1 v.ownBlock) (hat : ∀ k, v1.ownBlock = some k → v.ownBlock = some k ∨ W.heap.size ≤ k) : PutOk w0 W B v bs E b (w1.setCell ⟨B, 0, none⟩ v1) v1 := by
  subst hN hn hy
  have hv := h.box.not_own h.own (by decide)
  have hBl := h.box.lt
  have F1 := Fr.grown hg
  have bx := (h.box.ext he).fr F1 (fun hk => hv hk)
  have hv1 : ∀ k, v1.ownBlock = some k → k ≠ B := by
    intro k hk
    rcases hat k hk with e | e
    · rintro rfl; exact hv e
    · omega
  have F2 := Fr.setCell w1 B 0 v1
  have F3 : Fr W (w1.setCell ⟨B, 0, none⟩ v1) (Chg B v E) := ((Fr.of_ext he _).trans (F1.mono fun k hk => .inr (.inl hk))).trans (F2.mono fun k hk => .inl hk)
  refine ⟨⟨?_, h.hB, bx.set 0 v1, ?_⟩, F3, hat⟩
  · refine Fr.ext (h.ext.trans he) (F1.mono (T := Chg B v none_) (fun k hk => .inr (.inl hk)) |>.trans (F2.mono fun k hk => .inl hk)) (fun k hk => ?_)
    rcases hk with rfl | hk | hk
    · exact h.hB
    · exact owns_base h.own k hk
    · exact hk.elim
  · rw [List.length_append, u8s_app]
    exact owns_fr F2 hown (fun g hg' => hv1 g hg')
/-- What wrong{} is when it is thrown. -/
def WR : List PanicEntry := [{ v := .iface 119 (.agg #[]), recovered := false }]
/-- What a call that puts does: the bytes are put, or it threw. -/
def PutC (w0 W : World) (B : Nat) (v : Value) (bs : List UInt8) (E : Nat → Prop) (enc : Option (List UInt8)) (e : Ending) (W' : World) : Prop :=
  match enc with
  | some b => ∃ v', e = .returned (.tuple #[]) ∧ PutOk w0 W B v bs E b W' v'
  | none => e = .panicked WR ∧ PutNo w0 W B v E W'
end Go.Proofs.Ytoplaokimahdiaa.Wi
namespace Go.Proofs.Ytoplaokimahdiaa.Wi
open Go.RowKit Go.ChangeShapes Go.WideShapes Go.Proofs.Ytoplaokimahdiaa.Bw

section
variable {H : Type} {enc : TypeId × Value → H} {w : World} {base : Nat} {spare : Nat → Bool} {held : Bool}
set_option maxRecDepth 100000 in
theorem open_bytes {r : Reach} {b0 : Nat} {v : Value} {d : DataW H} {p : List MemPlace} (hv : Value.okWide Try.prog w r b0 25 v) (h : DataW.Trod enc Try.prog w base spare held 25 v d p) : ∃ bs : List UInt8, RdS w 1 bs.length (u8s bs) v := by
  obtain ⟨A, n, c, rfl⟩ := okWide_slice Try.underlying25 hv
  obtain ⟨fuel, hf⟩ := h
  rcases open_ints Try.underlying25 Try.underlying5 cells5 hf with ⟨e, _⟩ | ⟨a, n', c', zs, e, _, hl, hm, hz, _, hc, hw⟩
  · simp [Value.cells] at e
    obtain ⟨rfl, rfl, rfl⟩ := e
    exact ⟨[], RdS.nil_ _ _⟩
  · simp [Value.cells] at e
    obtain ⟨rfl, rfl, rfl⟩ := e
    have hzl : n ≤ zs.length := by split at hz <;> omega
    have hlen : ((zs.take n).map fun z => UInt8.ofNat z.toNat).length = n := by simp; omega
    refine ⟨(zs.take n).map fun z => UInt8.ofNat z.toNat, ?_⟩
    rw [hlen]
    refine ⟨_, _, rfl, by rw [u8s_len, hlen, Nat.mul_one], hl, hm, fun h0 => ?_⟩
    have ha := cell_plain (hc 0 (by omega))
    obtain ⟨b, o, sp⟩ := a
    have hs : sp = none := by simpa [Addr.add] using ha
    subst hs
    refine ⟨b, o, rfl, fun j u hj => ?_⟩
    have hjn : j < n := by
      have := (List.getElem?_eq_some_iff.1 hj).1
      rwa [u8s_len, hlen] at this
    have h2 := hc j (by omega)
    rw [Addr.add_lit] at h2
    have hb := wf_u8 (hw (zs.getD j 0) (by rw [List.getD_eq_getElem?_getD, List.getElem?_eq_getElem (by omega)]; exact List.getElem_mem _))
    rw [h2]
    unfold u8s at hj
    rw [List.getElem?_map, List.getElem?_map, List.getElem?_take, if_pos hjn, List.getElem?_eq_getElem (by omega)] at hj
    simp only [Option.map_some, Option.some.injEq] at hj
    rw [← hj]
    rw [List.getD_eq_getElem?_getD, List.getElem?_eq_getElem (by omega)] at hb ⊢
    simp only [Option.getD_some] at hb ⊢
    rw [toNat_ofNat (by omega), Int.toNat_of_nonneg hb.1]
end
end Go.Proofs.Ytoplaokimahdiaa.Wi
