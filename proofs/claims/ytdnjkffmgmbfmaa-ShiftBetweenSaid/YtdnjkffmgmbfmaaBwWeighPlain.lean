/- SyLxPuts turned to this seat. (Printed by gport.py.) -/
import Derived.Test.YtdnjkffmgmbfmaaHyLxTPlain
import Derived.Test.YtdnjkffmgmbfmaaHyWiLate
import Derived.WalkKit
import Derived.Deep.Cut
import Derived.Deep.CutRange
import Derived.Deep.RegionHeld3
import Derived.BigQuiet
import Derived.IntWalk
import Derived.Test.YtdnjkffmgmbfmaaHyBsInts
import Derived.Test.YtdnjkffmgmbfmaaHyLxFrame
import Derived.Test.YtdnjkffmgmbfmaaBwData
namespace Go.Proofs.Ytdnjkffmgmbfmaa.Sy
open Go.RowKit Go.Proofs.Ytdnjkffmgmbfmaa.Bw Go.Proofs.Ytdnjkffmgmbfmaa.Bs
/-- Where the blocks lie. -/
structure TD (w0 : World) (Bo N : Nat) (Gp Gq : Option Nat) : Prop where
 b0 : w0.heap.size ≤ Bo
 bn : Bo < N
 gp : ∀ g, Gp = some g → Bo < g ∧ g < N
 gq : ∀ g, Gq = some g → Bo < g ∧ g < N
 pq : ∀ g, Gp = some g → Gq = some g → False
/-- Transform's state in memory. -/
structure TAt (W w0 : World) (Bo N : Nat) (Gp Gq : Option Nat) (prior : Bool) (s : St) (lx ly : Value) : Prop where
 rp : RowAt W N Gp s.p
 rq : RowAt W (N + 1) Gq s.q
 pr : NBox W Bo 4 #[.bool prior]
 mx : MkAt W (N + 2) (N + 4) s.x lx
 my : MkAt W (N + 3) (N + 4) s.y ly
 dis : ∀ k, lx.ownBlock = some k → ly.ownBlock = some k → False
 ext : Ext w0 W
theorem MkAt.fr {W W' : World} {S : Nat → Prop} (F : Fr W W' S) {B base : Nat} {m : Mk} {lv : Value} (h : MkAt W B base m lv) (hB : ¬ S B) (hs : ∀ g, lv.ownBlock = some g → ¬ S g) : MkAt W' B base m lv :=
 ⟨h.1.fr F hB, owns_fr F h.2.1 hs, h.2.2.1, Nat.le_trans h.2.2.2 F.size⟩
theorem MkAt.more {W : World} {B base : Nat} {m : Mk} {lv : Value} (h : MkAt W B base m lv) (n : Int) : MkAt (W.setCell ⟨B, 1, none⟩ (.int .i64 (m.keep + n))) B base (m.more n) lv := by
 refine ⟨h.1.set 1 _, owns_fr (Fr.setCell W B 1 _) h.2.1 (fun g hg h0 => ?_), h.2.2.1, Nat.le_trans h.2.2.2 (Fr.setCell W B 1 _).size⟩
 have := owns_base h.2.1 g hg
 have := h.2.2.1
 omega
theorem TAt.rows {W W' w0 : World} {Bo N : Nat} {Gp Gq : Option Nat} {prior : Bool} {s : St} {lx ly : Value} (D : TD w0 Bo N Gp Gq) (h : TAt W w0 Bo N Gp Gq prior s lx ly) {p' q' : List Pc}
  (M : RowAt W' N Gp p') (M2 : RowAt W' (N + 1) Gq q') (F : Fr W W' (fun k => k = N ∨ k = N + 1 ∨ Gp = some k ∨ Gq = some k)) : TAt W' w0 Bo N Gp Gq prior { s with p := p', q := q' } lx ly := by
 have ox : ∀ k, ly.ownBlock = some k → N + 4 ≤ k := fun k hk => owns_base h.my.2.1 k hk
 have oy : ∀ k, lx.ownBlock = some k → N + 4 ≤ k := fun k hk => owns_base h.mx.2.1 k hk
 have d1 := D.b0
 have d2 := D.bn
 refine ⟨M, M2, h.pr.fr F ?_, h.mx.fr F ?_ ?_, h.my.fr F ?_ ?_, h.dis, Fr.ext h.ext F ?_⟩
 ·rintro (e | e | e | e)
  ·omega
  ·omega
  ·have := D.gp _ e; omega
  ·have := D.gq _ e; omega
 ·rintro (e | e | e | e)
  ·omega
  ·omega
  ·have := D.gp _ e; omega
  ·have := D.gq _ e; omega
 ·rintro g hg (e | e | e | e)
  ·have := oy g hg; omega
  ·have := oy g hg; omega
  ·have := oy g hg; have := D.gp _ e; omega
  ·have := oy g hg; have := D.gq _ e; omega
 ·rintro (e | e | e | e)
  ·omega
  ·omega
  ·have := D.gp _ e; omega
  ·have := D.gq _ e; omega
 ·rintro g hg (e | e | e | e)
  ·have := ox g hg; omega
  ·have := ox g hg; omega
  ·have := ox g hg; have := D.gp _ e; omega
  ·have := ox g hg; have := D.gq _ e; omega
 ·rintro k (e | e | e | e)
  ·omega
  ·omega
  ·have := D.gp _ e; omega
  ·have := D.gq _ e; omega
end Go.Proofs.Ytdnjkffmgmbfmaa.Sy
namespace Go.Proofs.Ytdnjkffmgmbfmaa.Sy
open Go.RowKit Go.Proofs.Ytdnjkffmgmbfmaa.Bw Go.Proofs.Ytdnjkffmgmbfmaa.Bs
theorem rdPcs_of_vals {W : World} {g : Nat} : ∀ {l : List Pc} {off : Nat}, (∀ i x, (pcVals l)[i]? = some x → W.cell? ⟨g, off + i, none⟩ = some x) → (∀ p ∈ l, okStr p.put) → rdPcs W g off l
 | [], _, _, _ => trivial
 | p :: r, off, h, hs => by
  have e : pcVals (p :: r) = .int .i64 p.keep :: .int .i64 p.drop :: .string p.put :: pcVals r := rfl
  rw [e] at h
  refine ⟨h 0 _ rfl, h 1 _ rfl, h 2 _ rfl, hs p List.mem_cons_self, rdPcs_of_vals (fun i x hx => ?_) (fun q hq => hs q (List.mem_cons_of_mem _ hq))⟩
  have := h (i + 3) x (by simpa using hx)
  rwa [show off + 3 + i = off + (i + 3) by omega]
theorem RowV.of_owns {W : World} {base : Nat} {l : List Pc} {v : Value} (h : W.ownsRow base 61 3 v l.length (pcVals l)) (hs : ∀ p ∈ l, okStr p.put) : RowV W v.ownBlock l v := by
 have hc := fun g => h.cells (g := g)
 rcases h.2 with ⟨rfl, h0⟩ | ⟨g, cap, cur, rfl, hb, hg, h4, h5, h6, h7⟩
 ·exact ⟨none, 0, by rw [h0], by omega, by decide, fun h1 => by omega⟩
 ·refine ⟨_, cap, rfl, h4, h5, fun _ => ⟨g, 0, cur, rfl, rfl, hg, rdPcs_of_vals (fun i x hx => ?_) hs⟩⟩
  have := hc g rfl i x hx
  rw [Addr.add_lit] at this
  exact this
theorem RdP.of_owns {W : World} {base : Nat} {l : List Pc} {v : Value} (h : W.ownsRow base 61 3 v l.length (pcVals l)) (hs : ∀ p ∈ l, okStr p.put) : RdP W l v := (RowV.of_owns h hs).rd
theorem RdP.nil (W : World) : RdP W [] (.slice none 0 0) := ⟨none, 0, rfl, Nat.le_refl _, by decide, fun h => absurd h (by simp)⟩
end Go.Proofs.Ytdnjkffmgmbfmaa.Sy
namespace Go.Proofs.Ytdnjkffmgmbfmaa.Sy
open Go.RowKit Go.Proofs.Ytdnjkffmgmbfmaa.Bw Go.Proofs.Ytdnjkffmgmbfmaa.Bs
theorem results_st {P : Program} {fn : Func} {p : Tmp} {ty : TypeId} (h : fn.results = #[.cell p ty]) (tmps : Array Value) {w : World} {g : Nat} {cs : Array Value} {d : TypeDesc}
  (hp : tmps.getD p undef = .pointer (some ⟨g, 0, none⟩)) (hg : NBox w g ty cs) (hu : P.underlying ty = some d) (hd : (match d with | .struct _ | .array _ _ => true | _ => false) = true) (hi : (P.info? ty).map (·.size) = some cs.size) :
  (results fn tmps).run P w = .ok (.agg cs) w := results_cell_row h tmps w g ty cs (0, 0) d hp hg hu hd hi
end Go.Proofs.Ytdnjkffmgmbfmaa.Sy
namespace Go.Proofs.Ytdnjkffmgmbfmaa.Sy
open Go.RowKit Go.Proofs.Ytdnjkffmgmbfmaa.Bw Go.Proofs.Ytdnjkffmgmbfmaa.Bs
def RdO (W : World) (x : OpD) (v : Value) : Prop := x.rd W v
theorem rdOps_of {W : World} {b : Nat} : ∀ (l : List OpD) (us : List Value) (off : Nat), rowCells RdO 11 W l us → (∀ j u, us[j]? = some u → W.cell? ⟨b, off + j, none⟩ = some u) → rdOps W b off l
 | [], _, _, _, _ => trivial
 | x :: l, us, off, h, hc => by
  obtain ⟨cs, us', h1, h2, rfl, h5⟩ := h
  obtain ⟨pv, tv, cv, he, hr⟩ := h2
  simp only [Value.agg.injEq] at he
  have he' : cs = [.int .u8 x.kind, pv, .int .i64 x.at_, tv, .int .u64 x.id, .bool x.leaf, .string x.label, .string x.key, .string x.value, .bool x.gone, cv] := by
   have := congrArg Array.toList he
   simpa using this
  subst he'
  refine ⟨⟨pv, tv, cv, ?_, hc 1 _ rfl, hc 2 _ rfl, hc 3 _ rfl, hc 4 _ rfl, hc 5 _ rfl, hc 6 _ rfl, hc 7 _ rfl, hc 8 _ rfl, hc 9 _ rfl, hc 10 _ rfl, pv, tv, cv, rfl, hr⟩, rdOps_of l us' (off + 11) h5 (fun j u hj => ?_)⟩
  ·have := hc 0 _ rfl
   simpa using this
  ·have := hc (11 + j) u (by simpa [Nat.add_comm] using hj)
   rw [show off + 11 + j = off + (11 + j) by omega]
   exact this
theorem RdL.of_row {W : World} {base e : Nat} {v : Value} {l : List OpD} {us : List Value} (h : W.ownsRow base e 11 v l.length us) (hr : rowCells RdO 11 W l us) : RdL W l v := by
 obtain ⟨A, c, rfl, h1, h2, h3⟩ := owns_cells h
 refine ⟨A, c, rfl, h1, h2, fun hl => ?_⟩
 obtain ⟨g, rfl, hc⟩ := h3 hl
 exact ⟨g, 0, rfl, rdOps_of l us 0 hr hc⟩
/-- A list in new memory. -/
def lsV (lo : Nat) (l : List OpD) (v : Value) (W : World) : Prop := rowV2 RdO 26 11 lo l v W
theorem lsV.rd {lo : Nat} {l : List OpD} {v : Value} {W : World} (h : lsV lo l v W) : RdL W l v := by
 obtain ⟨us, h1, h2⟩ := h
 exact RdL.of_row h1 h2.now
theorem lsV.slice {lo : Nat} {l : List OpD} {v : Value} {W : World} (h : lsV lo l v W) : ∃ A c, v = .slice A l.length c := by
 obtain ⟨us, h1, -⟩ := h
 obtain ⟨A, c, rfl, -⟩ := owns_cells h1
 exact ⟨A, c, rfl⟩
theorem rowV2.fr {α : Type} {R : World → α → Value → Prop} {t sz lo : Nat} {l : List α} {v : Value} {W W' : World} {Z : Nat} (h : rowV2 R t sz lo l v W) (F : Fr W W' (fun k => k = Z)) (hZ : Z < lo) : rowV2 R t sz lo l v W' := by
 obtain ⟨us, h1, h2⟩ := h
 exact ⟨us, owns_fr F h1 (fun g hg hk => by have := owns_base h1 g hg; rw [show g = Z from hk] at this; omega), h2.to F (fun k _ hh => hh.elim (fun hk => .inl (by rw [show k = Z from hk]; exact hZ)) id)⟩
theorem rowV2.ext {α : Type} {R : World → α → Value → Prop} {t sz lo : Nat} {l : List α} {v : Value} {W W' : World} (h : rowV2 R t sz lo l v W) (X : Ext W W') : rowV2 R t sz lo l v W' := by
 obtain ⟨us, h1, h2⟩ := h
 exact ⟨us, owns_ext X h1, h2.ext X⟩
theorem lsV.ext {lo : Nat} {l : List OpD} {v : Value} {W W' : World} (h : lsV lo l v W) (X : Ext W W') : lsV lo l v W' := rowV2.ext h X
theorem lsV.none_ (lo : Nat) (W : World) : lsV lo [] (.slice none 0 0) W := ⟨[], ⟨rfl, .inl ⟨rfl, rfl⟩⟩, Late.all fun _ => rfl⟩
theorem lsV.one {lo g : Nat} {W : World} {o : OpD} {c0 c1 c2 c3 c4 c5 c6 c7 c8 c9 c10 : Value} (hG : NBox W g 26 #[c0, c1, c2, c3, c4, c5, c6, c7, c8, c9, c10]) (hl : lo ≤ g) (hx : Late (fun k => k < lo ∨ k = g) (fun W => o.rd W (.agg #[c0, c1, c2, c3, c4, c5, c6, c7, c8, c9, c10])) W) : lsV lo [o] (.slice (some ⟨g, 0, none⟩) 1 1) W := by
 refine ⟨[c0, c1, c2, c3, c4, c5, c6, c7, c8, c9, c10], ⟨rfl, .inr ⟨g, 1, _, rfl, hl, hG, Nat.le_refl _, by simp [maxLen], rfl, rfl⟩⟩, ?_⟩
 refine (hx.sub (fun k hk => ?_)).imp fun W2 h => ⟨_, [], rfl, h, by simp, rfl⟩
 rcases hk with h | h
 ·exact .inl h
 ·cases h; exact .inr rfl
theorem NBox.row {W : World} {g : Nat} {c0 c1 c2 c3 c4 c5 c6 c7 c8 c9 c10 : Value} (hG : NBox W g 26 #[c0, c1, c2, c3, c4, c5, c6, c7, c8, c9, c10]) : RdS W 11 1 [c0, c1, c2, c3, c4, c5, c6, c7, c8, c9, c10] (.slice (some ⟨g, 0, none⟩) 1 1) :=
 RdS.of_owns (base := 0) (e := 26) ⟨rfl, .inr ⟨g, 1, _, rfl, Nat.zero_le _, hG, Nat.le_refl _, by simp [maxLen], rfl, rfl⟩⟩
end Go.Proofs.Ytdnjkffmgmbfmaa.Sy
namespace Go.Proofs.Ytdnjkffmgmbfmaa.Bw
open Go.RowKit

mutual
def Nd.cnt : Nd → Nat
  | .mk _ _ _ _ _ ks => 1 + cntK ks
def cntK : List Nd → Nat
  | [] => 0
  | k :: r => k.cnt + cntK r
end
theorem Nd.cnt_eq (t : Nd) : t.cnt = 1 + cntK t.kids := by cases t; rw [Nd.cnt]; rfl
theorem cntK_mem : ∀ {l : List Nd} {k : Nd}, k ∈ l → k.cnt ≤ cntK l
  | x :: r, k, h => by
    rw [cntK]
    rcases List.mem_cons.1 h with rfl | h
    · omega
    · have := cntK_mem h; omega
theorem Nd.cnt_kid {t k : Nd} {i : Nat} (h : t.kids[i]? = some k) : k.cnt < t.cnt := by
  have := cntK_mem (List.mem_of_getElem? h)
  rw [Nd.cnt_eq t]; omega

/-- The attributes' part; none: the bound is answered at once. -/
def weighA (top w : Int) : List (ByteArray × ByteArray) → Option Int
  | [] => some w
  | (k, v) :: r => if w ≤ top then (if top < (k.size : Int) ∨ top < (v.size : Int) then none else weighA top (w + 1 + k.size + v.size) r) else some w

mutual
def Nd.weigh : Nd → Int → Int
  | .mk _ _ lb ats tx ks, top => if top < (lb.size : Int) ∨ top < (tx.size : Int) ∨ top < (ats.length : Int) then top + 1 else
      match weighA top (1 + lb.size + tx.size) ats with
      | none => top + 1
      | some w => weighK top w ks
def weighK : Int → Int → List Nd → Int
  | _, w, [] => w
  | top, w, k :: r => if w ≤ top then weighK top (w + k.weigh (top - w)) r else w
end

theorem weighA_done {top w : Int} {l : List (ByteArray × ByteArray)} (h : l = [] ∨ top < w) : weighA top w l = some w := by
  cases l with
  | nil => rfl
  | cons x r => obtain ⟨k, v⟩ := x; rcases h with h | h; · cases h
                rw [weighA, if_neg (by omega)]
theorem weighA_out {top w : Int} {k v : ByteArray} {r : List (ByteArray × ByteArray)} (h : w ≤ top) (h2 : top < (k.size : Int) ∨ top < (v.size : Int)) : weighA top w ((k, v) :: r) = none := by
  rw [weighA, if_pos h, if_pos h2]
theorem weighA_on {top w : Int} {k v : ByteArray} {r : List (ByteArray × ByteArray)} (h : w ≤ top) (h2 : ¬ top < (k.size : Int)) (h3 : ¬ top < (v.size : Int)) : weighA top w ((k, v) :: r) = weighA top (w + 1 + k.size + v.size) r := by
  rw [weighA, if_pos h, if_neg (by omega)]
theorem weighK_done {top w : Int} {l : List Nd} (h : l = [] ∨ top < w) : weighK top w l = w := by
  cases l with
  | nil => rw [weighK]
  | cons x r => rcases h with h | h; · cases h
                rw [weighK, if_neg (by omega)]
theorem weighK_on {top w : Int} {k : Nd} {r : List Nd} (h : w ≤ top) : weighK top w (k :: r) = weighK top (w + k.weigh (top - w)) r := by
  rw [weighK, if_pos h]

theorem weighA_le {top : Int} (h0 : 0 ≤ top) : ∀ {l : List (ByteArray × ByteArray)} {w x : Int}, 0 ≤ w → w ≤ 3 * top + 1 → weighA top w l = some x → w ≤ x ∧ x ≤ 3 * top + 1
  | [], w, x, h1, h2, h => by rw [weighA] at h; injection h with h; omega
  | (k, v) :: r, w, x, h1, h2, h => by
    rw [weighA] at h
    split at h
    · split at h
      · cases h
      · have := weighA_le h0 (by omega) (by omega) h; omega
    · injection h with h; omega

mutual
theorem Nd.weigh_le : ∀ (t : Nd) (top : Int), 0 ≤ top → 0 ≤ t.weigh top ∧ t.weigh top ≤ 3 * top + 1
  | .mk _ _ lb ats tx ks, top, h0 => by
    rw [Nd.weigh]
    split
    · omega
    · split
      · omega
      · rename_i x hx
        have := weighA_le h0 (by omega) (by omega) hx
        have := weighK_le top x ks h0 (by omega) (by omega)
        omega
theorem weighK_le : ∀ (top w : Int) (l : List Nd), 0 ≤ top → 0 ≤ w → w ≤ 3 * top + 1 → 0 ≤ weighK top w l ∧ weighK top w l ≤ 3 * top + 1
  | top, w, [], _, _, _ => by rw [weighK]; omega
  | top, w, k :: r, h0, h1, h2 => by
    rw [weighK]
    split
    · have := Nd.weigh_le k (top - w) (by omega)
      exact weighK_le top _ r h0 (by omega) (by omega)
    · omega
end

/-! ### The true weight -/
def wtA : List (ByteArray × ByteArray) → Nat
  | [] => 0
  | (k, v) :: r => 1 + k.size + v.size + wtA r
mutual
def Nd.wt : Nd → Nat
  | .mk _ _ lb ats tx ks => 1 + lb.size + tx.size + wtA ats + wtK ks
def wtK : List Nd → Nat
  | [] => 0
  | k :: r => k.wt + wtK r
end
theorem Nd.wt_eq (t : Nd) : t.wt = 1 + t.label.size + t.text.size + wtA t.attrs + wtK t.kids := by cases t; rw [Nd.wt]; rfl
theorem wtK_mem : ∀ {l : List Nd} {k : Nd}, k ∈ l → k.wt ≤ wtK l
  | x :: r, k, h => by
    rw [wtK]
    rcases List.mem_cons.1 h with rfl | h
    · omega
    · have := wtK_mem h; omega
theorem Nd.wt_kid {t k : Nd} {i : Nat} (h : t.kids[i]? = some k) : k.wt < t.wt := by
  have := wtK_mem (List.mem_of_getElem? h)
  rw [Nd.wt_eq t]; omega
theorem wtA_len : ∀ l, l.length ≤ wtA l
  | [] => Nat.le_refl _
  | (k, v) :: r => by have := wtA_len r; simp only [List.length_cons, wtA]; omega
mutual
theorem Nd.cnt_wt : ∀ t : Nd, t.cnt ≤ t.wt
  | .mk _ _ _ _ _ ks => by have := cntK_wt ks; rw [Nd.cnt, Nd.wt]; omega
theorem cntK_wt : ∀ l : List Nd, cntK l ≤ wtK l
  | [] => by rw [cntK, wtK]; exact Nat.le_refl _
  | k :: r => by have := Nd.cnt_wt k; have := cntK_wt r; rw [cntK, wtK]; omega
end
theorem wtK_len : ∀ l : List Nd, l.length ≤ wtK l
  | [] => Nat.le_refl _
  | k :: r => by have := wtK_len r; have := Nd.cnt_wt k; rw [Nd.cnt_eq] at this; simp only [List.length_cons, wtK]; omega

/-- Whether it has at most so much is told rightly; and if so, how much. -/
theorem weighA_spec {top : Int} : ∀ {l : List (ByteArray × ByteArray)} {w : Int}, 0 ≤ w → (w + wtA l ≤ top → weighA top w l = some (w + wtA l)) ∧ (top < w + wtA l → ∀ x, weighA top w l = some x → top < x)
  | [], w, h0 => by rw [weighA, wtA]; refine ⟨fun _ => by simp, fun h x hx => by injection hx with hx; omega⟩
  | (k, v) :: r, w, h0 => by
    rw [weighA, wtA]
    have ih := weighA_spec (top := top) (l := r) (w := w + 1 + k.size + v.size) (by omega)
    refine ⟨fun h => ?_, fun h x hx => ?_⟩
    · rw [if_pos (by omega), if_neg (by omega), ih.1 (by omega)]; congr 1; omega
    · split at hx
      · split at hx
        · cases hx
        · exact ih.2 (by omega) x hx
      · injection hx with hx; omega
mutual
theorem Nd.weigh_spec : ∀ (t : Nd) (top : Int), 0 ≤ top → ((t.wt : Int) ≤ top → t.weigh top = t.wt) ∧ (top < (t.wt : Int) → top < t.weigh top)
  | .mk _ _ lb ats tx ks, top, h0 => by
    rw [Nd.weigh, Nd.wt]
    have hl := wtA_len ats
    have hA := weighA_spec (top := top) (l := ats) (w := 1 + lb.size + tx.size) (by omega)
    refine ⟨fun h => ?_, fun h => ?_⟩
    · rw [if_neg (by omega), hA.1 (by omega)]
      have := (weighK_spec top (1 + lb.size + tx.size + wtA ats) ks h0 (by omega)).1 (by omega)
      dsimp only; rw [this]; omega
    · split
      · omega
      · split
        · omega
        · rename_i x hx
          rcases Int.lt_or_le top (1 + lb.size + tx.size + wtA ats) with h1 | h1
          · have h2 := hA.2 (by omega) x hx
            rw [weighK_done (.inr h2)]; exact h2
          · have h3 := hA.1 h1
            rw [h3] at hx; injection hx with hx
            exact (weighK_spec top x ks h0 (by omega)).2 (by omega)
theorem weighK_spec : ∀ (top w : Int) (l : List Nd), 0 ≤ top → 0 ≤ w → (w + wtK l ≤ top → weighK top w l = w + wtK l) ∧ (top < w + wtK l → top < weighK top w l)
  | top, w, [], _, _ => by rw [weighK, wtK]; omega
  | top, w, k :: r, h0, h1 => by
    rw [weighK, wtK]
    have hk := Nd.weigh_le k (top - w)
    refine ⟨fun h => ?_, fun h => ?_⟩
    · rw [if_pos (by omega)]
      have := (Nd.weigh_spec k (top - w) (by omega)).1 (by omega)
      rw [this]
      have := (weighK_spec top (w + k.wt) r h0 (by omega)).1 (by omega)
      omega
    · split
      · rename_i hle
        have hk2 := Nd.weigh_spec k (top - w) (by omega)
        have hk3 := hk (by omega)
        rcases Int.lt_or_le (top - w) k.wt with h2 | h2
        · have := hk2.2 h2
          rw [weighK_done (.inr (by omega))]; omega
        · rw [hk2.1 h2]
          exact (weighK_spec top (w + k.wt) r h0 (by omega)).2 (by omega)
      · omega
end
theorem Nd.weigh_iff (t : Nd) {top : Int} (h0 : 0 ≤ top) : t.weigh top ≤ top ↔ (t.wt : Int) ≤ top := by
  have := Nd.weigh_spec t top h0
  constructor
  · intro h
    rcases Int.lt_or_le top t.wt with h1 | h1
    · have := this.2 h1; omega
    · exact h1
  · intro h; rw [this.1 h]; exact h
end Go.Proofs.Ytdnjkffmgmbfmaa.Bw
