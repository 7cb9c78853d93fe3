/- Slices in memory: what it is for a slice value to read as a row of cells; append onto a slice of the call's own. Nothing of the program is named here. -/
import Derived.Test.YtdnjkffmgmbfmaaBwData
import Derived.Maps.AppendAt
import Derived.OwnWalkIn
import Derived.RangeFuncBox
namespace Go.Proofs.Ytdnjkffmgmbfmaa.Bw
open Go.RowKit

/-- A slice value that reads as n elements of 'size' cells each: the cells xs. -/
def RdS (w : World) (size n : Nat) (xs : List Value) (v : Value) : Prop :=
  ∃ A c, v = .slice A n c ∧ xs.length = n * size ∧ n ≤ c ∧ c ≤ maxLen ∧ (0 < n → ∃ b off, A = some ⟨b, off, none⟩ ∧ ∀ j u, xs[j]? = some u → w.cell? ⟨b, off + j, none⟩ = some u)
theorem RdS.ext {w w' : World} (h : Ext w w') {size n : Nat} {xs : List Value} {v : Value} (hr : RdS w size n xs v) : RdS w' size n xs v := by
  obtain ⟨A, c, rfl, h1, h2, h3, h4⟩ := hr
  refine ⟨A, c, rfl, h1, h2, h3, fun hn => ?_⟩
  obtain ⟨b, off, rfl, h5⟩ := h4 hn
  exact ⟨b, off, rfl, fun j u hu => h.cell (h5 j u hu)⟩
theorem RdS.nil_ (w : World) (size : Nat) : RdS w size 0 [] (.slice none 0 0) := ⟨none, 0, rfl, by simp, Nat.le_refl _, by simp [maxLen], fun h => absurd h (by omega)⟩
theorem RdS.of_owns {w : World} {base e size n : Nat} {v : Value} {xs : List Value} (h : w.ownsRow base e size v n xs) : RdS w size n xs v := by
  have hl := h.1
  rcases h.2 with ⟨rfl, rfl⟩ | ⟨g, cap, cur, rfl, h1, h2, h3, h4, h5, h6⟩
  · have : xs = [] := List.eq_nil_of_length_eq_zero (by simpa using hl)
    subst this
    exact RdS.nil_ w size
  · refine ⟨some ⟨g, 0, none⟩, cap, rfl, hl, h3, h4, fun _ => ⟨g, 0, rfl, fun j u hu => ?_⟩⟩
    have := h.cells (g := g) rfl j u hu
    rwa [Addr.add_lit] at this

/-- What the program's table says of a slice type and its element type. -/
def SliceT (P : Program) (t e : TypeId) (z : Value) (size bytes : Nat) : Prop :=
  ∃ i, P.underlying t = some (.slice e) ∧ P.info? e = some i ∧ i.zero = some z ∧ i.size = size ∧ i.bytes = bytes ∧ z.cells.size = size ∧ 0 < size
theorem SliceT.mk' {P : Program} {t e : TypeId} {z : Value} {size bytes : Nat} (h : P.underlying t = some (.slice e)) (hi : (P.info? e).map (fun i => (i.zero, i.size, i.bytes)) = some (some z, size, bytes)) (hz : z.cells.size = size) (h0 : 0 < size) : SliceT P t e z size bytes := by
  obtain ⟨i, h1, h2, h3, h4⟩ := info_parts hi
  exact ⟨i, h, h1, h2, h3, h4, hz, h0⟩

section
variable {P : Program} {w : World}

theorem run_append_rd {t e : TypeId} {z : Value} {size bytes : Nat} (T : SliceT P t e z size bytes) (ty : TypeId) {base : Nat} {v : Value} {n : Nat} {xs : List Value} (hown : w.ownsRow base e size v n xs)
    {m : Nat} {news : List Value} {y : Value} (hr : RdS w size m news y) (h1 : ∀ u ∈ news, u.oneCell' = true) (hb : (n + m) * bytes ≤ 140737488355328) (hm : n + m ≤ maxLen) (hbase : base ≤ w.heap.size) :
    ∃ v' w', (Builtin.append_ #[t, t] ty #[v, y]).run P w = .ok v' w' ∧ w'.ownsRow base e size v' (n + m) (xs ++ news) ∧ w.grownBy w' v.ownBlock ∧ (v'.ownBlock = v.ownBlock ∨ v'.ownBlock = some w.heap.size) := by
  obtain ⟨i, ht, hi, hz, hs, hby, hzs, hsz⟩ := T
  obtain ⟨A, c, rfl, hl, hnc, hc, hcell⟩ := hr
  cases A with
  | none =>
    have hm0 : m = 0 := by
      rcases Nat.eq_zero_or_pos m with h | h
      · exact h
      · obtain ⟨b, off, hh, _⟩ := hcell h; cases hh
    subst hm0
    have hn : news = [] := List.eq_nil_of_length_eq_zero (by simpa using hl)
    subst hn
    refine ⟨v, w, ?_, by simpa using hown, ⟨rfl, rfl, rfl, Nat.le_refl _, fun _ _ _ => rfl⟩, .inl rfl⟩
    rcases hown.2 with ⟨rfl, rfl⟩ | ⟨g, cap, cur, rfl, _, _, hnc, _⟩
    · simp [Builtin.append_, run_underlying ht, sizeOf, typeInfo, hi, Builtin.lenOf, Builtin.firstCells]
    · simp [Builtin.append_, run_underlying ht, sizeOf, typeInfo, hi, Builtin.lenOf, Builtin.firstCells, hnc, storeCells]
  | some ad =>
    have hcells : ∀ j u, news[j]? = some u → w.cell? (ad.add j) = some u := by
      intro j u hu
      rcases Nat.eq_zero_or_pos m with h | h
      · subst h
        have hn : news = [] := List.eq_nil_of_length_eq_zero (by simpa using hl)
        subst hn; simp at hu
      · obtain ⟨b, off, hh, h5⟩ := hcell h
        injection hh with hh; subst hh
        rw [Addr.add_lit]; exact h5 j u hu
    obtain ⟨v', w', hrun, h2, h3, _, h5⟩ := run_append_own_at (P := P) w base t ty e i z size bytes ht hi hz hs hby hzs hsz v n xs hown ad m c news hl hcells h1 hm hb hbase
    exact ⟨v', w', hrun, h2, h3, h5⟩

theorem wpList_append_rd {ops : Array Oper} {rest : List Oper} {o : Oper} {a : Act} {Q : Exit → Act → World → Prop} (hgd : o.guard = none) {s x : Operand} {t : TypeId}
    (ho : o.op = .call { callee := .builtin .append, args := #[s, x], argTypes := #[t, t] }) {e : TypeId} {z : Value} {size bytes : Nat} (T : SliceT P t e z size bytes) {base : Nat} {v : Value} {n : Nat} {xs : List Value} (hs : a.eval s = v) (hown : w.ownsRow base e size v n xs)
    {m : Nat} {news : List Value} {y : Value} (hx : a.eval x = y) (hr : RdS w size m news y) (h1 : ∀ u ∈ news, u.oneCell' = true) (hb : (n + m) * bytes ≤ 140737488355328) (hm : n + m ≤ maxLen) (hbase : base ≤ w.heap.size)
    (h : ∀ v' w', w'.ownsRow base e size v' (n + m) (xs ++ news) → w.grownBy w' v.ownBlock → (v'.ownBlock = v.ownBlock ∨ v'.ownBlock = some w.heap.size) → wpList P ops Q rest (a.put o.dst v') w') : wpList P ops Q (o :: rest) a w := by
  refine wpList_plain hgd fun K hK => ?_
  obtain ⟨v', w', hrun, h2, h3, h4⟩ := run_append_rd T o.type hown hr h1 hb hm hbase
  unfold Oper.wp execOp
  simp only [ho, resolve, invoke, builtin, Sem.run_bind, Sem.run_pure, Result.andThen_ok, List.map_toArray, List.map_cons, List.map_nil, hs, hx, hrun]
  exact hK _ _ (h v' w' h2 h3 h4)

end

/-- One element, in a block that was just made for it. -/
theorem RdS.one {W : World} {t : TypeId} {cs : Array Value} {size : Nat} (hs : cs.size = size) : RdS (W.alloc (.cells cs t)) size 1 cs.toList (.slice (some ⟨W.heap.size, 0, none⟩) 1 1) := by
  refine ⟨_, 1, rfl, by simp [hs], Nat.le_refl _, by simp [maxLen], fun _ => ⟨_, 0, rfl, fun j u hu => ?_⟩⟩
  have hb : (W.alloc (.cells cs t)).heap[W.heap.size]? = some (.cells cs t (0, 0)) := World.alloc_heap_new W _
  rw [Nat.zero_add]
  simp only [World.cell?, hb]
  simpa using hu

/-- Where the base of what is owned is the heap's size when the call began, what was there before stays. -/
theorem Ext.grown {w a b : World} (h : Ext w a) {row : Option Nat} (hg : a.grownBy b row) (hr : ∀ k, row = some k → w.heap.size ≤ k) : Ext w b := Below.grown h hg h.size hr
theorem owns_base {w : World} {base e size n : Nat} {v : Value} {xs : List Value} (h : w.ownsRow base e size v n xs) : ∀ k, v.ownBlock = some k → base ≤ k := fun k hk => (h.lt k hk).1
theorem owns_ext {w w' : World} (he : Ext w w') {base e size n : Nat} {v : Value} {xs : List Value} (h : w.ownsRow base e size v n xs) : w'.ownsRow base e size v n xs := by
  refine ⟨h.1, ?_⟩
  rcases h.2 with h2 | ⟨g, cap, cur, hv, hb, hg, r⟩
  · exact .inl h2
  · exact .inr ⟨g, cap, cur, hv, hb, (he.block g (Array.getElem?_eq_some_iff.1 hg).1).trans hg, r⟩
theorem owns_mono {w : World} {base base' e size n : Nat} {v : Value} {xs : List Value} (h : w.ownsRow base e size v n xs) (hb : base' ≤ base) : w.ownsRow base' e size v n xs := by
  refine ⟨h.1, ?_⟩
  rcases h.2 with h2 | ⟨g, cap, cur, hv, h1, r⟩
  · exact .inl h2
  · exact .inr ⟨g, cap, cur, hv, Nat.le_trans hb h1, r⟩
theorem ints_one (k : IntKind) (l : List Int) : ∀ u ∈ l.map (Value.int k), u.oneCell' = true := ints_oneCell k l
end Go.Proofs.Ytdnjkffmgmbfmaa.Bw
namespace Go.Proofs.Ytdnjkffmgmbfmaa.Bs

/-- What of an operation matters: its kind, path, gap, target; whether it is formed. -/
structure Sh where
  kind : Int
  path : List Int
  gap : Int
  «to» : List Int
  formed : Bool
  /-- How a number comes back into its bounds. -/
  wr : Int → Int

def within (p q : List Int) : Bool := decide (p.length ≤ q.length) && decide (q.take p.length = p)
def Sh.takes (o : Sh) : Bool := decide (o.kind ≠ 1)
def Sh.puts (o : Sh) : Bool := decide (o.kind ≠ 2)
def Sh.goal (o : Sh) : List Int := if o.kind = 1 then o.path else o.to
def Sh.from_ (o : Sh) : List Int := o.path.dropLast
def Sh.num (o : Sh) : Int := o.path.getLastD 0
def Sh.moves (o : Sh) : Bool := o.formed && (decide (o.kind = 1) || decide (o.kind = 2) && decide (o.path ≠ []) || decide (o.kind = 3) && decide (o.path ≠ []) && !within o.path o.to)
def Sh.number (o : Sh) (p : List Int) (k : Int) : Int :=
  if o.puts && decide (o.gap ≤ k) && decide (p = o.goal) then o.wr ((if o.takes && decide (o.num < k) && decide (p = o.from_) then o.wr (k - 1) else k) + 1)
  else if o.takes && decide (o.num < k) && decide (p = o.from_) then o.wr (k - 1) else k
def Sh.land (o : Sh) : Int := if o.num < o.gap ∧ o.from_ = o.goal then o.wr (o.gap - 1) else o.gap
/-- Each number of a path, as it is behind the operation; 'pre': what was gone by. -/
def Sh.go (o : Sh) : List Int → List Int → List Int
  | _, [] => []
  | pre, k :: r => o.number pre k :: o.go (pre ++ [k]) r
theorem Sh.go_snoc (o : Sh) : ∀ (r pre : List Int) (k : Int), o.go pre (r ++ [k]) = o.go pre r ++ [o.number (pre ++ r) k]
  | [], pre, k => by simp [Sh.go]
  | x :: r, pre, k => by
    rw [List.cons_append, Sh.go, Sh.go, Sh.go_snoc o r (pre ++ [x]) k, List.cons_append, List.append_assoc]; rfl
/-- The program's. -/
def Sh.node (o : Sh) (p : List Int) : Option (List Int) :=
  if o.moves = false then some p
  else if o.takes && within o.path p then
    if o.puts then some (o.go [] o.to ++ [o.land] ++ p.drop o.path.length) else none
  else some (o.go [] p)

/-- The document's: the number of a child. -/
def Sh.child (o : Sh) (p : List Int) (k : Int) : Option Int :=
  if o.kind = 1 then (if p = o.path ∧ o.gap ≤ k then some (o.wr (k + 1)) else some k)
  else if p = o.from_ ∧ k = o.num then none
  else if o.kind = 3 ∧ p = o.to ∧ o.gap ≤ k then some (o.wr ((if p = o.from_ ∧ o.num < k then o.wr (k - 1) else k) + 1))
  else some (if p = o.from_ ∧ o.num < k then o.wr (k - 1) else k)

theorem within_iff (p q : List Int) : within p q = true ↔ ∃ r, q = p ++ r := by
  unfold within
  rw [Bool.and_eq_true, decide_eq_true_eq, decide_eq_true_eq]
  constructor
  · rintro ⟨_, h⟩; exact ⟨q.drop p.length, by have := List.take_append_drop p.length q; rw [h] at this; exact this.symm⟩
  · rintro ⟨r, rfl⟩; simp
theorem within_snoc (p q : List Int) (k : Int) : within p (q ++ [k]) = true ↔ within p q = true ∨ p = q ++ [k] := by
  rw [within_iff, within_iff]
  constructor
  · rintro ⟨r, h⟩
    rcases List.eq_nil_or_concat r with rfl | ⟨r', x, rfl⟩
    · exact .inr (by simpa using h.symm)
    · left
      rw [List.concat_eq_append, ← List.append_assoc] at h
      exact ⟨r', (List.append_inj' h rfl).1⟩
  · rintro (⟨r, rfl⟩ | rfl)
    · exact ⟨r ++ [k], by rw [List.append_assoc]⟩
    · exact ⟨[], by simp⟩
theorem within_nil (q : List Int) : within [] q = true := by rw [within_iff]; exact ⟨q, rfl⟩
theorem within_self (q : List Int) : within q q = true := by rw [within_iff]; exact ⟨[], by simp⟩

theorem path_split {o : Sh} (h : o.path ≠ []) : o.path = o.from_ ++ [o.num] := by
  unfold Sh.from_ Sh.num
  rcases List.eq_nil_or_concat o.path with h0 | ⟨q, x, hq⟩
  · exact absurd h0 h
  · rw [hq]; simp [List.concat_eq_append]

/-- A node that is not taken along: number by number, as the document's child tells. -/
theorem child_number {o : Sh} (hm : o.moves = true) (q : List Int) (k : Int) (hw : ¬ (o.takes = true ∧ within o.path (q ++ [k]) = true)) : o.child q k = some (o.number q k) := by
  unfold Sh.moves at hm
  simp only [Bool.and_eq_true, Bool.or_eq_true, decide_eq_true_eq, Bool.not_eq_true'] at hm
  obtain ⟨_, hm⟩ := hm
  unfold Sh.child Sh.number
  rcases hm with (h1 | ⟨h2, hp⟩) | ⟨⟨h3, hp⟩, hto⟩
  · simp [h1, Sh.takes, Sh.puts, Sh.goal]
    by_cases h : q = o.path ∧ o.gap ≤ k
    · simp [h.1, h.2]
    · rw [if_neg h, if_neg (fun h' => h ⟨h'.2, h'.1⟩)]
  · have ht : o.takes = true := by simp [Sh.takes, h2]
    have hne : ¬ (q = o.from_ ∧ k = o.num) := fun h => hw ⟨ht, by rw [h.1, h.2, ← path_split hp]; exact within_self _⟩
    rw [if_neg (by omega), if_neg hne]
    simp [h2, ht, Sh.puts, and_comm]
  · have ht : o.takes = true := by simp [Sh.takes, h3]
    have hne : ¬ (q = o.from_ ∧ k = o.num) := fun h => hw ⟨ht, by rw [h.1, h.2, ← path_split hp]; exact within_self _⟩
    rw [if_neg (by omega), if_neg hne]
    simp [h3, ht, Sh.puts, Sh.goal, and_comm]
    by_cases h1 : q = o.to ∧ o.gap ≤ k <;> simp [h1]

theorem moves_kind {o : Sh} (hm : o.moves = true) : (o.kind = 1 ∨ o.kind = 2 ∨ o.kind = 3) ∧ (o.kind ≠ 1 → o.path ≠ []) ∧ (o.kind = 3 → within o.path o.to = false) := by
  unfold Sh.moves at hm
  simp only [Bool.and_eq_true, Bool.or_eq_true, decide_eq_true_eq, Bool.not_eq_true'] at hm
  obtain ⟨_, hm⟩ := hm
  rcases hm with (h1 | ⟨h2, hp⟩) | ⟨⟨h3, hp⟩, hto⟩
  · exact ⟨.inl h1, fun h => absurd h1 h, fun h => by omega⟩
  · exact ⟨.inr (.inl h2), fun _ => hp, fun h => by omega⟩
  · exact ⟨.inr (.inr h3), fun _ => hp, fun _ => hto⟩
theorem node_nil {o : Sh} (hm : o.moves = true) : o.node [] = some [] := by
  obtain ⟨_, hp, _⟩ := moves_kind hm
  unfold Sh.node
  have hw : ¬ ((o.takes && within o.path []) = true) := by
    rw [Bool.and_eq_true]
    rintro ⟨ht, hw⟩
    obtain ⟨r, hr⟩ := (within_iff _ _).1 hw
    have : o.path = [] := (List.append_eq_nil_iff.1 hr.symm).1
    exact hp (by simpa [Sh.takes] using ht) this
  rw [if_neg (by simp [hm]), if_neg hw]; rfl
theorem node_to {o : Sh} (hm : o.moves = true) (h3 : o.kind = 3) : o.node o.to = some (o.go [] o.to) := by
  obtain ⟨_, _, ht⟩ := moves_kind hm
  unfold Sh.node
  rw [if_neg (by simp [hm]), if_neg (by simp [ht h3])]
/-- The document's way, by the path's last number. -/
theorem node_snoc {o : Sh} (hm : o.moves = true) (q : List Int) (k : Int) : o.node (q ++ [k]) =
    if o.kind = 3 ∧ q ++ [k] = o.path then some (o.go [] o.to ++ [if q = o.to ∧ k < o.gap then o.wr (o.gap - 1) else o.gap])
    else match o.node q, o.child q k with | some r, some n => some (r ++ [n]) | _, _ => none := by
  obtain ⟨hk, hp, hto⟩ := moves_kind hm
  by_cases hw : (o.takes = true ∧ within o.path (q ++ [k]) = true)
  · obtain ⟨ht, hw'⟩ := hw
    have hk1 : o.kind ≠ 1 := by simpa [Sh.takes] using ht
    have hne := hp hk1
    rcases (within_snoc _ _ _).1 hw' with hq | hq
    · -- it is below the node that is taken
      have hnp : ¬ (q ++ [k] = o.path) := fun h => by
        obtain ⟨r, hr⟩ := (within_iff _ _).1 hq
        have := congrArg List.length h
        have h2 := congrArg List.length hr
        simp at this h2; omega
      have hlen : o.path.length ≤ q.length := by
        obtain ⟨r, hr⟩ := (within_iff _ _).1 hq
        have := congrArg List.length hr
        simp at this; omega
      have hnf : q ≠ o.from_ := fun h => by
        have h1 := congrArg List.length (path_split hne)
        rw [← h] at h1
        simp at h1; omega
      rw [if_neg (fun h => hnp h.2)]
      have e1 : o.node (q ++ [k]) = if o.puts then some (o.go [] o.to ++ [o.land] ++ (q ++ [k]).drop o.path.length) else none := by
        unfold Sh.node; rw [if_neg (by simp [hm]), if_pos (by simp [ht, hw'])]
      have e2 : o.node q = if o.puts then some (o.go [] o.to ++ [o.land] ++ q.drop o.path.length) else none := by
        unfold Sh.node; rw [if_neg (by simp [hm]), if_pos (by simp [ht, hq])]
      rw [e1, e2]
      cases hpu : o.puts with
      | false => rfl
      | true =>
        have h3 : o.kind = 3 := by
          have : o.kind ≠ 2 := by simpa [Sh.puts] using hpu
          omega
        have hnt : q ≠ o.to := fun h => by rw [h] at hq; rw [hto h3] at hq; cases hq
        have hc : o.child q k = some k := by
          unfold Sh.child
          rw [if_neg hk1, if_neg (fun h => hnf h.1), if_neg (fun h => hnt h.2.1), if_neg (fun h => hnf h.1)]
        rw [hc]
        simp only [if_true]
        rw [List.drop_append_of_le_length hlen, ← List.append_assoc]
    · -- it is that node
      have h2 := path_split hne
      rw [hq] at h2
      obtain ⟨hf, hn⟩ := List.append_inj' h2 rfl
      have hn : k = o.num := by simpa using hn
      have e1 : o.node (q ++ [k]) = if o.puts then some (o.go [] o.to ++ [o.land] ++ (q ++ [k]).drop o.path.length) else none := by
        unfold Sh.node; rw [if_neg (by simp [hm]), if_pos (by simp [ht, hw'])]
      rw [e1]
      cases hpu : o.puts with
      | false =>
        have h2 : o.kind = 2 := by simpa [Sh.puts] using hpu
        rw [if_neg (by simp), if_neg (fun h : o.kind = 3 ∧ q ++ [k] = o.path => by omega)]
        have hc : o.child q k = none := by unfold Sh.child; rw [if_neg hk1, if_pos ⟨hf, hn⟩]
        rw [hc]
        cases o.node q <;> rfl
      | true =>
        have h3 : o.kind = 3 := by
          have : o.kind ≠ 2 := by simpa [Sh.puts] using hpu
          omega
        rw [if_pos (by simp), if_pos (⟨h3, hq.symm⟩ : o.kind = 3 ∧ q ++ [k] = o.path)]
        have hl : o.land = if q = o.to ∧ k < o.gap then o.wr (o.gap - 1) else o.gap := by
          unfold Sh.land Sh.goal
          rw [if_neg hk1, ← hf, ← hn]
          by_cases h : q = o.to ∧ k < o.gap
          · rw [if_pos h, if_pos ⟨h.2, h.1⟩]
          · rw [if_neg h, if_neg (fun h' => h ⟨h'.2, h'.1⟩)]
        rw [← hl, hq]
        simp
  · -- it stays where its parent is
    have hnp : ¬ (o.kind = 3 ∧ q ++ [k] = o.path) := fun h => hw ⟨by simp [Sh.takes, h.1], by rw [h.2]; exact within_self _⟩
    have hq : ¬ ((o.takes && within o.path q) = true) := fun h => by
      rw [Bool.and_eq_true] at h
      exact hw ⟨h.1, (within_snoc _ _ _).2 (.inl h.2)⟩
    rw [if_neg hnp, child_number hm q k hw]
    have e1 : o.node (q ++ [k]) = some (o.go [] (q ++ [k])) := by
      unfold Sh.node; rw [if_neg (by simp [hm]), if_neg (by simpa using hw)]
    have e2 : o.node q = some (o.go [] q) := by
      unfold Sh.node; rw [if_neg (by simp [hm]), if_neg hq]
    rw [e1, e2, Sh.go_snoc]; rfl
end Go.Proofs.Ytdnjkffmgmbfmaa.Bs
