/- Chapter 17: what the document says of trees: which may be put, and their bytes. -/
import Derived.Test.YtoplaokimahdiaaWiRef
import Derived.Test.YtoplaokimahdiaaWiTree
import Derived.Test.YtoplaokimahdiaaWiBare
import Derived.Test.YtoplaokimahdiaaWiPutPN
namespace Go.Proofs.Ytoplaokimahdiaa.Wi
open Go.RowKit Go.Proofs.Ytoplaokimahdiaa.Bw

def attrB (a : ByteArray × ByteArray) : List UInt8 := textB a.1 ++ textB a.2
def attrOk (a : ByteArray × ByteArray) : Bool := decide (a.1.size ≤ 64) && decide (a.2.size ≤ 256)
def attrsB (l : List (ByteArray × ByteArray)) : List UInt8 := l.flatMap attrB
theorem attrE_eq (a : ByteArray × ByteArray) : attrE a = if attrOk a then some (attrB a) else none := by
  unfold attrE attrOk attrB
  rw [textE_eq, textE_eq]
  by_cases h : a.1.size ≤ 64 <;> by_cases h' : a.2.size ≤ 256 <;> simp [seqE, h, h']
mutual
/-- A tree's bytes. -/
def nodeB : Nd → List UInt8
  | .mk id leaf lb ats tx ks => num id.toNat ++ flagE leaf ++ textB lb ++ (num ats.length ++ attrsB ats) ++ (if leaf then textB tx else num ks.length ++ kidsB ks)
def kidsB : List Nd → List UInt8
  | [] => []
  | k :: r => nodeB k ++ kidsB r
end
/-- What a node may be, apart from its children. -/
def headOk (d : Nat) : Nd → Bool
  | .mk _ leaf lb ats tx ks => decide (d ≤ 64) && decide (lb.size ≤ 64) && decide (ats.length ≤ 2048) && (if leaf then decide (ks.length = 0) && decide (tx.size ≤ 2048) else decide (tx.size = 0)) && (keysUp ats && ats.all attrOk)
mutual
/-- How many nodes a tree has that may be put; -1: it may not. -/
def mayN (d : Nat) : Nd → Int
  | .mk id leaf lb ats tx ks => if headOk d (.mk id leaf lb ats tx ks) then kidsN (d + 1) 1 ks else -1
def kidsN (d : Nat) (c : Int) : List Nd → Int
  | [] => c
  | k :: r => if mayN d k < 0 ∨ 512 < c + mayN d k then -1 else kidsN d (c + mayN d k) r
end
theorem nodeE_head {d : Nat} {t : Nd} (h : headOk d t = false) : nodeE d t = none := by
  cases t with
  | mk id leaf lb ats tx ks =>
    dsimp only [headOk] at h
    unfold nodeE
    rw [rowE_eq attrE_eq, textE_eq, textE_eq]
    by_cases c1 : d ≤ 64 ∧ (leaf = true → ks.length = 0) ∧ (leaf = false → tx.size = 0) ∧ keysUp ats = true
    · rw [if_pos c1]
      obtain ⟨h1, h2, h3, h4⟩ := c1
      rw [decide_eq_true h1] at h
      rw [h4] at h
      generalize decide (lb.size ≤ 64) = t1 at *
      generalize decide (ats.length ≤ 2048) = t2 at *
      generalize ats.all attrOk = t3 at *
      cases leaf with
      | true =>
        rw [decide_eq_true (h2 rfl)] at h
        generalize decide (tx.size ≤ 2048) = t4 at *
        cases t1 <;> cases t2 <;> cases t3 <;> cases t4 <;> simp [seqE] at h ⊢
      | false =>
        rw [decide_eq_true (h3 rfl)] at h
        cases t1 <;> cases t2 <;> cases t3 <;> simp [seqE] at h ⊢
    · rw [if_neg c1]
theorem nodeE_body {d : Nat} {id : Int} {leaf : Bool} {lb : ByteArray} {ats : List (ByteArray × ByteArray)} {tx : ByteArray} {ks : List Nd} (h : headOk d (.mk id leaf lb ats tx ks) = true) :
    nodeE d (.mk id leaf lb ats tx ks) = if leaf then some (nodeB (.mk id leaf lb ats tx ks)) else if ks.length ≤ 512 then (kidsE (d + 1) ks).map (fun b => num id.toNat ++ flagE leaf ++ textB lb ++ (num ats.length ++ attrsB ats) ++ (num ks.length ++ b)) else none := by
  dsimp only [headOk] at h
  simp only [Bool.and_eq_true, decide_eq_true_eq] at h
  obtain ⟨⟨⟨⟨h1, h2⟩, h3⟩, h4⟩, h5, h6⟩ := h
  unfold nodeE nodeB
  rw [rowE_eq attrE_eq, textE_eq, textE_eq, if_pos (decide_eq_true h2)]
  have e1 : (decide (ats.length ≤ 2048) && ats.all attrOk) = true := by rw [decide_eq_true h3, h6]; rfl
  rw [e1]
  cases leaf with
  | true =>
    simp only [if_true, Bool.and_eq_true, decide_eq_true_eq] at h4
    rw [if_pos ⟨h1, fun _ => h4.1, (fun hh => by cases hh), h5⟩]
    simp [seqE, h4.2, attrsB]
  | false =>
    simp only [Bool.false_eq_true, if_false, decide_eq_true_eq] at h4
    rw [if_pos ⟨h1, (fun hh => by cases hh), fun _ => h4, h5⟩]
    by_cases hl : ks.length ≤ 512
    · cases kidsE (d + 1) ks <;> simp [seqE, hl, attrsB]
    · simp [seqE, hl]
theorem kids_len : ∀ (ks : List Nd), ks.length ≤ cntK ks
  | [] => Nat.zero_le _
  | k :: r => by
    have := kids_len r
    have := Nd.cnt_eq k
    rw [cntK, List.length_cons]
    omega
mutual
theorem mayN_is : ∀ (t : Nd) (d : Nat), (0 ≤ mayN d t → mayN d t = t.cnt ∧ (t.cnt ≤ 512 ∨ t.kids = []) ∧ nodeE d t = some (nodeB t)) ∧ (mayN d t < 0 → 512 < t.cnt ∨ nodeE d t = none)
  | .mk id leaf lb ats tx ks, d => by
    unfold mayN
    cases hh : headOk d (.mk id leaf lb ats tx ks) with
    | false =>
      rw [if_neg (by decide)]
      exact ⟨fun h => absurd h (by decide), fun _ => .inr (nodeE_head hh)⟩
    | true =>
      rw [if_pos rfl, nodeE_body hh]
      obtain ⟨k1, k2⟩ := kidsN_is ks (d + 1) 1 (by decide)
      have hl := kids_len ks
      have hc : Nd.cnt (.mk id leaf lb ats tx ks) = 1 + cntK ks := Nd.cnt_eq _
      constructor
      · intro h
        obtain ⟨h1, h2, h3⟩ := k1 h
        refine ⟨by rw [h1, hc]; omega, ?_, ?_⟩
        · rw [hc]
          rcases h2 with h2 | h2
          · exact .inl (by omega)
          · exact .inr h2
        · cases leaf with
          | true => rfl
          | false =>
            have hl2 : ks.length ≤ 512 := by
              rcases h2 with h2 | h2
              · omega
              · rw [h2]; exact Nat.zero_le _
            rw [if_neg (by decide), if_pos hl2, h3]
            unfold nodeB
            rfl
      · intro h
        have hle : leaf = true → ks = [] := by
          rintro rfl
          dsimp only [headOk] at hh
          simp only [if_true, Bool.and_eq_true, decide_eq_true_eq] at hh
          exact List.length_eq_zero_iff.1 hh.1.2.1
        cases leaf with
        | true =>
          rw [hle rfl] at h
          unfold kidsN at h
          exact absurd h (by decide)
        | false =>
          rcases k2 h with h1 | h1
          · exact .inl (by rw [hc]; omega)
          · refine .inr ?_
            rw [if_neg (by decide), h1]
            split <;> rfl
theorem kidsN_is : ∀ (ks : List Nd) (d : Nat) (c : Int), 0 ≤ c → (0 ≤ kidsN d c ks → kidsN d c ks = c + cntK ks ∧ (c + cntK ks ≤ 512 ∨ ks = []) ∧ kidsE d ks = some (kidsB ks)) ∧ (kidsN d c ks < 0 → 512 < c + cntK ks ∨ kidsE d ks = none)
  | [], d, c, hc => by
    unfold kidsN kidsE kidsB
    rw [cntK]
    exact ⟨fun _ => ⟨by simp, .inr rfl, rfl⟩, fun h => by omega⟩
  | k :: r, d, c, hc => by
    obtain ⟨m1, m2⟩ := mayN_is k d
    unfold kidsN kidsE kidsB
    rw [cntK]
    have hk := Nd.cnt_eq k
    by_cases h0 : mayN d k < 0 ∨ 512 < c + mayN d k
    · rw [if_pos h0]
      refine ⟨fun h => absurd h (by decide), fun _ => ?_⟩
      rcases Int.lt_or_le (mayN d k) 0 with h1 | h1
      · rcases m2 h1 with h2 | h2
        · exact .inl (by omega)
        · rw [h2]; exact .inr rfl
      · have := (m1 h1).1
        exact .inl (by omega)
    · rw [if_neg h0]
      have h1 : 0 ≤ mayN d k := by omega
      have h2 : c + mayN d k ≤ 512 := by omega
      obtain ⟨e1, e2, e3⟩ := m1 h1
      obtain ⟨k1, k2⟩ := kidsN_is r d (c + mayN d k) (by omega)
      rw [e3]
      constructor
      · intro h
        obtain ⟨g1, g2, g3⟩ := k1 h
        rw [g3, seqE_cons]
        refine ⟨by rw [g1, e1]; omega, .inl ?_, ?_⟩
        · rcases g2 with g2 | g2
          · omega
          · rw [g2, cntK]; omega
        · simp [seqE]
      · intro h
        rcases k2 h with g | g
        · exact .inl (by omega)
        · rw [g]; exact .inr rfl
end
/-- What the document puts is what is put. -/
theorem tree_ref (t : Nd) : treeE t = if 0 ≤ mayN 0 t then some (nodeB t) else none := by
  obtain ⟨h1, h2⟩ := mayN_is t 0
  unfold treeE
  by_cases h : 0 ≤ mayN 0 t
  · obtain ⟨e1, e2, e3⟩ := h1 h
    rw [if_pos h, e3]
    rcases e2 with e2 | e2
    · rw [if_pos e2]
    · have := Nd.cnt_eq t
      rw [e2, cntK] at this
      rw [if_pos (by omega)]
  · rw [if_neg h]
    rcases h2 (by omega) with g | g
    · rw [if_neg (by omega)]
    · rw [g]; split <;> rfl
end Go.Proofs.Ytoplaokimahdiaa.Wi
namespace Go.Proofs.Ytoplaokimahdiaa.Wi
open Go.RowKit Go.Proofs.Ytoplaokimahdiaa.Bw Go.Proofs.Ytoplaokimahdiaa.Bs

set_option maxRecDepth 100000 in
theorem smallR_any (n : Int) (w : World) : Calls Try.prog 51 #[.int .i64 n] w fun e w' => e = .returned (.bool (smallB n)) ∧ w = w' := by
  unfold smallB
  rcases Int.lt_or_le n 0 with h | h
  · have t1 : decide ((0 : Int) ≤ n) = false := decide_eq_false (by omega)
    rw [t1]
    go_enter Try.func51, Try.ntmps51
    go_wp2_with fail
    go_ret
    exact ⟨rfl, rfl⟩
  · have t1 : decide ((0 : Int) ≤ n) = true := decide_eq_true h
    rw [t1]
    obtain ⟨t, ht⟩ : ∃ t, decide (n ≤ 1048576) = t := ⟨_, rfl⟩
    rw [ht]
    cases t <;>
    · go_enter Try.func51, Try.ntmps51
      go_wp2_with fail
      go_ret
      exact ⟨rfl, rfl⟩
set_option maxRecDepth 100000 in
theorem flagR_any (f : Bool) (w : World) : Calls Try.prog 55 #[.bool f] w fun e w' => e = .returned (.int .u8 (((if f then 1 else 0 : UInt8).toNat : Nat) : Int)) ∧ w = w' := by
  cases f <;>
  · go_enter Try.func55, Try.ntmps55
    go_wp2_with fail
    go_ret
    exact ⟨rfl, rfl⟩
theorem mayP_at {p : List Int} {i : Nat} {x : Int} (h : p[i]? = some x) : (p.drop i).all smallB = (smallB x && (p.drop (i + 1)).all smallB) := by
  have hlt := (List.getElem?_eq_some_iff.1 h).1
  have hx := (List.getElem?_eq_some_iff.1 h).2
  rw [List.drop_eq_getElem_cons hlt, hx]
  rfl
set_option maxRecDepth 100000 in
set_option maxHeartbeats 1000000 in
theorem mayR_any (p : List Int) (v : Value) (w : World) (h : RdI w p v) : Calls Try.prog 24 #[v] w fun e w' => e = .returned (.bool (mayP p)) ∧ w = w' := by
  obtain ⟨A, c, rfl, _, a1, a2, hcell⟩ := h
  unfold maxLen at a2
  rcases Nat.lt_or_ge 64 p.length with h0 | h0
  · have q : decide ((p.length : Int) ≤ 64) = false := decide_eq_false (by omega)
    have q' : decide ((64 : Int) < (p.length : Int)) = true := decide_eq_true (by omega)
    have e : mayP p = false := by rw [mayP, decide_eq_false (by omega), Bool.false_and]
    rw [e]
    go_enter Try.func24, Try.ntmps24
    go_wp2_with fail
    go_ret
    exact ⟨rfl, rfl⟩
  have q : decide ((p.length : Int) ≤ 64) = true := decide_eq_true (by omega)
  have q' : decide ((64 : Int) < (p.length : Int)) = false := decide_eq_false (by omega)
  go_enter Try.func24, Try.ntmps24
  go_wp2_with fail
  go_loop [3] (fun s => ∃ i : Nat, s = .int .i64 i ∧ i ≤ p.length ∧ Hid ((p.drop i).all smallB = mayP p)) (fun i => p.length - (intOf i).toNat)
  case atStart => exact ⟨0, rfl, Nat.zero_le _, Lib.hid (by rw [mayP, decide_eq_true h0]; rfl)⟩
  case round =>
    obtain ⟨i, rfl, hi, HF⟩ := hrel
    rcases Nat.lt_or_ge i p.length with hlt | hlt
    · obtain ⟨x, hx⟩ : ∃ x, p[i]? = some x := ⟨_, List.getElem?_eq_getElem hlt⟩
      obtain ⟨b0, off, rfl, cells⟩ := hcell (by omega)
      have cx := cells i (.int .i64 x) (by rw [List.getElem?_map, hx]; rfl)
      have q1 : (0 : Int) ≤ (i : Int) := by omega
      have q2 : (i : Int) < (p.length : Int) := by omega
      have hat := mayP_at hx
      have hc := smallR_any x w
      obtain ⟨t, ht⟩ : ∃ t, smallB x = t := ⟨_, rfl⟩
      rw [ht] at hc hat
      have HR := Lib.hid (hat.symm.trans HF.out)
      clear hat ht cells hcell hx HF
      cases t with
      | true =>
        go_wp2_with fail
        refine hc.mono ?_
        clear hc
        rintro e w' ⟨rfl, rfl⟩
        go_wp2_with fail
        go_round
        case rel => exact ⟨i + 1, by go_num, by omega, HR⟩
        case measure => simp [intOf]; omega
      | false =>
        go_wp2_with fail
        refine hc.mono ?_
        clear hc
        rintro e w' ⟨rfl, rfl⟩
        go_wp2_with fail
        go_ret
        rw [← HR.out]
        exact ⟨rfl, rfl⟩
    · have hR : mayP p = true := by rw [← HF.out, List.drop_eq_nil_of_le hlt]; rfl
      have HR := Lib.hid hR
      clear hR HF hcell
      go_wp2_with fail
      go_ret
      rw [HR.out]
      exact ⟨rfl, rfl⟩

/-! ### Rows of bytes, new -/
/-- New bytes, owned. -/
structure New (w0 W : World) (v : Value) (bs : List UInt8) : Prop where
  ext : Ext w0 W
  own : W.ownsRow w0.heap.size 5 1 v bs.length (u8s bs)
theorem New.nil (w : World) : New w w (.slice none 0 0) [] := ⟨Ext.refl w, ⟨rfl, .inl ⟨rfl, rfl⟩⟩⟩
theorem New.more {w0 W W' : World} {v : Value} {bs : List UInt8} (h : New w0 W v bs) (k : Ext W W') : New w0 W' v bs := ⟨h.ext.trans k, owns_ext k h.own⟩
theorem New.app {w0 W W' : World} {v v' : Value} {bs b : List UInt8} (h : New w0 W v bs) (hown : W'.ownsRow w0.heap.size 5 1 v' (bs.length + b.length) (u8s bs ++ u8s b)) (hg : W.grownBy W' v.ownBlock) : New w0 W' v' (bs ++ b) := by
  refine ⟨?_, by rw [List.length_append, u8s_app]; exact hown⟩
  exact Fr.ext h.ext (Fr.grown hg) (fun k hk => owns_base h.own k hk)
theorem New.putR {w0 W : World} {v : Value} {bs : List UInt8} (h : New w0 W v bs) : PutR w0 (some bs) (.returned v) W := ⟨h.ext, v, rfl, h.own⟩
/-- What is told reads as these bytes. -/
theorem rd_of_new {w0 W : World} {v : Value} {bs : List UInt8} (h : W.ownsRow w0.heap.size 5 1 v bs.length (u8s bs)) : RdS W 1 bs.length (u8s bs) v := RdS.of_owns h

theorem u8_add_all : ∀ x : Fin 128, IntKind.u8.wrap (IntKind.u8.wrap ((x.val : Nat) : Int) + 128) = ((x.val + 128 : Nat) : Int) := by decide
end Go.Proofs.Ytoplaokimahdiaa.Wi
