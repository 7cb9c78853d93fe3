/- Lemmas and walks for the claims of chapter 06: Works. No conditions beside those that stand in each lemma. -/
import Derived.Test.YtamkgdkoddoehaaBwAt
import Derived.Test.YtamkgdkoddoehaaBwRefs
import Derived.Test.YtamkgdkoddoehaaBwCount
import Derived.Test.YtamkgdkoddoehaaBwIds2
import Derived.Test.YtamkgdkoddoehaaBwRightIn
namespace Go.Proofs.Ytamkgdkoddoehaa.Bw
open Go.RowKit Go.Shelf
attribute [local go_sem] Oper.semAt_some

theorem count_any (t : Nd) (v : Value) (w : World) (hr : t.rd w v) (hc : t.wt ≤ 1000000) : Calls Try.prog 18 #[v] w (Ret w fun r _ => r = .int .i64 t.cnt) :=
  callsIn_wide.1 (count_in Fence.wide rfl trivial trivial trivial trivial rfl 9 (by omega) t v w hr hc (fun W h => nodes_w 8 W t v h))
theorem depth_any (t : Nd) (v : Value) (w : World) (hr : t.rd w v) (hc : t.wt ≤ 1000000) : Calls Try.prog 20 #[v] w (Ret w fun r _ => r = .int .i64 t.dep) := callsIn_wide.1 (depth_in 9 (by omega) t v w hr hc)
theorem long_any (t : Nd) (v : Value) (w : World) (hr : t.rd w v) (hc : t.wt ≤ 1000000) : Calls Try.prog 22 #[v] w (Ret w fun r _ => r = .int .i64 t.lng) := callsIn_wide.1 (long_in 9 (by omega) t v w hr hc)
theorem ids_any (t : Nd) (v : Value) (w : World) (hr : t.rd w v) (hc : t.wt ≤ 1000000) : Calls Try.prog 16 #[v] w (Ret w fun r w' => w'.ownsRow w.heap.size 22 1 r t.ids.length (t.ids.map (Value.int .u64))) := callsIn_wide.1 (ids_in 9 (by omega) t v w hr hc)

def sx (b : UInt8) : ByteArray := ⟨#[b]⟩
def wX : Nd := .mk 0 true (sx 120) [] ⟨#[104, 105]⟩ []
def wA : Nd := .mk 0 false (sx 97) [] ⟨#[]⟩ [wX]
def wB : Nd := .mk 0 false (sx 98) [] ⟨#[]⟩ []
def wR : Nd := .mk 0 false (sx 114) [] ⟨#[]⟩ [wA, wB]
theorem wR_cnt : wR.cnt = 4 := by simp [wR, wA, wB, wX, Nd.cnt, cntK]
theorem wR_wt : wR.wt ≤ 1000000 := by simp [wR, wA, wB, wX, Nd.wt, wtK, wtA, sx, ByteArray.size]
theorem wR_dep : wR.dep = 2 := by simp [wR, wA, wB, wX, Nd.dep, depK]
theorem wR_lng : wR.lng = 2 := by simp [wR, wA, wB, wX, Nd.lng, lngK, lenA, ByteArray.size]
theorem wR_right : wR.right = true := by simp [wR, wA, wB, wX, Nd.right, Nd.leaf, Nd.rightAll, rightK, Nd.right1, Nd.shape, attrsOk, Nd.label, Nd.text, Nd.kids, Nd.attrs, sx, ByteArray.size]
theorem wR_ids : wR.ids.length = 4 := by rw [Nd.ids_len, wR_cnt]
theorem wR_at0 : wR.at? [0, 0] = some wX := by simp [wR, wA, wB, Nd.at?, Nd.kids]
theorem wR_at1 : wR.at? [2] = none := by simp [wR, wA, wB, Nd.at?, Nd.kids]
theorem wR_at2 : wR.at? [0, 0, 0] = none := by simp [wR, wA, wB, wX, Nd.at?, Nd.kids]
theorem wR_key : keyOk ⟨#[107]⟩ = true := by simp [keyOk, ByteArray.size]

/-- A literal list of ints, laid anew. -/
theorem RdS.lits (W : World) (ty : TypeId) (l : List Int) (hl : l.length ≤ 1000) (cs : Array Value) (hcs : cs = (l.map (Value.int .i64)).toArray) :
    RdS (W.alloc (.cells cs ty)) 1 l.length (l.map (Value.int .i64)) (.slice (some ⟨W.heap.size, 0, none⟩) l.length l.length) := by
  subst hcs
  refine ⟨_, _, rfl, by simp, Nat.le_refl _, by simp [maxLen]; omega, fun _ => ⟨_, 0, rfl, fun j u hu => ?_⟩⟩
  have hb := World.alloc_heap_new W (.cells (l.map (Value.int .i64)).toArray ty)
  rw [Nat.zero_add]
  simp only [World.cell?, hb]
  simpa using hu

theorem NBox.six {W : World} {B : Nat} {t : TypeId} {a b c d e f : Value} (h : NBox W B t #[a, b, c, d, e, f]) :
    W.cell? ⟨B, 0, none⟩ = some a ∧ W.cell? ⟨B, 1, none⟩ = some b ∧ W.cell? ⟨B, 2, none⟩ = some c ∧ W.cell? ⟨B, 3, none⟩ = some d ∧ W.cell? ⟨B, 4, none⟩ = some e ∧ W.cell? ⟨B, 5, none⟩ = some f :=
  ⟨h.cell 0, h.cell 1, h.cell 2, h.cell 3, h.cell 4, h.cell 5⟩

def wRv (g : Nat) : Value := .agg #[.int .u64 0, .bool false, .string ⟨#[114]⟩, .slice none 0 0, .string ⟨#[]⟩, .slice (some ⟨g, 0, none⟩) 2 2]
def xCells : Array Value := #[.int .u64 0, .bool true, .string ⟨#[120]⟩, .slice none 0 0, .string ⟨#[104, 105]⟩, .slice none 0 0]
def abCells (g : Nat) : Array Value := #[.int .u64 0, .bool false, .string ⟨#[97]⟩, .slice none 0 0, .string ⟨#[]⟩, .slice (some ⟨g, 0, none⟩) 1 1,
  .int .u64 0, .bool false, .string ⟨#[98]⟩, .slice none 0 0, .string ⟨#[]⟩, .slice none 0 0]

theorem rdA_nil (w : World) : RdA w [] (.slice none 0 0) := ⟨none, 0, rfl, by simp, by simp [maxLen], fun h => absurd rfl h⟩
theorem rdK_nil (w : World) : RdK w [] (.slice none 0 0) := ⟨none, 0, rfl, by simp, by simp [maxLen], fun h => absurd rfl h⟩
theorem wR_rd (w : World) (W : World) (h : (w.alloc (.cells xCells 26)).alloc (.cells (abCells w.heap.size) 26) = W) : wR.rd W (wRv (w.heap.size + 1)) := by
  have e1 : NBox W (w.heap.size + 1) 26 (abCells w.heap.size) := by
    rw [← h]
    have := NBox.new (w.alloc (.cells xCells 26)) 26 (abCells w.heap.size)
    simpa using this
  have e0 : NBox W w.heap.size 26 xCells := by
    rw [← h]
    exact NBox.ext ((Ext.refl _).alloc _) (NBox.new w 26 xCells)
  have hX : wX.rd W (.agg xCells) := Nd.rd_shut (t := wX) (by simp [wX, Nd.id]) (by simp [wX, Nd.id]) (by simp [wX, Nd.label, sx, maxLen, ByteArray.size]) (by simp [wX, Nd.text, maxLen, ByteArray.size]) (rdA_nil W) (rdK_nil W)
  have hB : wB.rd W (.agg #[.int .u64 0, .bool false, .string ⟨#[98]⟩, .slice none 0 0, .string ⟨#[]⟩, .slice none 0 0]) :=
    Nd.rd_shut (t := wB) (by simp [wB, Nd.id]) (by simp [wB, Nd.id]) (by simp [wB, Nd.label, sx, maxLen, ByteArray.size]) (by simp [wB, Nd.text, maxLen, ByteArray.size]) (rdA_nil W) (rdK_nil W)
  have hA : wA.rd W (.agg #[.int .u64 0, .bool false, .string ⟨#[97]⟩, .slice none 0 0, .string ⟨#[]⟩, .slice (some ⟨w.heap.size, 0, none⟩) 1 1]) :=
    Nd.rd_shut (t := wA) (by simp [wA, Nd.id]) (by simp [wA, Nd.id]) (by simp [wA, Nd.label, sx, maxLen, ByteArray.size]) (by simp [wA, Nd.text, maxLen, ByteArray.size]) (rdA_nil W)
      ⟨_, 1, rfl, by simp [wA, Nd.kids], by simp [maxLen], fun _ => ⟨_, 0, rfl, by
        show rdKids W w.heap.size 0 [wX]
        unfold rdKids
        exact ⟨⟨_, _, _, _, _, _, e0.cell 0, e0.cell 1, e0.cell 2, e0.cell 3, e0.cell 4, e0.cell 5, hX⟩, by unfold rdKids; trivial⟩⟩⟩
  exact Nd.rd_shut (t := wR) (by simp [wR, Nd.id]) (by simp [wR, Nd.id]) (by simp [wR, Nd.label, sx, maxLen, ByteArray.size]) (by simp [wR, Nd.text, maxLen, ByteArray.size]) (rdA_nil W)
      ⟨_, 2, rfl, by simp [wR, Nd.kids], by simp [maxLen], fun _ => ⟨_, 0, rfl, by
        show rdKids W (w.heap.size + 1) 0 [wA, wB]
        unfold rdKids
        refine ⟨⟨_, _, _, _, _, _, e1.cell 0, e1.cell 1, e1.cell 2, e1.cell 3, e1.cell 4, e1.cell 5, hA⟩, ?_⟩
        unfold rdKids
        exact ⟨⟨_, _, _, _, _, _, e1.cell 6, e1.cell 7, e1.cell 8, e1.cell 9, e1.cell 10, e1.cell 11, hB⟩, by unfold rdKids; trivial⟩⟩⟩
end Go.Proofs.Ytamkgdkoddoehaa.Bw
