/- Chapter 10: LxTrans turned to this seat. (Printed by gsyport.py.) -/
import Derived.Test.YtkimbpeapolcbaaSyLxApply
namespace Go.Proofs.Ytkimbpeapolcbaa.Sy
open Go.RowKit Go.Proofs.Ytkimbpeapolcbaa.Bw Go.Proofs.Ytkimbpeapolcbaa.Bs

def trS (prior : Bool) (a b : List Pc) : St := tRun prior ((St.mk (normL a) (normL b) ⟨[], 0⟩ ⟨[], 0⟩).phi + 1) ⟨normL a, normL b, ⟨[], 0⟩, ⟨[], 0⟩⟩
def trE (prior : Bool) (a b : List Pc) : Int := if pcsRight a && pcsRight b then (if pcsRight (trS prior a b).x.l && pcsRight (trS prior a b).y.l then 0 else 3) else 2
def trX (prior : Bool) (a b : List Pc) : List Pc := if trE prior a b = 0 then (trS prior a b).x.l else []
def trY (prior : Bool) (a b : List Pc) : List Pc := if trE prior a b = 0 then (trS prior a b).y.l else []
def posV : Option Value → Nat
  | some (.int _ k) => if 0 < k then 1 else 0
  | _ => 0
def phiAt (w : World) (g : Nat) : Nat → Nat → Nat
  | _, 0 => 0
  | off, n + 1 => posV (w.cell? ⟨g, off, none⟩) + posV (w.cell? ⟨g, off + 1, none⟩) + phiAt w g (off + 3) n
def phiBox (w : World) (B : Nat) : Nat := match w.cell? ⟨B, 0, none⟩ with
  | some (.slice (some a) n _) => phiAt w a.block a.off n
  | _ => 0
theorem phiAt_eq {w : World} {g : Nat} : ∀ {l : List Pc} {off : Nat}, rdPcs w g off l → phiAt w g off l.length = phi l
  | [], _, _ => rfl
  | p :: r, off, ⟨h1, h2, _, _, h5⟩ => by
    show posV _ + posV _ + phiAt w g (off + 3) r.length = phi1 p + phi r
    rw [h1, h2, phiAt_eq h5]
    rfl
theorem phiBox_eq {w : World} {B : Nat} {G : Option Nat} {l : List Pc} (h : RowAt w B G l) : phiBox w B = phi l := by
  obtain ⟨v, hN, A, c, rfl, h1, h2, h3⟩ := h
  have c0 := hN.cell 0
  unfold phiBox
  rw [c0]
  cases l with
  | nil => cases A <;> rfl
  | cons p r =>
    obtain ⟨g, off, cur, _, rfl, _, hr⟩ := h3 (by simp)
    exact phiAt_eq hr
end Go.Proofs.Ytkimbpeapolcbaa.Sy
