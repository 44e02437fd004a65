/- What value tells, laid open. -/
import Derived.Test.YtgohnekaolgblaaRdValB
import Derived.Test.YtgohnekaolgblaaTrCopy
namespace Go.Proofs.Ytgohnekaolgblaa
open Go.RowKit

def ValRes (r : Option (Tr × Nat × Nat)) (t : Tr) (nx m : Nat) (bd : Bool) : Prop :=
  match r with
  | none => bd = true
  | some (t', nx', m') => bd = false ∧ t' = t ∧ nx' = nx ∧ m' = m

theorem ValPost.out {w : World} {br : Nat} {vl : Value} {a : Int} {r : Option (Tr × Nat × Nat)} {e : Ending} {w' : World} (h : ValPost w br vl a r e w') :
    ∃ v t nx m bd, e = .returned v ∧ Tr.at (fun b off => w.heap.size ≤ b ∧ b < w'.heap.size ∧ Fresh w' b off) w' t v ∧ VB w' br 114 (Rd5 vl a nx m bd) ∧ GrowS (fun k => k = br) w w' ∧ ValRes r t nx m bd := h

theorem Wd.rdAcc_none {f : Int → Nat → Nat → Option (Tr × Nat × Nat)} {own : List Int} {i : Nat} (hi : i < own.length) {ts : List Tr} {nx m : Nat} (h : f own[i] nx m = none) : Wd.rdAcc f (own.drop i) ts nx m = none := by
  rw [List.drop_eq_getElem_cons hi, Wd.rdAcc, h]
theorem Wd.rdAcc_some {f : Int → Nat → Nat → Option (Tr × Nat × Nat)} {own : List Int} {i : Nat} (hi : i < own.length) {ts : List Tr} {nx m : Nat} {t : Tr} {n' m' : Nat} (h : f own[i] nx m = some (t, n', m')) : Wd.rdAcc f (own.drop i) ts nx m = Wd.rdAcc f (own.drop (i + 1)) (ts ++ [t]) n' m' := by
  rw [List.drop_eq_getElem_cons hi, Wd.rdAcc, h]

end Go.Proofs.Ytgohnekaolgblaa
