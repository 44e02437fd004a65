/- gimletkit.SameBytes: two lists of bytes are the same. -/
import Derived.Test.YtdlfmchpaohoaaaDoorProg
import Derived.Test.YtdlfmchpaohoaaaDoorSees
namespace Go.Proofs.YtdlfmchpaohoaaaDoor
open Go.RowKit

theorem sameBytes {va vb : Value} {xs ys : List Int} {w : World} (ha : Sees .u8 w va xs) (hb : Sees .u8 w vb ys) (bx : Byt xs) (bby : Byt ys) (b : Bool) (h : decide (xs = ys) = b) :
    Calls Tryd.prog 24 #[va, vb] w fun e w' => e = .returned (.bool b) ∧ w = w' := by
  have e1 := run_str (P := Tryd.prog) (T := 22) (E := 5) (S := 9) Tryd.underlying22 Tryd.underlying5 Tryd.underlying9 ha
  have e2 := run_str (P := Tryd.prog) (T := 22) (E := 5) (S := 9) Tryd.underlying22 Tryd.underlying5 Tryd.underlying9 hb
  have e3 := str_eq bx bby
  rw [h] at e3
  clear h ha hb
  go_enter Tryd.func24, Tryd.ntmps24
  go_wp2
  go_ret
  exact ⟨rfl, rfl⟩

end Go.Proofs.YtdlfmchpaohoaaaDoor
