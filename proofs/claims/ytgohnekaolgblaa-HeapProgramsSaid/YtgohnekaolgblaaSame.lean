/- gimletkit.SameBytes: two lists of bytes are the same. -/
import Derived.Test.YtgohnekaolgblaaProg
import Derived.Test.YtgohnekaolgblaaSees
namespace Go.Proofs.Ytgohnekaolgblaa
open Go.RowKit

theorem sameBytes {va vb : Value} {xs ys : List Int} {w : World} (ha : Sees .u8 w va xs) (hb : Sees .u8 w vb ys) (bx : Byt xs) (bby : Byt ys) (b : Bool) (h : decide (xs = ys) = b) :
    Calls Try.prog 56 #[va, vb] w fun e w' => e = .returned (.bool b) ∧ w = w' := by
  have e1 := run_str (P := Try.prog) (T := 25) (E := 5) (S := 9) Try.underlying25 Try.underlying5 Try.underlying9 ha
  have e2 := run_str (P := Try.prog) (T := 25) (E := 5) (S := 9) Try.underlying25 Try.underlying5 Try.underlying9 hb
  have e3 := str_eq bx bby
  rw [h] at e3
  clear h ha hb
  go_enter Try.func56, Try.ntmps56
  go_wp2
  go_ret
  exact ⟨rfl, rfl⟩

end Go.Proofs.Ytgohnekaolgblaa
