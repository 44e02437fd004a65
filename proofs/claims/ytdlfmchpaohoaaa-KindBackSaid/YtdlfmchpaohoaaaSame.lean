/- gimletkit.SameBytes: two lists of bytes are the same. -/
import Derived.Test.YtdlfmchpaohoaaaProg
import Derived.Test.YtdlfmchpaohoaaaSees
namespace Go.Proofs.Ytdlfmchpaohoaaa
open Go.RowKit

theorem sameBytes {va vb : Value} {xs ys : List Int} {w : World} (ha : Sees .u8 w va xs) (hb : Sees .u8 w vb ys) (bx : Byt xs) (bby : Byt ys) (b : Bool) (h : decide (xs = ys) = b) :
    Calls Try.prog 13 #[va, vb] w fun e w' => e = .returned (.bool b) ∧ w = w' := by
  have e1 := run_str (P := Try.prog) (T := 23) (E := 5) (S := 9) Try.underlying23 Try.underlying5 Try.underlying9 ha
  have e2 := run_str (P := Try.prog) (T := 23) (E := 5) (S := 9) Try.underlying23 Try.underlying5 Try.underlying9 hb
  have e3 := str_eq bx bby
  rw [h] at e3
  clear h ha hb
  go_enter Try.func13, Try.ntmps13
  go_wp2
  go_ret
  exact ⟨rfl, rfl⟩

end Go.Proofs.Ytdlfmchpaohoaaa
