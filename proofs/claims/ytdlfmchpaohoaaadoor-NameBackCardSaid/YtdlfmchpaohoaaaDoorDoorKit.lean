/- What the six cards share: the two tables of unicode/utf8, out of what the row lists. -/
import Derived.Test.YtdlfmchpaohoaaaDoorRows
import Derived.Test.YtdlfmchpaohoaaaDoorUtf8
import Derived.Lib.LaidU8
import Derived.WalkKit
import Derived.ProofKit
import Derived.OpenShut
import Derived.ShutString
import Derived.ChangeOld
import Derived.LaidMore
import Derived.Lay
import Derived.SevenTiedAt
import Derived.Stop.Joined
import Derived.Below
namespace Go.Proofs.YtdlfmchpaohoaaaDoor
open Go.RowKit Go.Shelf

theorem own : ownKnob Tryd.prog.godebug = none := by kernel_rfl
theorem laidOut : laidOutB Tryd.prog = true := by kernel_rfl

theorem lays260 : Lays.n260 Tryd.prog ren197 := { lays197 with }

theorem u8extra : U8Extra Tryd.prog ren197 :=
  { n3 := by kernel_rfl, n4 := by kernel_rfl, y3 := by kernel_rfl, y4 := by kernel_rfl, c5 := by kernel_rfl, c119 := by kernel_rfl, c138 := by kernel_rfl }

set_option maxRecDepth 100000 in
theorem first_eq : Rows.laid_unicode_utf8_first = Lib.firstData := by kernel_rfl
set_option maxRecDepth 100000 in
theorem accept_eq : (Rows.laid_unicode_utf8_acceptRanges : DataW Unit) = Lib.acceptData := by kernel_rfl

theorem tabs_of_laid {W : World} {L : List (String × DataW Unit)} (h : laidMetH Tryd.prog L W) (hL : L = [("unicode/utf8.acceptRanges", Rows.laid_unicode_utf8_acceptRanges), ("unicode/utf8.first", Rows.laid_unicode_utf8_first)]) : Tabs W := by
  subst hL
  rw [MakeChecks.laidMetH_plain _ _ _ (by kernel_rfl)] at h
  obtain ⟨ps, hps, _⟩ := h
  rw [first_eq, accept_eq] at hps
  have h3 := Lib.LaidVars_reads hps "unicode/utf8.first" Lib.firstData (by simp)
  have h4 := Lib.LaidVars_reads hps "unicode/utf8.acceptRanges" Lib.acceptData (by simp)
  exact utf8Tabs_of_reads lays260 u8extra h3 h4

end Go.Proofs.YtdlfmchpaohoaaaDoor
