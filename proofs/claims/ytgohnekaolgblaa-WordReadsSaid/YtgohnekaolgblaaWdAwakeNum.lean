/- What the chapter's examples say: closed. -/
import Derived.Test.YtgohnekaolgblaaWdPair
import Derived.Test.YtgohnekaolgblaaWdLay
import Derived.Test.YtgohnekaolgblaaRdPlain
namespace Go.Proofs.Ytgohnekaolgblaa
open Go.RowKit

def Wd.pairW : List Int := [65553, 11, 28, 21, 25185]
theorem Wd.pair_chk : Wd.chk Wd.pairT = 0 := by
  have h : Wd.pairT.fine = true := by
    simp [Wd.pairT, Tr.fine, Tr.fines, Wd.may]
    decide
  unfold Wd.chk
  rw [if_neg (by decide), h, if_neg (by decide)]
theorem Wd.pair_words : Wd.pairT.words 16 = Wd.pairW := by kernel_rfl
theorem Wd.pair_word : Wd.pairT.word 16 = 16 := by kernel_rfl
theorem Wd.lay_pair : Wd.lay Wd.pairT 16 = (Wd.pairW, 16, 0) := by
  unfold Wd.lay
  rw [if_neg (by decide), if_neg (by rw [Wd.pair_chk]; decide), Wd.pair_words, Wd.pair_word]
theorem Wd.rd_pair : Wd.rd Wd.pairW 16 200 16 0 0 = some (Wd.pairT, 5, 3) := by kernel_rfl

end Go.Proofs.Ytgohnekaolgblaa
