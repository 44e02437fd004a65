/-
  DERIVED. GIVEN WITH THE SEED: THE CARDS: each row of YtdlfmchpaohoaaaDoorRows.lean that lists a variable, with what it lists TIED to the program's text (the seventh form; the later family's looks); each row that meets fmt, with fmt's text TOLD by the authors' own Lean function (tested against real Go, not proved from fmt's source: count such statements apart). THE CARD IS WHAT COUNTS. Prove the row's statement (the work); the ties are given (YtdlfmchpaohoaaaDoorTie.lean); close each card by the builder's one call (the guide's Derived/Test/ToyasCard.lean, 'card_holds'). Laid BY PROGRAM, IN A SANDBOX (cutbox-door.mjs). By AI agents, Wed Nov 11 2026. No macro, syntax, notation, axiom, sorry.
-/
import Derived.Test.YtdlfmchpaohoaaaDoorRows
import GoSem.ClaimSeven
namespace Go.Proofs.YtdlfmchpaohoaaaDoor
namespace Rows

/-- THE TIED CARD OF 'gimletlaw02.NameRunes'. -/
def nameRunesCard : Claim7 := { stood := { row := nameRunesRow, standIns := [], harness := (true, "72f3b1d879a37497835ac01d243cb198b6235a7e2ac4337639869f80e89e1fdd"), looks := false }, kinds := [], alts := [], laidByText := true, laidKinds := [.data, .pinned], laidTests := true, laidLooks := .later }
def NameRunesCardSaid : Prop := Claim7.holds Tryd.pinned (.plain (OpenSpec.ofChange nameRunesSpec)) nameRunesCard

/-- THE TIED CARD OF 'gimletlaw02.NameGets'. -/
def nameGetsCard : Claim7 := { stood := { row := nameGetsRow, standIns := [], harness := (true, "72f3b1d879a37497835ac01d243cb198b6235a7e2ac4337639869f80e89e1fdd"), looks := false }, kinds := [], alts := [], laidByText := true, laidKinds := [.data, .pinned], laidTests := true, laidLooks := .later }
def NameGetsCardSaid : Prop := Claim7.holds Tryd.pinned (.plain (OpenSpec.ofChange nameGetsSpec)) nameGetsCard

/-- THE TIED CARD OF 'gimletlaw02.NameLong'. -/
def nameLongCard : Claim7 := { stood := { row := nameLongRow, standIns := [], harness := (true, "72f3b1d879a37497835ac01d243cb198b6235a7e2ac4337639869f80e89e1fdd"), looks := false }, kinds := [], alts := [], laidByText := true, laidKinds := [.data, .pinned], laidTests := true, laidLooks := .later }
def NameLongCardSaid : Prop := Claim7.holds Tryd.pinned (.plain (OpenSpec.ofChange nameLongSpec)) nameLongCard

/-- THE TIED CARD OF 'gimletlaw02.NameMakes'. -/
def nameMakesCard : Claim7 := { stood := { row := nameMakesRow, standIns := [], harness := (true, "72f3b1d879a37497835ac01d243cb198b6235a7e2ac4337639869f80e89e1fdd"), looks := false }, kinds := [], alts := [], laidByText := true, laidKinds := [.data, .pinned], laidTests := true, laidLooks := .later }
def NameMakesCardSaid : Prop := Claim7.holds Tryd.pinned (.plain (OpenSpec.ofChange nameMakesSpec)) nameMakesCard

/-- THE TIED CARD OF 'gimletlaw02.NameBack'. -/
def nameBackCard : Claim7 := { stood := { row := nameBackRow, standIns := [], harness := (true, "72f3b1d879a37497835ac01d243cb198b6235a7e2ac4337639869f80e89e1fdd"), looks := false }, kinds := [], alts := [], laidByText := true, laidKinds := [.data, .pinned], laidTests := true, laidLooks := .later }
def NameBackCardSaid : Prop := Claim7.holds Tryd.pinned (.plain (OpenSpec.ofChange nameBackSpec)) nameBackCard

/-- THE TIED CARD OF 'gimletlaw02.NameKnown'. -/
def nameKnownCard : Claim7 := { stood := { row := nameKnownRow, standIns := [], harness := (true, "72f3b1d879a37497835ac01d243cb198b6235a7e2ac4337639869f80e89e1fdd"), looks := false }, kinds := [], alts := [], laidByText := true, laidKinds := [.data, .pinned], laidTests := true, laidLooks := .later }
def NameKnownCardSaid : Prop := Claim7.holds Tryd.pinned (.plain (OpenSpec.ofChange nameKnownSpec)) nameKnownCard

/-- THE SECOND FORM's CARD OF 'gimletlaw02.NameRunes'. -/
def nameRunesUptoCard : Claim7 := { stood := { row := nameRunesUptoRow, standIns := [], harness := (true, "72f3b1d879a37497835ac01d243cb198b6235a7e2ac4337639869f80e89e1fdd"), looks := false }, kinds := [], alts := [], laidByText := true, laidKinds := [.data, .pinned], laidTests := true, laidLooks := .later }
def NameRunesUptoCardSaid : Prop := Claim7.holds Tryd.pinned (.plain (OpenSpec.upto nameRunesSpec)) nameRunesUptoCard

/-- THE SECOND FORM's CARD OF 'gimletlaw02.NameGets'. -/
def nameGetsUptoCard : Claim7 := { stood := { row := nameGetsUptoRow, standIns := [], harness := (true, "72f3b1d879a37497835ac01d243cb198b6235a7e2ac4337639869f80e89e1fdd"), looks := false }, kinds := [], alts := [], laidByText := true, laidKinds := [.data, .pinned], laidTests := true, laidLooks := .later }
def NameGetsUptoCardSaid : Prop := Claim7.holds Tryd.pinned (.plain (OpenSpec.upto nameGetsSpec)) nameGetsUptoCard

/-- THE SECOND FORM's CARD OF 'gimletlaw02.NameLong'. -/
def nameLongUptoCard : Claim7 := { stood := { row := nameLongUptoRow, standIns := [], harness := (true, "72f3b1d879a37497835ac01d243cb198b6235a7e2ac4337639869f80e89e1fdd"), looks := false }, kinds := [], alts := [], laidByText := true, laidKinds := [.data, .pinned], laidTests := true, laidLooks := .later }
def NameLongUptoCardSaid : Prop := Claim7.holds Tryd.pinned (.plain (OpenSpec.upto nameLongSpec)) nameLongUptoCard

/-- THE SECOND FORM's CARD OF 'gimletlaw02.NameMakes'. -/
def nameMakesUptoCard : Claim7 := { stood := { row := nameMakesUptoRow, standIns := [], harness := (true, "72f3b1d879a37497835ac01d243cb198b6235a7e2ac4337639869f80e89e1fdd"), looks := false }, kinds := [], alts := [], laidByText := true, laidKinds := [.data, .pinned], laidTests := true, laidLooks := .later }
def NameMakesUptoCardSaid : Prop := Claim7.holds Tryd.pinned (.plain (OpenSpec.upto nameMakesSpec)) nameMakesUptoCard

/-- THE SECOND FORM's CARD OF 'gimletlaw02.NameBack'. -/
def nameBackUptoCard : Claim7 := { stood := { row := nameBackUptoRow, standIns := [], harness := (true, "72f3b1d879a37497835ac01d243cb198b6235a7e2ac4337639869f80e89e1fdd"), looks := false }, kinds := [], alts := [], laidByText := true, laidKinds := [.data, .pinned], laidTests := true, laidLooks := .later }
def NameBackUptoCardSaid : Prop := Claim7.holds Tryd.pinned (.plain (OpenSpec.upto nameBackSpec)) nameBackUptoCard

/-- THE SECOND FORM's CARD OF 'gimletlaw02.NameKnown'. -/
def nameKnownUptoCard : Claim7 := { stood := { row := nameKnownUptoRow, standIns := [], harness := (true, "72f3b1d879a37497835ac01d243cb198b6235a7e2ac4337639869f80e89e1fdd"), looks := false }, kinds := [], alts := [], laidByText := true, laidKinds := [.data, .pinned], laidTests := true, laidLooks := .later }
def NameKnownUptoCardSaid : Prop := Claim7.holds Tryd.pinned (.plain (OpenSpec.upto nameKnownSpec)) nameKnownUptoCard
end Rows
end Go.Proofs.YtdlfmchpaohoaaaDoor
