/-
  NARROWER THAN 'FOR EVERY INPUT', by the rows' own cells (each row's printed sentence says how): WordLays: loops · WordBack: loops · WordApart: loops · HeapValues: loops.
  DERIVED. THE GIVEN ROWS OF THIS SEAT. 13 by the template 'for every input the law returns true; each argument reads behind the call as it read before'; 0 by the template 'total and deterministic' (their statements: YtgohnekaolgblaaTotals.lean).
  GIVEN WITH THE SEED: the statements are not yours to turn. If you find one false, say at which input.
  Laid BY PROGRAM, IN A SANDBOX (cutbox-rows.mjs): the forced cells as the released guide's own fill.sh prints them over the translation 73b041c02c38a76c… (all of the seat's roots in one cut). By AI agents, Wed Nov 11 2026. No macro, syntax, notation, axiom, sorry.
-/
import Derived.Test.YtgohnekaolgblaaChecked
import GoSem.Claim
import GoSem.ClaimJoined
import GoSem.ClaimMapViews
import Derived.JoinedTies
import Derived.KernelRfl
namespace Go.Proofs.Ytgohnekaolgblaa
/- THE CELL 'sum', in the pinned program and in every row, IS THE sha256 OF THE DUMP (.gsa) THAT YtgohnekaolgblaaProg.lean LOADS. Nothing in Lean hashes anything: it is a label: what it is worth is what the hold of that sum in a sandbox is worth. -/
noncomputable def Try.pinned : Pinned := { name := "ytgohnekaolgblaa", sum := "73b041c02c38a76c1f7111f40362a4390bf3e96655a4a16351878f1d730e37cf", checked := Try.checked }
namespace Rows
def none {H : Type} : Left H := { results := [], args := [] }

/-- 'gimletlaw29.HeapPrograms': WHATEVER THE INPUT: true; the input reads as it did. -/
def heapProgramsSpec : ChangeSpec := { name := "heapPrograms", fn := fun _ => fun
  | [d1, d2] => { results := [.lit (.bool true)], args := [d1, d2] }
  | _ => none }
def heapProgramsRow : OpenClaim := { program := "ytgohnekaolgblaa", sum := "73b041c02c38a76c1f7111f40362a4390bf3e96655a4a16351878f1d730e37cf", func := "gimlet/gimletlaw29.HeapPrograms", spec := "heapPrograms", unfollowed := true, recurses := true, apart := false }
def HeapProgramsSaid : Prop := heapProgramsRow.holds Try.pinned (OpenSpec.ofChange heapProgramsSpec)

/-- ITS FALSE NEIGHBOUR: 'it returns false'. Refute it at one input. -/
def heapProgramsWrong : ChangeSpec := { name := "heapPrograms", fn := fun _ => fun
  | [d1, d2] => { results := [.lit (.bool false)], args := [d1, d2] }
  | _ => none }
def HeapProgramsWrongFalsely : Prop := heapProgramsRow.holds Try.pinned (OpenSpec.ofChange heapProgramsWrong)

/-- 'gimletlaw29.HeapMany': WHATEVER THE INPUT: true; the input reads as it did. -/
def heapManySpec : ChangeSpec := { name := "heapMany", fn := fun _ => fun
  | [d1, d2] => { results := [.lit (.bool true)], args := [d1, d2] }
  | _ => none }
def heapManyRow : OpenClaim := { program := "ytgohnekaolgblaa", sum := "73b041c02c38a76c1f7111f40362a4390bf3e96655a4a16351878f1d730e37cf", func := "gimlet/gimletlaw29.HeapMany", spec := "heapMany", unfollowed := true, recurses := true, apart := false }
def HeapManySaid : Prop := heapManyRow.holds Try.pinned (OpenSpec.ofChange heapManySpec)

/-- ITS FALSE NEIGHBOUR: 'it returns false'. Refute it at one input. -/
def heapManyWrong : ChangeSpec := { name := "heapMany", fn := fun _ => fun
  | [d1, d2] => { results := [.lit (.bool false)], args := [d1, d2] }
  | _ => none }
def HeapManyWrongFalsely : Prop := heapManyRow.holds Try.pinned (OpenSpec.ofChange heapManyWrong)

/-- 'gimletlaw29.HeapKnown': WHATEVER THE INPUT: true; the input reads as it did. -/
def heapKnownSpec : ChangeSpec := { name := "heapKnown", fn := fun _ => fun
  | [] => { results := [.lit (.bool true)], args := [] }
  | _ => none }
def heapKnownRow : OpenClaim := { program := "ytgohnekaolgblaa", sum := "73b041c02c38a76c1f7111f40362a4390bf3e96655a4a16351878f1d730e37cf", func := "gimlet/gimletlaw29.HeapKnown", spec := "heapKnown", unfollowed := true, recurses := true, apart := false }
def HeapKnownSaid : Prop := heapKnownRow.holds Try.pinned (OpenSpec.ofChange heapKnownSpec)

/-- ITS FALSE NEIGHBOUR: 'it returns false'. Refute it at one input. -/
def heapKnownWrong : ChangeSpec := { name := "heapKnown", fn := fun _ => fun
  | [] => { results := [.lit (.bool false)], args := [] }
  | _ => none }
def HeapKnownWrongFalsely : Prop := heapKnownRow.holds Try.pinned (OpenSpec.ofChange heapKnownWrong)

/-- 'gimletlaw29.HeapMoves': WHATEVER THE INPUT: true; the input reads as it did. -/
def heapMovesSpec : ChangeSpec := { name := "heapMoves", fn := fun _ => fun
  | [d1, d2, d3, d4, d5] => { results := [.lit (.bool true)], args := [d1, d2, d3, d4, d5] }
  | _ => none }
def heapMovesRow : OpenClaim := { program := "ytgohnekaolgblaa", sum := "73b041c02c38a76c1f7111f40362a4390bf3e96655a4a16351878f1d730e37cf", func := "gimlet/gimletlaw29.HeapMoves", spec := "heapMoves", unfollowed := true, recurses := true, apart := false }
def HeapMovesSaid : Prop := heapMovesRow.holds Try.pinned (OpenSpec.ofChange heapMovesSpec)

/-- ITS FALSE NEIGHBOUR: 'it returns false'. Refute it at one input. -/
def heapMovesWrong : ChangeSpec := { name := "heapMoves", fn := fun _ => fun
  | [d1, d2, d3, d4, d5] => { results := [.lit (.bool false)], args := [d1, d2, d3, d4, d5] }
  | _ => none }
def HeapMovesWrongFalsely : Prop := heapMovesRow.holds Try.pinned (OpenSpec.ofChange heapMovesWrong)

/-- 'gimletlaw27.WordLays': WHATEVER THE INPUT: true; the input reads as it did. -/
def wordLaysSpec : ChangeSpec := { name := "wordLays", fn := fun _ => fun
  | [d1, d2] => { results := [.lit (.bool true)], args := [d1, d2] }
  | _ => none }
def wordLaysRow : OpenClaim := { program := "ytgohnekaolgblaa", sum := "73b041c02c38a76c1f7111f40362a4390bf3e96655a4a16351878f1d730e37cf", func := "gimlet/gimletlaw27.WordLays", spec := "wordLays", unfollowed := true, recurses := true, loops := true, apart := false }
def WordLaysSaid : Prop := wordLaysRow.holds Try.pinned (OpenSpec.ofChange wordLaysSpec)

/-- ITS FALSE NEIGHBOUR: 'it returns false'. Refute it at one input. -/
def wordLaysWrong : ChangeSpec := { name := "wordLays", fn := fun _ => fun
  | [d1, d2] => { results := [.lit (.bool false)], args := [d1, d2] }
  | _ => none }
def WordLaysWrongFalsely : Prop := wordLaysRow.holds Try.pinned (OpenSpec.ofChange wordLaysWrong)

/-- 'gimletlaw27.WordReads': WHATEVER THE INPUT: true; the input reads as it did. -/
def wordReadsSpec : ChangeSpec := { name := "wordReads", fn := fun _ => fun
  | [d1, d2, d3] => { results := [.lit (.bool true)], args := [d1, d2, d3] }
  | _ => none }
def wordReadsRow : OpenClaim := { program := "ytgohnekaolgblaa", sum := "73b041c02c38a76c1f7111f40362a4390bf3e96655a4a16351878f1d730e37cf", func := "gimlet/gimletlaw27.WordReads", spec := "wordReads", unfollowed := true, recurses := true, apart := false }
def WordReadsSaid : Prop := wordReadsRow.holds Try.pinned (OpenSpec.ofChange wordReadsSpec)

/-- ITS FALSE NEIGHBOUR: 'it returns false'. Refute it at one input. -/
def wordReadsWrong : ChangeSpec := { name := "wordReads", fn := fun _ => fun
  | [d1, d2, d3] => { results := [.lit (.bool false)], args := [d1, d2, d3] }
  | _ => none }
def WordReadsWrongFalsely : Prop := wordReadsRow.holds Try.pinned (OpenSpec.ofChange wordReadsWrong)

/-- 'gimletlaw27.WordBack': WHATEVER THE INPUT: true; the input reads as it did. -/
def wordBackSpec : ChangeSpec := { name := "wordBack", fn := fun _ => fun
  | [d1, d2, d3, d4] => { results := [.lit (.bool true)], args := [d1, d2, d3, d4] }
  | _ => none }
def wordBackRow : OpenClaim := { program := "ytgohnekaolgblaa", sum := "73b041c02c38a76c1f7111f40362a4390bf3e96655a4a16351878f1d730e37cf", func := "gimlet/gimletlaw27.WordBack", spec := "wordBack", unfollowed := true, recurses := true, loops := true, apart := false }
def WordBackSaid : Prop := wordBackRow.holds Try.pinned (OpenSpec.ofChange wordBackSpec)

/-- ITS FALSE NEIGHBOUR: 'it returns false'. Refute it at one input. -/
def wordBackWrong : ChangeSpec := { name := "wordBack", fn := fun _ => fun
  | [d1, d2, d3, d4] => { results := [.lit (.bool false)], args := [d1, d2, d3, d4] }
  | _ => none }
def WordBackWrongFalsely : Prop := wordBackRow.holds Try.pinned (OpenSpec.ofChange wordBackWrong)

/-- 'gimletlaw27.WordApart': WHATEVER THE INPUT: true; the input reads as it did. -/
def wordApartSpec : ChangeSpec := { name := "wordApart", fn := fun _ => fun
  | [d1, d2, d3] => { results := [.lit (.bool true)], args := [d1, d2, d3] }
  | _ => none }
def wordApartRow : OpenClaim := { program := "ytgohnekaolgblaa", sum := "73b041c02c38a76c1f7111f40362a4390bf3e96655a4a16351878f1d730e37cf", func := "gimlet/gimletlaw27.WordApart", spec := "wordApart", unfollowed := true, recurses := true, loops := true, apart := false }
def WordApartSaid : Prop := wordApartRow.holds Try.pinned (OpenSpec.ofChange wordApartSpec)

/-- ITS FALSE NEIGHBOUR: 'it returns false'. Refute it at one input. -/
def wordApartWrong : ChangeSpec := { name := "wordApart", fn := fun _ => fun
  | [d1, d2, d3] => { results := [.lit (.bool false)], args := [d1, d2, d3] }
  | _ => none }
def WordApartWrongFalsely : Prop := wordApartRow.holds Try.pinned (OpenSpec.ofChange wordApartWrong)

/-- 'gimletlaw27.WordNumbers': WHATEVER THE INPUT: true; the input reads as it did. -/
def wordNumbersSpec : ChangeSpec := { name := "wordNumbers", fn := fun _ => fun
  | [d1, d2, d3, d4] => { results := [.lit (.bool true)], args := [d1, d2, d3, d4] }
  | _ => none }
def wordNumbersRow : OpenClaim := { program := "ytgohnekaolgblaa", sum := "73b041c02c38a76c1f7111f40362a4390bf3e96655a4a16351878f1d730e37cf", func := "gimlet/gimletlaw27.WordNumbers", spec := "wordNumbers", unfollowed := true, recurses := true, apart := false }
def WordNumbersSaid : Prop := wordNumbersRow.holds Try.pinned (OpenSpec.ofChange wordNumbersSpec)

/-- ITS FALSE NEIGHBOUR: 'it returns false'. Refute it at one input. -/
def wordNumbersWrong : ChangeSpec := { name := "wordNumbers", fn := fun _ => fun
  | [d1, d2, d3, d4] => { results := [.lit (.bool false)], args := [d1, d2, d3, d4] }
  | _ => none }
def WordNumbersWrongFalsely : Prop := wordNumbersRow.holds Try.pinned (OpenSpec.ofChange wordNumbersWrong)

/-- 'gimletlaw27.WordPlans': WHATEVER THE INPUT: true; the input reads as it did. -/
def wordPlansSpec : ChangeSpec := { name := "wordPlans", fn := fun _ => fun
  | [d1, d2] => { results := [.lit (.bool true)], args := [d1, d2] }
  | _ => none }
def wordPlansRow : OpenClaim := { program := "ytgohnekaolgblaa", sum := "73b041c02c38a76c1f7111f40362a4390bf3e96655a4a16351878f1d730e37cf", func := "gimlet/gimletlaw27.WordPlans", spec := "wordPlans", unfollowed := true, recurses := true, apart := false }
def WordPlansSaid : Prop := wordPlansRow.holds Try.pinned (OpenSpec.ofChange wordPlansSpec)

/-- ITS FALSE NEIGHBOUR: 'it returns false'. Refute it at one input. -/
def wordPlansWrong : ChangeSpec := { name := "wordPlans", fn := fun _ => fun
  | [d1, d2] => { results := [.lit (.bool false)], args := [d1, d2] }
  | _ => none }
def WordPlansWrongFalsely : Prop := wordPlansRow.holds Try.pinned (OpenSpec.ofChange wordPlansWrong)

/-- 'gimletlaw27.WordRooms': WHATEVER THE INPUT: true; the input reads as it did. -/
def wordRoomsSpec : ChangeSpec := { name := "wordRooms", fn := fun _ => fun
  | [d1, d2] => { results := [.lit (.bool true)], args := [d1, d2] }
  | _ => none }
def wordRoomsRow : OpenClaim := { program := "ytgohnekaolgblaa", sum := "73b041c02c38a76c1f7111f40362a4390bf3e96655a4a16351878f1d730e37cf", func := "gimlet/gimletlaw27.WordRooms", spec := "wordRooms", unfollowed := true, recurses := true, apart := false }
def WordRoomsSaid : Prop := wordRoomsRow.holds Try.pinned (OpenSpec.ofChange wordRoomsSpec)

/-- ITS FALSE NEIGHBOUR: 'it returns false'. Refute it at one input. -/
def wordRoomsWrong : ChangeSpec := { name := "wordRooms", fn := fun _ => fun
  | [d1, d2] => { results := [.lit (.bool false)], args := [d1, d2] }
  | _ => none }
def WordRoomsWrongFalsely : Prop := wordRoomsRow.holds Try.pinned (OpenSpec.ofChange wordRoomsWrong)

/-- 'gimletlaw27.WordKnown': WHATEVER THE INPUT: true; the input reads as it did. -/
def wordKnownSpec : ChangeSpec := { name := "wordKnown", fn := fun _ => fun
  | [] => { results := [.lit (.bool true)], args := [] }
  | _ => none }
def wordKnownRow : OpenClaim := { program := "ytgohnekaolgblaa", sum := "73b041c02c38a76c1f7111f40362a4390bf3e96655a4a16351878f1d730e37cf", func := "gimlet/gimletlaw27.WordKnown", spec := "wordKnown", unfollowed := true, recurses := true, apart := false }
def WordKnownSaid : Prop := wordKnownRow.holds Try.pinned (OpenSpec.ofChange wordKnownSpec)

/-- ITS FALSE NEIGHBOUR: 'it returns false'. Refute it at one input. -/
def wordKnownWrong : ChangeSpec := { name := "wordKnown", fn := fun _ => fun
  | [] => { results := [.lit (.bool false)], args := [] }
  | _ => none }
def WordKnownWrongFalsely : Prop := wordKnownRow.holds Try.pinned (OpenSpec.ofChange wordKnownWrong)

/-- 'gimletlaw29.HeapValues': WHATEVER THE INPUT: true; the input reads as it did. -/
def heapValuesSpec : ChangeSpec := { name := "heapValues", fn := fun _ => fun
  | [d1, d2, d3] => { results := [.lit (.bool true)], args := [d1, d2, d3] }
  | _ => none }
def heapValuesRow : OpenClaim := { program := "ytgohnekaolgblaa", sum := "73b041c02c38a76c1f7111f40362a4390bf3e96655a4a16351878f1d730e37cf", func := "gimlet/gimletlaw29.HeapValues", spec := "heapValues", unfollowed := true, recurses := true, loops := true, apart := false }
def HeapValuesSaid : Prop := heapValuesRow.holds Try.pinned (OpenSpec.ofChange heapValuesSpec)

/-- ITS FALSE NEIGHBOUR: 'it returns false'. Refute it at one input. -/
def heapValuesWrong : ChangeSpec := { name := "heapValues", fn := fun _ => fun
  | [d1, d2, d3] => { results := [.lit (.bool false)], args := [d1, d2, d3] }
  | _ => none }
def HeapValuesWrongFalsely : Prop := heapValuesRow.holds Try.pinned (OpenSpec.ofChange heapValuesWrong)

/- THE SECOND FORM. 'bulk': how many values and letters a reading holds, each counted each time it is reached (what is shared counts as often as it is met; a slice's spare places count too). A statement '..UptoSaid' is the law's where the arguments, and the package variables that the reading takes, are together of bulk at most 1048576: NARROWER than '..Said'. Prove '..Said' where nothing that the law and all that it calls make is longer than what came in: it says more and counts as full. Else prove '..UptoSaid'. A law counts once. -/
mutual
def uptoBulk {H : Type} : DataW H → Nat
  | .lit (.string bytes) => bytes.length + 1
  | .lit _ => 1
  | .nil => 1
  | .ptr d => uptoBulk d + 1
  | .slice elems spare => uptoBulkAll elems + uptoBulkAll spare + 1
  | .agg parts => uptoBulkAll parts + 1
  | .iface _ d => uptoBulk d + 1
  | .map entries => uptoBulkEntries entries + 1
  | .held _ => 1
def uptoBulkAll {H : Type} : List (DataW H) → Nat
  | [] => 0
  | d :: r => uptoBulk d + uptoBulkAll r
def uptoBulkEntries {H : Type} : List (Lit × DataW H) → Nat
  | [] => 0
  | x :: r => uptoBulkEntry x + uptoBulkEntries r
def uptoBulkEntry {H : Type} : Lit × DataW H → Nat
  | (.string bytes, d) => bytes.length + uptoBulk d + 1
  | (_, d) => uptoBulk d + 1
 end
def uptoSmall : (H : Type) → List (DataW H) → Bool := fun _ ds => decide (uptoBulkAll ds ≤ 1048576)
def OpenSpec.upto (s : _root_.Go.ChangeSpec) : _root_.Go.OpenSpec := { _root_.Go.OpenSpec.ofChange s with cond := some uptoSmall }

/-- 'gimletlaw29.HeapPrograms', WHERE WHAT IT READS IS OF BULK AT MOST 1048576: true; the input reads as it did. -/
def heapProgramsUptoRow : OpenClaim := { program := "ytgohnekaolgblaa", sum := "73b041c02c38a76c1f7111f40362a4390bf3e96655a4a16351878f1d730e37cf", func := "gimlet/gimletlaw29.HeapPrograms", spec := "heapPrograms", unfollowed := true, recurses := true, apart := false, narrowed := true }
def HeapProgramsUptoSaid : Prop := heapProgramsUptoRow.holds Try.pinned (OpenSpec.upto heapProgramsSpec)

/-- 'gimletlaw29.HeapMany', WHERE WHAT IT READS IS OF BULK AT MOST 1048576: true; the input reads as it did. -/
def heapManyUptoRow : OpenClaim := { program := "ytgohnekaolgblaa", sum := "73b041c02c38a76c1f7111f40362a4390bf3e96655a4a16351878f1d730e37cf", func := "gimlet/gimletlaw29.HeapMany", spec := "heapMany", unfollowed := true, recurses := true, apart := false, narrowed := true }
def HeapManyUptoSaid : Prop := heapManyUptoRow.holds Try.pinned (OpenSpec.upto heapManySpec)

/-- 'gimletlaw29.HeapKnown', WHERE WHAT IT READS IS OF BULK AT MOST 1048576: true; the input reads as it did. -/
def heapKnownUptoRow : OpenClaim := { program := "ytgohnekaolgblaa", sum := "73b041c02c38a76c1f7111f40362a4390bf3e96655a4a16351878f1d730e37cf", func := "gimlet/gimletlaw29.HeapKnown", spec := "heapKnown", unfollowed := true, recurses := true, apart := false, narrowed := true }
def HeapKnownUptoSaid : Prop := heapKnownUptoRow.holds Try.pinned (OpenSpec.upto heapKnownSpec)

/-- 'gimletlaw29.HeapMoves', WHERE WHAT IT READS IS OF BULK AT MOST 1048576: true; the input reads as it did. -/
def heapMovesUptoRow : OpenClaim := { program := "ytgohnekaolgblaa", sum := "73b041c02c38a76c1f7111f40362a4390bf3e96655a4a16351878f1d730e37cf", func := "gimlet/gimletlaw29.HeapMoves", spec := "heapMoves", unfollowed := true, recurses := true, apart := false, narrowed := true }
def HeapMovesUptoSaid : Prop := heapMovesUptoRow.holds Try.pinned (OpenSpec.upto heapMovesSpec)

/-- 'gimletlaw27.WordLays', WHERE WHAT IT READS IS OF BULK AT MOST 1048576: true; the input reads as it did. -/
def wordLaysUptoRow : OpenClaim := { program := "ytgohnekaolgblaa", sum := "73b041c02c38a76c1f7111f40362a4390bf3e96655a4a16351878f1d730e37cf", func := "gimlet/gimletlaw27.WordLays", spec := "wordLays", unfollowed := true, recurses := true, loops := true, apart := false, narrowed := true }
def WordLaysUptoSaid : Prop := wordLaysUptoRow.holds Try.pinned (OpenSpec.upto wordLaysSpec)

/-- 'gimletlaw27.WordReads', WHERE WHAT IT READS IS OF BULK AT MOST 1048576: true; the input reads as it did. -/
def wordReadsUptoRow : OpenClaim := { program := "ytgohnekaolgblaa", sum := "73b041c02c38a76c1f7111f40362a4390bf3e96655a4a16351878f1d730e37cf", func := "gimlet/gimletlaw27.WordReads", spec := "wordReads", unfollowed := true, recurses := true, apart := false, narrowed := true }
def WordReadsUptoSaid : Prop := wordReadsUptoRow.holds Try.pinned (OpenSpec.upto wordReadsSpec)

/-- 'gimletlaw27.WordBack', WHERE WHAT IT READS IS OF BULK AT MOST 1048576: true; the input reads as it did. -/
def wordBackUptoRow : OpenClaim := { program := "ytgohnekaolgblaa", sum := "73b041c02c38a76c1f7111f40362a4390bf3e96655a4a16351878f1d730e37cf", func := "gimlet/gimletlaw27.WordBack", spec := "wordBack", unfollowed := true, recurses := true, loops := true, apart := false, narrowed := true }
def WordBackUptoSaid : Prop := wordBackUptoRow.holds Try.pinned (OpenSpec.upto wordBackSpec)

/-- 'gimletlaw27.WordApart', WHERE WHAT IT READS IS OF BULK AT MOST 1048576: true; the input reads as it did. -/
def wordApartUptoRow : OpenClaim := { program := "ytgohnekaolgblaa", sum := "73b041c02c38a76c1f7111f40362a4390bf3e96655a4a16351878f1d730e37cf", func := "gimlet/gimletlaw27.WordApart", spec := "wordApart", unfollowed := true, recurses := true, loops := true, apart := false, narrowed := true }
def WordApartUptoSaid : Prop := wordApartUptoRow.holds Try.pinned (OpenSpec.upto wordApartSpec)

/-- 'gimletlaw27.WordNumbers', WHERE WHAT IT READS IS OF BULK AT MOST 1048576: true; the input reads as it did. -/
def wordNumbersUptoRow : OpenClaim := { program := "ytgohnekaolgblaa", sum := "73b041c02c38a76c1f7111f40362a4390bf3e96655a4a16351878f1d730e37cf", func := "gimlet/gimletlaw27.WordNumbers", spec := "wordNumbers", unfollowed := true, recurses := true, apart := false, narrowed := true }
def WordNumbersUptoSaid : Prop := wordNumbersUptoRow.holds Try.pinned (OpenSpec.upto wordNumbersSpec)

/-- 'gimletlaw27.WordPlans', WHERE WHAT IT READS IS OF BULK AT MOST 1048576: true; the input reads as it did. -/
def wordPlansUptoRow : OpenClaim := { program := "ytgohnekaolgblaa", sum := "73b041c02c38a76c1f7111f40362a4390bf3e96655a4a16351878f1d730e37cf", func := "gimlet/gimletlaw27.WordPlans", spec := "wordPlans", unfollowed := true, recurses := true, apart := false, narrowed := true }
def WordPlansUptoSaid : Prop := wordPlansUptoRow.holds Try.pinned (OpenSpec.upto wordPlansSpec)

/-- 'gimletlaw27.WordRooms', WHERE WHAT IT READS IS OF BULK AT MOST 1048576: true; the input reads as it did. -/
def wordRoomsUptoRow : OpenClaim := { program := "ytgohnekaolgblaa", sum := "73b041c02c38a76c1f7111f40362a4390bf3e96655a4a16351878f1d730e37cf", func := "gimlet/gimletlaw27.WordRooms", spec := "wordRooms", unfollowed := true, recurses := true, apart := false, narrowed := true }
def WordRoomsUptoSaid : Prop := wordRoomsUptoRow.holds Try.pinned (OpenSpec.upto wordRoomsSpec)

/-- 'gimletlaw27.WordKnown', WHERE WHAT IT READS IS OF BULK AT MOST 1048576: true; the input reads as it did. -/
def wordKnownUptoRow : OpenClaim := { program := "ytgohnekaolgblaa", sum := "73b041c02c38a76c1f7111f40362a4390bf3e96655a4a16351878f1d730e37cf", func := "gimlet/gimletlaw27.WordKnown", spec := "wordKnown", unfollowed := true, recurses := true, apart := false, narrowed := true }
def WordKnownUptoSaid : Prop := wordKnownUptoRow.holds Try.pinned (OpenSpec.upto wordKnownSpec)

/-- 'gimletlaw29.HeapValues', WHERE WHAT IT READS IS OF BULK AT MOST 1048576: true; the input reads as it did. -/
def heapValuesUptoRow : OpenClaim := { program := "ytgohnekaolgblaa", sum := "73b041c02c38a76c1f7111f40362a4390bf3e96655a4a16351878f1d730e37cf", func := "gimlet/gimletlaw29.HeapValues", spec := "heapValues", unfollowed := true, recurses := true, loops := true, apart := false, narrowed := true }
def HeapValuesUptoSaid : Prop := heapValuesUptoRow.holds Try.pinned (OpenSpec.upto heapValuesSpec)

end Rows
end Go.Proofs.Ytgohnekaolgblaa
