/-
  No cell of these rows narrows 'for every input' (looked for: loops, veiled, ifaces, maps, wideKeys, modest, calm, conditions, laid).
  DERIVED. THE GIVEN ROWS OF THIS SEAT. 8 by the template 'for every input the law returns true; each argument reads behind the call as it read before'; 0 by the template 'total and deterministic' (their statements: YtdlfmchpaohoaaaTotals.lean).
  GIVEN WITH THE SEED: the statements are not yours to turn. If you find one false, say at which input.
  Laid BY PROGRAM, IN A SANDBOX (cutbox-rows.mjs): the forced cells as the released guide's own fill.sh prints them over the translation fa81f8f78aa735e0… (all of the seat's roots in one cut). By AI agents, Wed Nov 11 2026. No macro, syntax, notation, axiom, sorry.
-/
import Derived.Test.YtdlfmchpaohoaaaChecked
import GoSem.Claim
import GoSem.ClaimJoined
import GoSem.ClaimMapViews
import Derived.JoinedTies
import Derived.KernelRfl
namespace Go.Proofs.Ytdlfmchpaohoaaa
/- THE CELL 'sum', in the pinned program and in every row, IS THE sha256 OF THE DUMP (.gsa) THAT YtdlfmchpaohoaaaProg.lean LOADS. Nothing in Lean hashes anything: it is a label: what it is worth is what the hold of that sum in a sandbox is worth. -/
noncomputable def Try.pinned : Pinned := { name := "ytdlfmchpaohoaaa", sum := "fa81f8f78aa735e053936e3fa73f3bb784ec7a9c3ee3514a685fefa87cefa005", checked := Try.checked }
namespace Rows
def none {H : Type} : Left H := { results := [], args := [] }

/-- 'gimletlaw01.LebPuts': WHATEVER THE INPUT: true; the input reads as it did. -/
def lebPutsSpec : ChangeSpec := { name := "lebPuts", fn := fun _ => fun
  | [d] => { results := [.lit (.bool true)], args := [d] }
  | _ => none }
def lebPutsRow : OpenClaim := { program := "ytdlfmchpaohoaaa", sum := "fa81f8f78aa735e053936e3fa73f3bb784ec7a9c3ee3514a685fefa87cefa005", func := "gimlet/gimletlaw01.LebPuts", spec := "lebPuts", unfollowed := true, recurses := true, apart := false }
def LebPutsSaid : Prop := lebPutsRow.holds Try.pinned (OpenSpec.ofChange lebPutsSpec)

/-- ITS FALSE NEIGHBOUR: 'it returns false'. Refute it at one input. -/
def lebPutsWrong : ChangeSpec := { name := "lebPuts", fn := fun _ => fun
  | [d] => { results := [.lit (.bool false)], args := [d] }
  | _ => none }
def LebPutsWrongFalsely : Prop := lebPutsRow.holds Try.pinned (OpenSpec.ofChange lebPutsWrong)

/-- 'gimletlaw01.LebBack': WHATEVER THE INPUT: true; the input reads as it did. -/
def lebBackSpec : ChangeSpec := { name := "lebBack", fn := fun _ => fun
  | [d1, d2, d3] => { results := [.lit (.bool true)], args := [d1, d2, d3] }
  | _ => none }
def lebBackRow : OpenClaim := { program := "ytdlfmchpaohoaaa", sum := "fa81f8f78aa735e053936e3fa73f3bb784ec7a9c3ee3514a685fefa87cefa005", func := "gimlet/gimletlaw01.LebBack", spec := "lebBack", unfollowed := true, recurses := true, apart := false }
def LebBackSaid : Prop := lebBackRow.holds Try.pinned (OpenSpec.ofChange lebBackSpec)

/-- ITS FALSE NEIGHBOUR: 'it returns false'. Refute it at one input. -/
def lebBackWrong : ChangeSpec := { name := "lebBack", fn := fun _ => fun
  | [d1, d2, d3] => { results := [.lit (.bool false)], args := [d1, d2, d3] }
  | _ => none }
def LebBackWrongFalsely : Prop := lebBackRow.holds Try.pinned (OpenSpec.ofChange lebBackWrong)

/-- 'gimletlaw01.LebShort': WHATEVER THE INPUT: true; the input reads as it did. -/
def lebShortSpec : ChangeSpec := { name := "lebShort", fn := fun _ => fun
  | [d1, d2] => { results := [.lit (.bool true)], args := [d1, d2] }
  | _ => none }
def lebShortRow : OpenClaim := { program := "ytdlfmchpaohoaaa", sum := "fa81f8f78aa735e053936e3fa73f3bb784ec7a9c3ee3514a685fefa87cefa005", func := "gimlet/gimletlaw01.LebShort", spec := "lebShort", unfollowed := true, recurses := true, apart := false }
def LebShortSaid : Prop := lebShortRow.holds Try.pinned (OpenSpec.ofChange lebShortSpec)

/-- ITS FALSE NEIGHBOUR: 'it returns false'. Refute it at one input. -/
def lebShortWrong : ChangeSpec := { name := "lebShort", fn := fun _ => fun
  | [d1, d2] => { results := [.lit (.bool false)], args := [d1, d2] }
  | _ => none }
def LebShortWrongFalsely : Prop := lebShortRow.holds Try.pinned (OpenSpec.ofChange lebShortWrong)

/-- 'gimletlaw01.LebKnown': WHATEVER THE INPUT: true; the input reads as it did. -/
def lebKnownSpec : ChangeSpec := { name := "lebKnown", fn := fun _ => fun
  | [] => { results := [.lit (.bool true)], args := [] }
  | _ => none }
def lebKnownRow : OpenClaim := { program := "ytdlfmchpaohoaaa", sum := "fa81f8f78aa735e053936e3fa73f3bb784ec7a9c3ee3514a685fefa87cefa005", func := "gimlet/gimletlaw01.LebKnown", spec := "lebKnown", unfollowed := true, recurses := true, apart := false }
def LebKnownSaid : Prop := lebKnownRow.holds Try.pinned (OpenSpec.ofChange lebKnownSpec)

/-- ITS FALSE NEIGHBOUR: 'it returns false'. Refute it at one input. -/
def lebKnownWrong : ChangeSpec := { name := "lebKnown", fn := fun _ => fun
  | [] => { results := [.lit (.bool false)], args := [] }
  | _ => none }
def LebKnownWrongFalsely : Prop := lebKnownRow.holds Try.pinned (OpenSpec.ofChange lebKnownWrong)

/-- 'gimletlaw04.KindGets': WHATEVER THE INPUT: true; the input reads as it did. -/
def kindGetsSpec : ChangeSpec := { name := "kindGets", fn := fun _ => fun
  | [d1, d2, d3] => { results := [.lit (.bool true)], args := [d1, d2, d3] }
  | _ => none }
def kindGetsRow : OpenClaim := { program := "ytdlfmchpaohoaaa", sum := "fa81f8f78aa735e053936e3fa73f3bb784ec7a9c3ee3514a685fefa87cefa005", func := "gimlet/gimletlaw04.KindGets", spec := "kindGets", unfollowed := true, recurses := true, apart := false }
def KindGetsSaid : Prop := kindGetsRow.holds Try.pinned (OpenSpec.ofChange kindGetsSpec)

/-- ITS FALSE NEIGHBOUR: 'it returns false'. Refute it at one input. -/
def kindGetsWrong : ChangeSpec := { name := "kindGets", fn := fun _ => fun
  | [d1, d2, d3] => { results := [.lit (.bool false)], args := [d1, d2, d3] }
  | _ => none }
def KindGetsWrongFalsely : Prop := kindGetsRow.holds Try.pinned (OpenSpec.ofChange kindGetsWrong)

/-- 'gimletlaw04.KindKnown': WHATEVER THE INPUT: true; the input reads as it did. -/
def kindKnownSpec : ChangeSpec := { name := "kindKnown", fn := fun _ => fun
  | [] => { results := [.lit (.bool true)], args := [] }
  | _ => none }
def kindKnownRow : OpenClaim := { program := "ytdlfmchpaohoaaa", sum := "fa81f8f78aa735e053936e3fa73f3bb784ec7a9c3ee3514a685fefa87cefa005", func := "gimlet/gimletlaw04.KindKnown", spec := "kindKnown", unfollowed := true, recurses := true, apart := false }
def KindKnownSaid : Prop := kindKnownRow.holds Try.pinned (OpenSpec.ofChange kindKnownSpec)

/-- ITS FALSE NEIGHBOUR: 'it returns false'. Refute it at one input. -/
def kindKnownWrong : ChangeSpec := { name := "kindKnown", fn := fun _ => fun
  | [] => { results := [.lit (.bool false)], args := [] }
  | _ => none }
def KindKnownWrongFalsely : Prop := kindKnownRow.holds Try.pinned (OpenSpec.ofChange kindKnownWrong)

/-- 'gimletlaw04.KindPuts': WHATEVER THE INPUT: true; the input reads as it did. -/
def kindPutsSpec : ChangeSpec := { name := "kindPuts", fn := fun _ => fun
  | [d1, d2, d3] => { results := [.lit (.bool true)], args := [d1, d2, d3] }
  | _ => none }
def kindPutsRow : OpenClaim := { program := "ytdlfmchpaohoaaa", sum := "fa81f8f78aa735e053936e3fa73f3bb784ec7a9c3ee3514a685fefa87cefa005", func := "gimlet/gimletlaw04.KindPuts", spec := "kindPuts", unfollowed := true, recurses := true, apart := false }
def KindPutsSaid : Prop := kindPutsRow.holds Try.pinned (OpenSpec.ofChange kindPutsSpec)

/-- ITS FALSE NEIGHBOUR: 'it returns false'. Refute it at one input. -/
def kindPutsWrong : ChangeSpec := { name := "kindPuts", fn := fun _ => fun
  | [d1, d2, d3] => { results := [.lit (.bool false)], args := [d1, d2, d3] }
  | _ => none }
def KindPutsWrongFalsely : Prop := kindPutsRow.holds Try.pinned (OpenSpec.ofChange kindPutsWrong)

/-- 'gimletlaw04.KindBack': WHATEVER THE INPUT: true; the input reads as it did. -/
def kindBackSpec : ChangeSpec := { name := "kindBack", fn := fun _ => fun
  | [d1, d2, d3, d4] => { results := [.lit (.bool true)], args := [d1, d2, d3, d4] }
  | _ => none }
def kindBackRow : OpenClaim := { program := "ytdlfmchpaohoaaa", sum := "fa81f8f78aa735e053936e3fa73f3bb784ec7a9c3ee3514a685fefa87cefa005", func := "gimlet/gimletlaw04.KindBack", spec := "kindBack", unfollowed := true, recurses := true, apart := false }
def KindBackSaid : Prop := kindBackRow.holds Try.pinned (OpenSpec.ofChange kindBackSpec)

/-- ITS FALSE NEIGHBOUR: 'it returns false'. Refute it at one input. -/
def kindBackWrong : ChangeSpec := { name := "kindBack", fn := fun _ => fun
  | [d1, d2, d3, d4] => { results := [.lit (.bool false)], args := [d1, d2, d3, d4] }
  | _ => none }
def KindBackWrongFalsely : Prop := kindBackRow.holds Try.pinned (OpenSpec.ofChange kindBackWrong)

/- THE SECOND FORM. 'bulk': how many values and letters a reading holds, each counted each time it is reached (what is shared counts as often as it is met; a slice's spare places count too). A statement '..UptoSaid' is the law's where the arguments, and the package variables that the reading takes, are together of bulk at most 1048576: NARROWER than '..Said'. Prove '..Said' where nothing that the law and all that it calls make is longer than what came in: it says more and counts as full. Else prove '..UptoSaid'. A law counts once. -/
mutual
def uptoBulk {H : Type} : DataW H → Nat
  | .lit (.string bytes) => bytes.length + 1
  | .lit _ => 1
  | .nil => 1
  | .ptr d => uptoBulk d + 1
  | .slice elems spare => uptoBulkAll elems + uptoBulkAll spare + 1
  | .agg parts => uptoBulkAll parts + 1
  | .iface _ d => uptoBulk d + 1
  | .map entries => uptoBulkEntries entries + 1
  | .held _ => 1
def uptoBulkAll {H : Type} : List (DataW H) → Nat
  | [] => 0
  | d :: r => uptoBulk d + uptoBulkAll r
def uptoBulkEntries {H : Type} : List (Lit × DataW H) → Nat
  | [] => 0
  | x :: r => uptoBulkEntry x + uptoBulkEntries r
def uptoBulkEntry {H : Type} : Lit × DataW H → Nat
  | (.string bytes, d) => bytes.length + uptoBulk d + 1
  | (_, d) => uptoBulk d + 1
 end
def uptoSmall : (H : Type) → List (DataW H) → Bool := fun _ ds => decide (uptoBulkAll ds ≤ 1048576)
def OpenSpec.upto (s : _root_.Go.ChangeSpec) : _root_.Go.OpenSpec := { _root_.Go.OpenSpec.ofChange s with cond := some uptoSmall }

/-- 'gimletlaw01.LebPuts', WHERE WHAT IT READS IS OF BULK AT MOST 1048576: true; the input reads as it did. -/
def lebPutsUptoRow : OpenClaim := { program := "ytdlfmchpaohoaaa", sum := "fa81f8f78aa735e053936e3fa73f3bb784ec7a9c3ee3514a685fefa87cefa005", func := "gimlet/gimletlaw01.LebPuts", spec := "lebPuts", unfollowed := true, recurses := true, apart := false, narrowed := true }
def LebPutsUptoSaid : Prop := lebPutsUptoRow.holds Try.pinned (OpenSpec.upto lebPutsSpec)

/-- 'gimletlaw01.LebBack', WHERE WHAT IT READS IS OF BULK AT MOST 1048576: true; the input reads as it did. -/
def lebBackUptoRow : OpenClaim := { program := "ytdlfmchpaohoaaa", sum := "fa81f8f78aa735e053936e3fa73f3bb784ec7a9c3ee3514a685fefa87cefa005", func := "gimlet/gimletlaw01.LebBack", spec := "lebBack", unfollowed := true, recurses := true, apart := false, narrowed := true }
def LebBackUptoSaid : Prop := lebBackUptoRow.holds Try.pinned (OpenSpec.upto lebBackSpec)

/-- 'gimletlaw01.LebShort', WHERE WHAT IT READS IS OF BULK AT MOST 1048576: true; the input reads as it did. -/
def lebShortUptoRow : OpenClaim := { program := "ytdlfmchpaohoaaa", sum := "fa81f8f78aa735e053936e3fa73f3bb784ec7a9c3ee3514a685fefa87cefa005", func := "gimlet/gimletlaw01.LebShort", spec := "lebShort", unfollowed := true, recurses := true, apart := false, narrowed := true }
def LebShortUptoSaid : Prop := lebShortUptoRow.holds Try.pinned (OpenSpec.upto lebShortSpec)

/-- 'gimletlaw01.LebKnown', WHERE WHAT IT READS IS OF BULK AT MOST 1048576: true; the input reads as it did. -/
def lebKnownUptoRow : OpenClaim := { program := "ytdlfmchpaohoaaa", sum := "fa81f8f78aa735e053936e3fa73f3bb784ec7a9c3ee3514a685fefa87cefa005", func := "gimlet/gimletlaw01.LebKnown", spec := "lebKnown", unfollowed := true, recurses := true, apart := false, narrowed := true }
def LebKnownUptoSaid : Prop := lebKnownUptoRow.holds Try.pinned (OpenSpec.upto lebKnownSpec)

/-- 'gimletlaw04.KindGets', WHERE WHAT IT READS IS OF BULK AT MOST 1048576: true; the input reads as it did. -/
def kindGetsUptoRow : OpenClaim := { program := "ytdlfmchpaohoaaa", sum := "fa81f8f78aa735e053936e3fa73f3bb784ec7a9c3ee3514a685fefa87cefa005", func := "gimlet/gimletlaw04.KindGets", spec := "kindGets", unfollowed := true, recurses := true, apart := false, narrowed := true }
def KindGetsUptoSaid : Prop := kindGetsUptoRow.holds Try.pinned (OpenSpec.upto kindGetsSpec)

/-- 'gimletlaw04.KindKnown', WHERE WHAT IT READS IS OF BULK AT MOST 1048576: true; the input reads as it did. -/
def kindKnownUptoRow : OpenClaim := { program := "ytdlfmchpaohoaaa", sum := "fa81f8f78aa735e053936e3fa73f3bb784ec7a9c3ee3514a685fefa87cefa005", func := "gimlet/gimletlaw04.KindKnown", spec := "kindKnown", unfollowed := true, recurses := true, apart := false, narrowed := true }
def KindKnownUptoSaid : Prop := kindKnownUptoRow.holds Try.pinned (OpenSpec.upto kindKnownSpec)

/-- 'gimletlaw04.KindPuts', WHERE WHAT IT READS IS OF BULK AT MOST 1048576: true; the input reads as it did. -/
def kindPutsUptoRow : OpenClaim := { program := "ytdlfmchpaohoaaa", sum := "fa81f8f78aa735e053936e3fa73f3bb784ec7a9c3ee3514a685fefa87cefa005", func := "gimlet/gimletlaw04.KindPuts", spec := "kindPuts", unfollowed := true, recurses := true, apart := false, narrowed := true }
def KindPutsUptoSaid : Prop := kindPutsUptoRow.holds Try.pinned (OpenSpec.upto kindPutsSpec)

/-- 'gimletlaw04.KindBack', WHERE WHAT IT READS IS OF BULK AT MOST 1048576: true; the input reads as it did. -/
def kindBackUptoRow : OpenClaim := { program := "ytdlfmchpaohoaaa", sum := "fa81f8f78aa735e053936e3fa73f3bb784ec7a9c3ee3514a685fefa87cefa005", func := "gimlet/gimletlaw04.KindBack", spec := "kindBack", unfollowed := true, recurses := true, apart := false, narrowed := true }
def KindBackUptoSaid : Prop := kindBackUptoRow.holds Try.pinned (OpenSpec.upto kindBackSpec)

end Rows
end Go.Proofs.Ytdlfmchpaohoaaa
