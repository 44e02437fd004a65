/- unicode/utf8: ValidRune and DecodeRuneInString, off the shelf. -/
import Derived.Shelf.Small.Utf8
import Derived.Shelf.Unicode.DecodeAny
import Derived.Test.YtdlfmchpaohoaaaDoorNmPlain
import Derived.Test.YtdlfmchpaohoaaaDoorBase
import Derived.Test.YtdlfmchpaohoaaaDoorProg
namespace Go.Proofs.YtdlfmchpaohoaaaDoor
open Go.RowKit Go.Shelf

def ren119 : Ren := ⟨fun x => match x with | 119 => 30 | n => n, fun x => match x with | 21 => 21 | 4 => 4 | n => n, fun x => x⟩

def ren197 : Ren := ⟨fun x => match x with | 197 => 26 | 260 => 36 | n => n,
  fun x => match x with | 9 => 9 | 21 => 21 | 3 => 3 | 4 => 4 | 5 => 5 | 105 => 47 | 119 => 70 | 0 => 0 | 46 => 71 | 139 => 74 | 138 => 73 | n => n,
  fun x => match x with | 3 => 0 | 4 => 1 | n => n⟩

theorem lays119 : Lays.n119 Tryd.prog ren119 :=
  { mixed := by kernel_rfl, f119 := Tryd.func30.trans (congrArg some (by kernel_rfl)),
    t4 := Tryd.underlying4, a4 := Tryd.isAgg4, z4 := Tryd.sizeOf4, v4 := Tryd.zeroValue4,
    t21 := Tryd.underlying21, a21 := Tryd.isAgg21, z21 := Tryd.sizeOf21, v21 := Tryd.zeroValue21 }

set_option maxRecDepth 100000 in
theorem lays197 : Lays.n197 Tryd.prog ren197 :=
  { mixed := by kernel_rfl, f197 := Tryd.func26.trans (congrArg some (by kernel_rfl)), f260 := Tryd.func36.trans (congrArg some (by kernel_rfl)),
    t0 := Tryd.underlying0, a0 := Tryd.isAgg0, z0 := Tryd.sizeOf0, v0 := Tryd.zeroValue0, t3 := Tryd.underlying3, a3 := Tryd.isAgg3, z3 := Tryd.sizeOf3, v3 := Tryd.zeroValue3,
    t4 := Tryd.underlying4, a4 := Tryd.isAgg4, z4 := Tryd.sizeOf4, v4 := Tryd.zeroValue4, t5 := Tryd.underlying5, a5 := Tryd.isAgg5, z5 := Tryd.sizeOf5, v5 := Tryd.zeroValue5,
    t9 := Tryd.underlying9, a9 := Tryd.isAgg9, z9 := Tryd.sizeOf9, v9 := Tryd.zeroValue9, t21 := Tryd.underlying21, a21 := Tryd.isAgg21, z21 := Tryd.sizeOf21, v21 := Tryd.zeroValue21,
    t46 := Tryd.underlying71, a46 := Tryd.isAgg71, z46 := Tryd.sizeOf71, v46 := Tryd.zeroValue71, t105 := Tryd.underlying47, a105 := Tryd.isAgg47, z105 := Tryd.sizeOf47, v105 := Tryd.zeroValue47,
    t119 := Tryd.underlying70, a119 := Tryd.isAgg70, z119 := Tryd.sizeOf70, t138 := Tryd.underlying73, a138 := Tryd.isAgg73, z138 := Tryd.sizeOf73, v138 := Tryd.zeroValue73,
    t139 := Tryd.underlying74, a139 := Tryd.isAgg74, z139 := Tryd.sizeOf74, v139 := Tryd.zeroValue74,
    g3 := by kernel_rfl, g4 := by kernel_rfl }

/-- The tables of unicode/utf8 stand where start-up lays them. -/
def Tabs (w : World) : Prop := Lib.Utf8Tabs 0 1 w

theorem Tabs.below {w w' : World} (h : Tabs w) (hb : Below w.heap.size w w') : Tabs w' := Utf8Tabs_below h hb
theorem Tabs.alloc {w : World} (h : Tabs w) (o : Obj) : Tabs (w.alloc o) := h.below ((Below.refl _ _).alloc (Nat.le_refl _) o)

theorem validRune (r : Int) (w : World) : Calls Tryd.prog 30 #[.int .i32 r] w fun e w' => e = .returned (.bool (Lib.validRune r)) ∧ w' = w := Any.utf8_ValidRune lays119 r w

theorem decodeRune (s : ByteArray) (w : World) (hT : Tabs w) :
    Calls Tryd.prog 26 #[.string s] w fun e w' => e = .returned (.tuple #[.int .i32 (Lib.decodeGo s).1, .int .i64 (Lib.decodeGo s).2]) ∧ Below w.heap.size w w' := Any.utf8_DecodeRuneInString lays197 s w hT

end Go.Proofs.YtdlfmchpaohoaaaDoor
