/- gimletlaw04.awake: what the document's examples of layer 4 say: true. -/
import Derived.Test.YtdlfmchpaohoaaaKindPutLim
import Derived.Test.YtdlfmchpaohoaaaKindGet
import Derived.Test.YtdlfmchpaohoaaaSame
namespace Go.Proofs.Ytdlfmchpaohoaaa
open Go.RowKit

set_option maxHeartbeats 1000000 in
theorem awake04 (w : World) : Calls Try.prog 27 #[] w fun e w' => e = .returned (.bool true) ∧ Below w.heap.size w w' := by
  have r1 : Kind.getAt [96, 2, 127, 127, 1, 127] 0 = (2, 1, 6, 0, 0) := by decide
  have r2 : Kind.lim 4 10 true 65536 = 0 := by decide
  have r3 : Kind.putLim 4 10 true 65536 = [1, 4, 10] := by decide
  have R1 := Lib.hid r1; clear r1
  have R2 := Lib.hid r2; clear r2
  have R3 := Lib.hid r3; clear r3
  have s1 : ∀ (w : World) (g : Nat), g = w.heap.size → Sees .u8 (w.alloc (.cells #[.int .u8 96, .int .u8 2, .int .u8 127, .int .u8 127, .int .u8 1, .int .u8 127] 5)) (.slice (some ⟨g, 0, none⟩) 6 6) [96, 2, 127, 127, 1, 127] := by
    rintro w g rfl; exact Sees.lit .u8 w 5 [96, 2, 127, 127, 1, 127] 6 (by decide) (by decide)
  have s2 : ∀ (w : World) (g : Nat), g = w.heap.size → Sees .u8 (w.alloc (.cells #[.int .u8 1, .int .u8 4, .int .u8 10] 5)) (.slice (some ⟨g, 0, none⟩) 3 3) [1, 4, 10] := by
    rintro w g rfl; exact Sees.lit .u8 w 5 [1, 4, 10] 3 (by decide) (by decide)
  go_enter Try.func27, Try.ntmps27
  go_wp2_with fail
  refine (kindGet _ _ _ _ (s1 _ _ rfl) (by intro n hn; simp at hn; omega) (by decide)).mono ?_
  rintro e w1 ⟨rfl, b1⟩
  rw [R1.out]
  simp only [tupT]
  have T1 := Lib.hid ((VB.new w1 42 #[.int .i64 2, .int .i64 1]).alloc (.cells #[.int .i64 0, .int .i64 0] 33))
  have F1 := Lib.hid (VB.new (w1.alloc (.cells #[.int .i64 2, .int .i64 1] 42)) 33 #[.int .i64 0, .int .i64 0])
  simp only [World.size_alloc] at F1
  have B1 := Lib.hid (B.alloc (B.alloc (B.call (B.alloc (B.refl w) (.cells #[.int .u8 96, .int .u8 2, .int .u8 127, .int .u8 127, .int .u8 1, .int .u8 127] 5)) b1) (.cells #[.int .i64 2, .int .i64 1] 42)) (.cells #[.int .i64 0, .int .i64 0] 33))
  clear b1
  go_wp2_with fail
  refine (kindPutLim 4 10 65536 true _ (by decide) (by decide) (by decide) (by decide)).mono ?_
  rintro e w2 ⟨⟨v, rfl, o2⟩, b2⟩
  rw [R2.out]
  rw [R3.out] at o2
  have t1 := T1.out.call b2
  have f1 := F1.out.call b2
  have c0 := t1.cell 0
  have c1 := t1.cell 1
  have c2 := t1.lt
  have d0 := f1.cell 0
  have d1 := f1.lt
  simp at c0 c1 d0
  have O2 := Lib.hid o2
  obtain ⟨A, k, rfl, _, _⟩ := o2.len
  have B2 := Lib.hid (B.call B1.out b2)
  clear t1 f1 b2 o2
  go_wp2_with fail
  refine (sameBytes (O2.out.alloc _) (s2 _ _ (by simp)) (by intro n hn; simp at hn; omega) (by intro n hn; simp at hn; omega) true (by decide)).mono ?_
  rintro e w3 ⟨rfl, rfl⟩
  go_wp2_with fail
  go_returns
  exact ⟨rfl, B.alloc B2.out _⟩

end Go.Proofs.Ytdlfmchpaohoaaa
