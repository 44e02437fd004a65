/- gimletlaw02.awake: what the document's examples of layer 2 say: true. -/
import Derived.Test.YtdlfmchpaohoaaaDoorNmGet
import Derived.Test.YtdlfmchpaohoaaaDoorInts
namespace Go.Proofs.YtdlfmchpaohoaaaDoor
open Go.RowKit

theorem Nm.RunesOut.ok {xs : List Int} {e : Ending} {w : World} (h : Nm.RunesOut xs e w) (hb : Nm.badAt xs = -1) : ∃ v, e = .returned (.tuple #[v, .agg #[.int .i64 0, .int .i64 0]]) ∧ Sees .i64 w v (Nm.runesFrom xs xs.length 0) := by
  rcases h with ⟨_, h⟩ | ⟨⟨a, h⟩, _⟩
  · exact h
  · omega

theorem Nm.RunesOut.no {xs : List Int} {e : Ending} {w : World} (h : Nm.RunesOut xs e w) (hb : ¬ Nm.badAt xs = -1) : e = .returned (.tuple #[.slice none 0 0, .agg #[.int .i64 4, .int .i64 (Nm.badAt xs)]]) := by
  rcases h with ⟨h, _⟩ | ⟨_, h⟩
  · exact absurd h hb
  · exact h

set_option maxHeartbeats 2000000 in
theorem awake02 (w : World) (hT : Tabs w) : Calls Tryd.prog 16 #[] w fun e w' => e = .returned (.bool true) ∧ Below w.heap.size w w' := by
  have r1 : Nm.badAt [97, 226, 130, 172] = -1 := by decide
  have r2 : Nm.runesFrom [97, 226, 130, 172] 4 0 = [97, 8364] := by decide
  have r3 : Nm.getAt [2, 97, 98, 9] 0 = ([97, 98], 3, 0, 0) := by decide
  have r4 : Nm.badAt [97, 195] = 1 := by decide
  have r5 : str [97, 98] = ⟨#[97, 98]⟩ := by rfl
  have R1 := Lib.hid r1; clear r1
  have R2 := Lib.hid r2; clear r2
  have R3 := Lib.hid r3; clear r3
  have R4 := Lib.hid r4; clear r4
  have R5 := Lib.hid r5; clear r5
  have HT := Lib.hid hT; clear hT
  have s1 : ∀ (w : World) (g : Nat), g = w.heap.size → Sees .u8 (w.alloc (.cells #[.int .u8 97, .int .u8 226, .int .u8 130, .int .u8 172] 5)) (.slice (some ⟨g, 0, none⟩) 4 4) [97, 226, 130, 172] := by
    rintro w g rfl; exact Sees.lit .u8 w 5 [97, 226, 130, 172] 4 (by decide) (by decide)
  have s2 : ∀ (w : World) (g : Nat), g = w.heap.size → Sees .u8 (w.alloc (.cells #[.int .u8 2, .int .u8 97, .int .u8 98, .int .u8 9] 5)) (.slice (some ⟨g, 0, none⟩) 4 4) [2, 97, 98, 9] := by
    rintro w g rfl; exact Sees.lit .u8 w 5 [2, 97, 98, 9] 4 (by decide) (by decide)
  have s3 : ∀ (w : World) (g : Nat), g = w.heap.size → Sees .i64 (w.alloc (.cells #[.int .i64 97, .int .i64 8364] 3)) (.slice (some ⟨g, 0, none⟩) 2 2) [97, 8364] := by
    rintro w g rfl; exact Sees.lit .i64 w 3 [97, 8364] 2 (by decide) (by decide)
  have s4 : ∀ (w : World) (g : Nat), g = w.heap.size → Sees .u8 (w.alloc (.cells #[.int .u8 97, .int .u8 195] 5)) (.slice (some ⟨g, 0, none⟩) 2 2) [97, 195] := by
    rintro w g rfl; exact Sees.lit .u8 w 5 [97, 195] 2 (by decide) (by decide)
  go_enter Tryd.func16, Tryd.ntmps16
  go_wp2_with fail
  refine (nmRunes _ _ _ (s1 _ _ rfl) (by intro n hn; simp at hn; omega) (HT.out.alloc _) (by decide)).mono ?_
  rintro _ w1 ⟨ho, b1⟩
  obtain ⟨v1, rfl, o1⟩ := ho.ok R1.out
  rw [show ([97, 226, 130, 172] : List Int).length = 4 from rfl, R2.out] at o1
  obtain ⟨A1, k1, rfl, _, _⟩ := o1.len
  have T1 := Lib.hid ((HT.out.alloc _).below b1)
  have F1 := Lib.hid (VB.new w1 27 #[.int .i64 0, .int .i64 0])
  have B1 := Lib.hid (B.call (B.alloc (B.refl w) _) b1)
  have O1 := Lib.hid o1
  clear b1 o1 ho
  go_wp2_with fail
  refine (nmGet _ _ _ _ (s2 _ _ (by simp)) (by intro n hn; simp at hn; omega) ((T1.out.alloc _).alloc _) (by decide)).mono ?_
  rintro _ w2 ⟨rfl, b2⟩
  rw [R3.out]
  simp only [tupN]
  rw [R5.out]
  have F2 := Lib.hid ((F1.out.alloc (.cells #[.int .u8 2, .int .u8 97, .int .u8 98, .int .u8 9] 5)).call b2)
  have c0 := F2.out.cell 0
  have c1 := F2.out.lt
  simp at c0
  have T2 := Lib.hid (((T1.out.alloc _).alloc _).below b2)
  have O2 := Lib.hid (((O1.out.alloc (.cells #[.int .i64 0, .int .i64 0] 27)).alloc (.cells #[.int .u8 2, .int .u8 97, .int .u8 98, .int .u8 9] 5)).below b2 (Nat.le_refl _))
  have B2 := Lib.hid (B.call (B.alloc (B.alloc B1.out (.cells #[.int .i64 0, .int .i64 0] 27)) (.cells #[.int .u8 2, .int .u8 97, .int .u8 98, .int .u8 9] 5)) b2)
  clear b2
  go_wp2_with fail
  refine (sameInts _ _ [97, 8364] _ ((O2.out.alloc (.cells #[.int .i64 0, .int .i64 0] 27)).alloc _) (s3 _ _ (by simp)) (by decide)).mono ?_
  rintro _ w3 ⟨rfl, b3⟩
  have e0 := cellK b3 (cellA (cellN0 w2 (.int .i64 0) (.int .i64 0) 27) (.cells #[.int .i64 97, .int .i64 8364] 3))
  have T3 := Lib.hid (((T2.out.alloc _).alloc _).below b3)
  have B3 := Lib.hid (B.call (B.alloc (B.alloc B2.out (.cells #[.int .i64 0, .int .i64 0] 27)) (.cells #[.int .i64 97, .int .i64 8364] 3)) b3)
  clear b3
  go_wp2_with fail
  refine (nmBadAt _ _ _ (s4 _ _ (by simp)) (by intro n hn; simp at hn; omega) (T3.out.alloc _) (by decide)).mono ?_
  rintro _ w4 ⟨rfl, b4⟩
  rw [R4.out]
  go_wp2_with fail
  go_returns
  exact ⟨rfl, B.call (B.alloc B3.out _) b4⟩

end Go.Proofs.YtdlfmchpaohoaaaDoor
