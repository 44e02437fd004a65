/- gimletlaw29.awake (printed by wip/gen_hpknown.py). -/
import Derived.Test.YtgohnekaolgblaaHpG
namespace Go.Proofs.Ytgohnekaolgblaa
open Go.RowKit

theorem hpSmall (w : World) : Calls Try.prog 25 #[] w fun e w' => ∃ o, e = .returned o ∧ Owns 22 .u32 w.heap.size w' o [65553, 11, 16, 13, 97, 131081, 28] ∧ Below w.heap.size w w' := by
  go_enter Try.func25, Try.ntmps25
  go_wp2_with fail
  go_returns
  exact ⟨_, rfl, Owns.lit 22 .u32 w [65553, 11, 16, 13, 97, 131081, 28] w.heap.size (Nat.le_refl _) (by simp [maxLen]), B.alloc (B.refl w) _⟩

set_option maxHeartbeats 2000000 in
set_option maxRecDepth 100000 in
/-- gimletlaw29.awake: true. -/
theorem hpAwake (w : World) : Calls Try.prog 19 #[] w fun e w' => e = .returned (.bool true) ∧ Below w.heap.size w w' := by
  have P1 : Hp.live [65553, 11, 16, 13, 97, 131081, 28] 16 [16] = (3, 0) := by kernel_rfl
  have P2 : Hp.moves [65553, 11, 16, 13, 97, 131081, 28] 16 [36, 7, 36] 64 = ([131081, 72, 13, 97], [64, 7, 64], 0) := by kernel_rfl
  have BW := Lib.hid (B.refl w)
  go_enter Try.func19, Try.ntmps19
  go_wp2_with fail
  refine (hpSmall _).mono ?_
  rintro _ w1 ⟨ow1, rfl, ownw1, bw1⟩
  replace BW := Lib.hid (B.call (BW.out) bw1)
  obtain ⟨Aw1, cw1, rfl, _, _⟩ := ownw1.sees.len
  have Sw1 := Lib.hid ownw1.sees
  clear ownw1 bw1
  replace Sw1 := Lib.hid (Sees.alloc Sw1.out (.cells #[.int .u32 16] 22))
  have L1 : Sees .u32 (w1.alloc (.cells #[.int .u32 16] 22)) (.slice (some ⟨w1.heap.size, 0, none⟩) 1 1) [16] := Sees.lit .u32 w1 22 [16] 1 (by simp) (by simp [maxLen])
  replace L1 := Lib.hid L1
  go_wp2_with fail
  refine (hpLive _ _ [65553, 11, 16, 13, 97, 131081, 28] [16] 16 _ Sw1.out (by intro x hx; simp at hx; omega) (L1.out) (by intro x hx; simp at hx; omega) (by omega)).mono ?_
  rintro _ w2 ⟨rfl, bw2⟩
  replace BW := Lib.hid (B.call (B.alloc BW.out _) bw2)
  replace Sw1 := Lib.hid (Sees.below Sw1.out bw2 (Nat.le_refl _))
  rw [P1]
  clear bw2
  clear Sw1
  clear L1
  go_wp2_with fail
  refine (hpSmall _).mono ?_
  rintro _ w3 ⟨ow3, rfl, ownw3, bw3⟩
  replace BW := Lib.hid (B.call (BW.out) bw3)
  obtain ⟨Aw3, cw3, rfl, _, _⟩ := ownw3.sees.len
  have Sw3 := Lib.hid ownw3.sees
  clear ownw3 bw3
  replace Sw3 := Lib.hid (Sees.alloc Sw3.out (.cells #[.int .u32 36, .int .u32 7, .int .u32 36] 22))
  have L3 : Sees .u32 (w3.alloc (.cells #[.int .u32 36, .int .u32 7, .int .u32 36] 22)) (.slice (some ⟨w3.heap.size, 0, none⟩) 3 3) [36, 7, 36] := Sees.lit .u32 w3 22 [36, 7, 36] 3 (by simp) (by simp [maxLen])
  replace L3 := Lib.hid L3
  go_wp2_with fail
  refine (hpMoves _ _ [65553, 11, 16, 13, 97, 131081, 28] [36, 7, 36] 16 64 _ Sw3.out (by intro x hx; simp at hx; omega) (L3.out) (by intro x hx; simp at hx; omega) (by omega) (by omega)).mono ?_
  rintro _ w4 ⟨pw4, qw4, rfl, ownw4, own2w4, bw4⟩
  replace BW := Lib.hid (B.call (B.alloc BW.out _) bw4)
  replace Sw3 := Lib.hid (Sees.below Sw3.out bw4 (Nat.le_refl _))
  rw [P2] at ownw4 own2w4 ⊢
  simp only at ownw4 own2w4 ⊢
  obtain ⟨Aw4, cw4, rfl, _, _⟩ := ownw4.sees.len
  obtain ⟨AAw4, ccw4, rfl, _, _⟩ := own2w4.sees.len
  have Sw4 := Lib.hid ownw4.sees
  have Tw4 := Lib.hid own2w4.sees
  clear ownw4 own2w4 bw4
  clear Sw3
  clear L3
  replace Sw4 := Lib.hid (Sees.alloc Sw4.out (.cells #[.int .u32 131081, .int .u32 72, .int .u32 13, .int .u32 97] 22))
  replace Tw4 := Lib.hid (Sees.alloc Tw4.out (.cells #[.int .u32 131081, .int .u32 72, .int .u32 13, .int .u32 97] 22))
  have L4 : Sees .u32 (w4.alloc (.cells #[.int .u32 131081, .int .u32 72, .int .u32 13, .int .u32 97] 22)) (.slice (some ⟨w4.heap.size, 0, none⟩) 4 4) [131081, 72, 13, 97] := Sees.lit .u32 w4 22 [131081, 72, 13, 97] 4 (by simp) (by simp [maxLen])
  replace L4 := Lib.hid L4
  go_wp2_with fail
  refine (sameCells _ _ [131081, 72, 13, 97] [131081, 72, 13, 97] _ Sw4.out L4.out).mono ?_
  rintro _ w5 ⟨rfl, bw5⟩
  replace BW := Lib.hid (B.call (B.alloc BW.out _) bw5)
  replace Sw4 := Lib.hid (Sees.below Sw4.out bw5 (Nat.le_refl _))
  replace Tw4 := Lib.hid (Sees.below Tw4.out bw5 (Nat.le_refl _))
  rw [show decide (([131081, 72, 13, 97] : List Int) = [131081, 72, 13, 97]) = true by decide]
  clear bw5
  clear Sw4
  clear L4
  replace Tw4 := Lib.hid (Sees.alloc Tw4.out (.cells #[.int .u32 64, .int .u32 7, .int .u32 64] 22))
  have L5 : Sees .u32 (w5.alloc (.cells #[.int .u32 64, .int .u32 7, .int .u32 64] 22)) (.slice (some ⟨w5.heap.size, 0, none⟩) 3 3) [64, 7, 64] := Sees.lit .u32 w5 22 [64, 7, 64] 3 (by simp) (by simp [maxLen])
  replace L5 := Lib.hid L5
  go_wp2_with fail
  refine (sameCells _ _ [64, 7, 64] [64, 7, 64] _ Tw4.out L5.out).mono ?_
  rintro _ w6 ⟨rfl, bw6⟩
  replace BW := Lib.hid (B.call (B.alloc BW.out _) bw6)
  replace Tw4 := Lib.hid (Sees.below Tw4.out bw6 (Nat.le_refl _))
  rw [show decide (([64, 7, 64] : List Int) = [64, 7, 64]) = true by decide]
  clear bw6
  clear Tw4
  clear L5
  go_wp2_with fail
  go_returns
  exact ⟨rfl, BW.out⟩

end Go.Proofs.Ytgohnekaolgblaa
