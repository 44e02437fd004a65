/- HeapKnown: the walk (printed by wip/gen_hpknown.py). -/
import Derived.Test.YtgohnekaolgblaaHpAwake
namespace Go.Proofs.Ytgohnekaolgblaa
open Go.RowKit

set_option maxHeartbeats 2000000 in
set_option maxRecDepth 100000 in
/-- HeapKnown's walk. -/
theorem heapKnownWalk (w : World) : Calls Try.prog 5 #[] w fun e w' => e = .returned (.bool true) ∧ Below w.heap.size w w' := by
  have P1 : Hp.live [65553, 11, 16, 13, 97, 131081, 28] 16 [36] = (4, 0) := by kernel_rfl
  have P2 : Hp.moves [65553, 11, 16, 13, 97, 131081, 28] 16 [16] 64 = ([65553, 11, 64], [64], 0) := by kernel_rfl
  have P3 : Hp.chk [65553, 11, 16, 13, 97, 131081, 28] 16 [36, 16] = 0 := by kernel_rfl
  have P4 : Hp.chk [65553, 11, 16, 13, 97, 131081, 28] 16 [20] = 2 := by kernel_rfl
  have P5 : Hp.chk [65553, 11, 16, 13, 97, 131081, 28] 12 [] = 2 := by kernel_rfl
  have BW := Lib.hid (B.refl w)
  go_enter Try.func5, Try.ntmps5
  go_wp2_with fail
  refine (hpSmall _).mono ?_
  rintro _ w1 ⟨ow1, rfl, ownw1, bw1⟩
  replace BW := Lib.hid (B.call (BW.out) bw1)
  obtain ⟨Aw1, cw1, rfl, _, _⟩ := ownw1.sees.len
  have Sw1 := Lib.hid ownw1.sees
  clear ownw1 bw1
  replace Sw1 := Lib.hid (Sees.alloc Sw1.out (.cells #[.int .u32 36] 22))
  have L1 : Sees .u32 (w1.alloc (.cells #[.int .u32 36] 22)) (.slice (some ⟨w1.heap.size, 0, none⟩) 1 1) [36] := Sees.lit .u32 w1 22 [36] 1 (by simp) (by simp [maxLen])
  replace L1 := Lib.hid L1
  go_wp2_with fail
  refine (hpLive _ _ [65553, 11, 16, 13, 97, 131081, 28] [36] 16 _ Sw1.out (by intro x hx; simp at hx; omega) (L1.out) (by intro x hx; simp at hx; omega) (by omega)).mono ?_
  rintro _ w2 ⟨rfl, bw2⟩
  replace BW := Lib.hid (B.call (B.alloc BW.out _) bw2)
  replace Sw1 := Lib.hid (Sees.below Sw1.out bw2 (Nat.le_refl _))
  rw [P1]
  clear bw2
  clear Sw1
  clear L1
  go_wp2_with fail
  refine (hpSmall _).mono ?_
  rintro _ w3 ⟨ow3, rfl, ownw3, bw3⟩
  replace BW := Lib.hid (B.call (BW.out) bw3)
  obtain ⟨Aw3, cw3, rfl, _, _⟩ := ownw3.sees.len
  have Sw3 := Lib.hid ownw3.sees
  clear ownw3 bw3
  replace Sw3 := Lib.hid (Sees.alloc Sw3.out (.cells #[.int .u32 16] 22))
  have L3 : Sees .u32 (w3.alloc (.cells #[.int .u32 16] 22)) (.slice (some ⟨w3.heap.size, 0, none⟩) 1 1) [16] := Sees.lit .u32 w3 22 [16] 1 (by simp) (by simp [maxLen])
  replace L3 := Lib.hid L3
  go_wp2_with fail
  refine (hpMoves _ _ [65553, 11, 16, 13, 97, 131081, 28] [16] 16 64 _ Sw3.out (by intro x hx; simp at hx; omega) (L3.out) (by intro x hx; simp at hx; omega) (by omega) (by omega)).mono ?_
  rintro _ w4 ⟨pw4, qw4, rfl, ownw4, own2w4, bw4⟩
  replace BW := Lib.hid (B.call (B.alloc BW.out _) bw4)
  replace Sw3 := Lib.hid (Sees.below Sw3.out bw4 (Nat.le_refl _))
  rw [P2] at ownw4 own2w4 ⊢
  simp only at ownw4 own2w4 ⊢
  obtain ⟨Aw4, cw4, rfl, _, _⟩ := ownw4.sees.len
  obtain ⟨AAw4, ccw4, rfl, _, _⟩ := own2w4.sees.len
  have Sw4 := Lib.hid ownw4.sees
  have Tw4 := Lib.hid own2w4.sees
  clear ownw4 own2w4 bw4
  clear Sw3
  clear L3
  go_wp2_with fail
  refine (hpAwake _).mono ?_
  rintro _ w5 ⟨rfl, bw5⟩
  replace BW := Lib.hid (B.call (BW.out) bw5)
  replace Sw4 := Lib.hid (Sees.below Sw4.out bw5 (Nat.le_refl _))
  replace Tw4 := Lib.hid (Sees.below Tw4.out bw5 (Nat.le_refl _))
  clear bw5
  go_wp2_with fail
  refine (hpSmall _).mono ?_
  rintro _ w6 ⟨ow6, rfl, ownw6, bw6⟩
  replace BW := Lib.hid (B.call (BW.out) bw6)
  replace Sw4 := Lib.hid (Sees.below Sw4.out bw6 (Nat.le_refl _))
  replace Tw4 := Lib.hid (Sees.below Tw4.out bw6 (Nat.le_refl _))
  obtain ⟨Aw6, cw6, rfl, _, _⟩ := ownw6.sees.len
  have Sw6 := Lib.hid ownw6.sees
  clear ownw6 bw6
  replace Sw4 := Lib.hid (Sees.alloc Sw4.out (.cells #[.int .u32 36, .int .u32 16] 22))
  replace Tw4 := Lib.hid (Sees.alloc Tw4.out (.cells #[.int .u32 36, .int .u32 16] 22))
  replace Sw6 := Lib.hid (Sees.alloc Sw6.out (.cells #[.int .u32 36, .int .u32 16] 22))
  have L6 : Sees .u32 (w6.alloc (.cells #[.int .u32 36, .int .u32 16] 22)) (.slice (some ⟨w6.heap.size, 0, none⟩) 2 2) [36, 16] := Sees.lit .u32 w6 22 [36, 16] 2 (by simp) (by simp [maxLen])
  replace L6 := Lib.hid L6
  go_wp2_with fail
  refine (hpCheck _ _ [65553, 11, 16, 13, 97, 131081, 28] [36, 16] 16 _ Sw6.out (by intro x hx; simp at hx; omega) (L6.out) (by intro x hx; simp at hx; omega) (by omega) (by omega)).mono ?_
  rintro _ w7 ⟨rfl, bw7⟩
  replace BW := Lib.hid (B.call (B.alloc BW.out _) bw7)
  replace Sw4 := Lib.hid (Sees.below Sw4.out bw7 (Nat.le_refl _))
  replace Tw4 := Lib.hid (Sees.below Tw4.out bw7 (Nat.le_refl _))
  replace Sw6 := Lib.hid (Sees.below Sw6.out bw7 (Nat.le_refl _))
  rw [P3]
  clear bw7
  clear Sw6
  clear L6
  replace Sw4 := Lib.hid (Sees.alloc Sw4.out (.cells #[.int .u32 65553, .int .u32 11, .int .u32 64] 22))
  replace Tw4 := Lib.hid (Sees.alloc Tw4.out (.cells #[.int .u32 65553, .int .u32 11, .int .u32 64] 22))
  have L7 : Sees .u32 (w7.alloc (.cells #[.int .u32 65553, .int .u32 11, .int .u32 64] 22)) (.slice (some ⟨w7.heap.size, 0, none⟩) 3 3) [65553, 11, 64] := Sees.lit .u32 w7 22 [65553, 11, 64] 3 (by simp) (by simp [maxLen])
  replace L7 := Lib.hid L7
  go_wp2_with fail
  refine (sameCells _ _ [65553, 11, 64] [65553, 11, 64] _ Sw4.out L7.out).mono ?_
  rintro _ w8 ⟨rfl, bw8⟩
  replace BW := Lib.hid (B.call (B.alloc BW.out _) bw8)
  replace Sw4 := Lib.hid (Sees.below Sw4.out bw8 (Nat.le_refl _))
  replace Tw4 := Lib.hid (Sees.below Tw4.out bw8 (Nat.le_refl _))
  rw [show decide (([65553, 11, 64] : List Int) = [65553, 11, 64]) = true by decide]
  clear bw8
  clear Sw4
  clear L7
  replace Tw4 := Lib.hid (Sees.alloc Tw4.out (.cells #[.int .u32 64] 22))
  have L8 : Sees .u32 (w8.alloc (.cells #[.int .u32 64] 22)) (.slice (some ⟨w8.heap.size, 0, none⟩) 1 1) [64] := Sees.lit .u32 w8 22 [64] 1 (by simp) (by simp [maxLen])
  replace L8 := Lib.hid L8
  go_wp2_with fail
  refine (sameCells _ _ [64] [64] _ Tw4.out L8.out).mono ?_
  rintro _ w9 ⟨rfl, bw9⟩
  replace BW := Lib.hid (B.call (B.alloc BW.out _) bw9)
  replace Tw4 := Lib.hid (Sees.below Tw4.out bw9 (Nat.le_refl _))
  rw [show decide (([64] : List Int) = [64]) = true by decide]
  clear bw9
  clear Tw4
  clear L8
  go_wp2_with fail
  refine (hpSmall _).mono ?_
  rintro _ w10 ⟨ow10, rfl, ownw10, bw10⟩
  replace BW := Lib.hid (B.call (BW.out) bw10)
  obtain ⟨Aw10, cw10, rfl, _, _⟩ := ownw10.sees.len
  have Sw10 := Lib.hid ownw10.sees
  clear ownw10 bw10
  replace Sw10 := Lib.hid (Sees.alloc Sw10.out (.cells #[.int .u32 20] 22))
  have L10 : Sees .u32 (w10.alloc (.cells #[.int .u32 20] 22)) (.slice (some ⟨w10.heap.size, 0, none⟩) 1 1) [20] := Sees.lit .u32 w10 22 [20] 1 (by simp) (by simp [maxLen])
  replace L10 := Lib.hid L10
  go_wp2_with fail
  refine (hpCheck _ _ [65553, 11, 16, 13, 97, 131081, 28] [20] 16 _ Sw10.out (by intro x hx; simp at hx; omega) (L10.out) (by intro x hx; simp at hx; omega) (by omega) (by omega)).mono ?_
  rintro _ w11 ⟨rfl, bw11⟩
  replace BW := Lib.hid (B.call (B.alloc BW.out _) bw11)
  replace Sw10 := Lib.hid (Sees.below Sw10.out bw11 (Nat.le_refl _))
  rw [P4]
  clear bw11
  clear Sw10
  clear L10
  go_wp2_with fail
  refine (hpSmall _).mono ?_
  rintro _ w12 ⟨ow12, rfl, ownw12, bw12⟩
  replace BW := Lib.hid (B.call (BW.out) bw12)
  obtain ⟨Aw12, cw12, rfl, _, _⟩ := ownw12.sees.len
  have Sw12 := Lib.hid ownw12.sees
  clear ownw12 bw12
  go_wp2_with fail
  refine (hpCheck _ _ [65553, 11, 16, 13, 97, 131081, 28] [] 12 _ Sw12.out (by intro x hx; simp at hx; omega) (Sees.nil _ _) (by intro x hx; simp at hx) (by omega) (by omega)).mono ?_
  rintro _ w13 ⟨rfl, bw13⟩
  replace BW := Lib.hid (B.call (BW.out) bw13)
  replace Sw12 := Lib.hid (Sees.below Sw12.out bw13 (Nat.le_refl _))
  rw [P5]
  clear bw13
  clear Sw12
  go_wp2_with fail
  go_returns
  exact ⟨rfl, BW.out⟩

end Go.Proofs.Ytgohnekaolgblaa
