/- The law LebKnown: the walk (its lines are printed by wip/gen_lebknown.py). -/
import Derived.Test.YtdlfmchpaohoaaaLebLaws
namespace Go.Proofs.Ytdlfmchpaohoaaa
open Go.RowKit

set_option maxHeartbeats 4000000 in
set_option maxRecDepth 100000 in
theorem lebKnownWalk (w : World) : Calls Try.prog 6 #[] w fun e w' => e = .returned (.bool true) ∧ Below w.heap.size w w' := by
  have hr1 : Leb.putU 4 0 = [0] := by decide
  have HR1 := Lib.hid hr1; clear hr1
  have hr2 : Leb.putU 4 127 = [127] := by decide
  have HR2 := Lib.hid hr2; clear hr2
  have hr3 : Leb.putU 4 128 = [128, 1] := by decide
  have HR3 := Lib.hid hr3; clear hr3
  have hr4 : Leb.putU 4 4294967295 = [255, 255, 255, 255, 15] := by decide
  have HR4 := Lib.hid hr4; clear hr4
  have hr5 : Leb.putS 4 (-1) = [127] := by decide
  have HR5 := Lib.hid hr5; clear hr5
  have hr6 : Leb.putS 4 64 = [192, 0] := by decide
  have HR6 := Lib.hid hr6; clear hr6
  have hr7 : Leb.putS 4 (-64) = [64] := by decide
  have HR7 := Lib.hid hr7; clear hr7
  have hr8 : Leb.getU [128, 0] 0 = (0, 2, 0, 0) := by decide
  have HR8 := Lib.hid hr8; clear hr8
  have hr9 : Leb.getU [128] 0 = (0, 0, 4, 1) := by decide
  have HR9 := Lib.hid hr9; clear hr9
  have hr10 : Leb.getU [255, 255, 255, 255, 16] 0 = (0, 0, 4, 4) := by decide
  have HR10 := Lib.hid hr10; clear hr10
  have hr11 : Leb.getU [] 1 = (0, 0, 5, 0) := by decide
  have HR11 := Lib.hid hr11; clear hr11
  have hr12 : Leb.getS [255, 255, 255, 255, 127] 0 = ((-1), 5, 0, 0) := by decide
  have HR12 := Lib.hid hr12; clear hr12
  have hr13 : Leb.getS [255, 255, 255, 255, 15] 0 = (0, 0, 4, 4) := by decide
  have HR13 := Lib.hid hr13; clear hr13
  go_enter Try.func6, Try.ntmps6
  go_wp2_with fail
  refine (putU _ _ (by decide) (by decide)).mono ?_
  rintro e w1 ⟨v1, rfl, o1, b1⟩
  rw [HR1.out] at o1
  have sl1 : ∀ (w : World) (g : Nat), g = w.heap.size → Sees .u8 (w.alloc (.cells #[.int .u8 0] 5)) (.slice (some ⟨g, 0, none⟩) 1 1) [0] := by rintro w g rfl; exact Sees.lit .u8 w 5 [0] 1 (by decide) (by decide)
  go_wp2_with fail
  refine (sameBytes (o1.sees.alloc _) (sl1 _ _ (by simp)) (by intro n hn; simp at hn; omega) (by intro n hn; simp at hn; omega) true (by decide)).mono ?_
  rintro e w' ⟨rfl, rfl⟩
  go_wp2_with fail
  refine (putU _ _ (by decide) (by decide)).mono ?_
  rintro e w2 ⟨v2, rfl, o2, b2⟩
  rw [HR2.out] at o2
  have sl2 : ∀ (w : World) (g : Nat), g = w.heap.size → Sees .u8 (w.alloc (.cells #[.int .u8 127] 5)) (.slice (some ⟨g, 0, none⟩) 1 1) [127] := by rintro w g rfl; exact Sees.lit .u8 w 5 [127] 1 (by decide) (by decide)
  go_wp2_with fail
  refine (sameBytes (o2.sees.alloc _) (sl2 _ _ (by simp)) (by intro n hn; simp at hn; omega) (by intro n hn; simp at hn; omega) true (by decide)).mono ?_
  rintro e w' ⟨rfl, rfl⟩
  go_wp2_with fail
  refine (putU _ _ (by decide) (by decide)).mono ?_
  rintro e w3 ⟨v3, rfl, o3, b3⟩
  rw [HR3.out] at o3
  have sl3 : ∀ (w : World) (g : Nat), g = w.heap.size → Sees .u8 (w.alloc (.cells #[.int .u8 128, .int .u8 1] 5)) (.slice (some ⟨g, 0, none⟩) 2 2) [128, 1] := by rintro w g rfl; exact Sees.lit .u8 w 5 [128, 1] 2 (by decide) (by decide)
  go_wp2_with fail
  refine (sameBytes (o3.sees.alloc _) (sl3 _ _ (by simp)) (by intro n hn; simp at hn; omega) (by intro n hn; simp at hn; omega) true (by decide)).mono ?_
  rintro e w' ⟨rfl, rfl⟩
  go_wp2_with fail
  refine (putU _ _ (by decide) (by decide)).mono ?_
  rintro e w4 ⟨v4, rfl, o4, b4⟩
  rw [HR4.out] at o4
  have sl4 : ∀ (w : World) (g : Nat), g = w.heap.size → Sees .u8 (w.alloc (.cells #[.int .u8 255, .int .u8 255, .int .u8 255, .int .u8 255, .int .u8 15] 5)) (.slice (some ⟨g, 0, none⟩) 5 5) [255, 255, 255, 255, 15] := by rintro w g rfl; exact Sees.lit .u8 w 5 [255, 255, 255, 255, 15] 5 (by decide) (by decide)
  go_wp2_with fail
  refine (sameBytes (o4.sees.alloc _) (sl4 _ _ (by simp)) (by intro n hn; simp at hn; omega) (by intro n hn; simp at hn; omega) true (by decide)).mono ?_
  rintro e w' ⟨rfl, rfl⟩
  go_wp2_with fail
  refine (putS _ _ (by decide) (by decide)).mono ?_
  rintro e w5 ⟨v5, rfl, o5, b5⟩
  rw [HR5.out] at o5
  have sl5 : ∀ (w : World) (g : Nat), g = w.heap.size → Sees .u8 (w.alloc (.cells #[.int .u8 127] 5)) (.slice (some ⟨g, 0, none⟩) 1 1) [127] := by rintro w g rfl; exact Sees.lit .u8 w 5 [127] 1 (by decide) (by decide)
  go_wp2_with fail
  refine (sameBytes (o5.sees.alloc _) (sl5 _ _ (by simp)) (by intro n hn; simp at hn; omega) (by intro n hn; simp at hn; omega) true (by decide)).mono ?_
  rintro e w' ⟨rfl, rfl⟩
  go_wp2_with fail
  refine (putS _ _ (by decide) (by decide)).mono ?_
  rintro e w6 ⟨v6, rfl, o6, b6⟩
  rw [HR6.out] at o6
  have sl6 : ∀ (w : World) (g : Nat), g = w.heap.size → Sees .u8 (w.alloc (.cells #[.int .u8 192, .int .u8 0] 5)) (.slice (some ⟨g, 0, none⟩) 2 2) [192, 0] := by rintro w g rfl; exact Sees.lit .u8 w 5 [192, 0] 2 (by decide) (by decide)
  go_wp2_with fail
  refine (sameBytes (o6.sees.alloc _) (sl6 _ _ (by simp)) (by intro n hn; simp at hn; omega) (by intro n hn; simp at hn; omega) true (by decide)).mono ?_
  rintro e w' ⟨rfl, rfl⟩
  go_wp2_with fail
  refine (putS _ _ (by decide) (by decide)).mono ?_
  rintro e w7 ⟨v7, rfl, o7, b7⟩
  rw [HR7.out] at o7
  have sl7 : ∀ (w : World) (g : Nat), g = w.heap.size → Sees .u8 (w.alloc (.cells #[.int .u8 64] 5)) (.slice (some ⟨g, 0, none⟩) 1 1) [64] := by rintro w g rfl; exact Sees.lit .u8 w 5 [64] 1 (by decide) (by decide)
  go_wp2_with fail
  refine (sameBytes (o7.sees.alloc _) (sl7 _ _ (by simp)) (by intro n hn; simp at hn; omega) (by intro n hn; simp at hn; omega) true (by decide)).mono ?_
  rintro e w' ⟨rfl, rfl⟩
  go_wp2_with fail
  have sl8 : ∀ (w : World) (g : Nat), g = w.heap.size → Sees .u8 (w.alloc (.cells #[.int .u8 128, .int .u8 0] 5)) (.slice (some ⟨g, 0, none⟩) 2 2) [128, 0] := by rintro w g rfl; exact Sees.lit .u8 w 5 [128, 0] 2 (by decide) (by decide)
  refine (getU _ _ _ _ (sl8 _ _ (by simp)) (by intro n hn; simp at hn; omega) (by decide)).mono ?_
  rintro e w8 ⟨rfl, b8⟩
  rw [HR8.out]
  simp only [tupU]
  go_wp2_with fail
  have sl9 : ∀ (w : World) (g : Nat), g = w.heap.size → Sees .u8 (w.alloc (.cells #[.int .u8 128] 5)) (.slice (some ⟨g, 0, none⟩) 1 1) [128] := by rintro w g rfl; exact Sees.lit .u8 w 5 [128] 1 (by decide) (by decide)
  refine (getU _ _ _ _ (sl9 _ _ (by simp)) (by intro n hn; simp at hn; omega) (by decide)).mono ?_
  rintro e w9 ⟨rfl, b9⟩
  rw [HR9.out]
  simp only [tupU]
  have cf0_9 : w9.cell? ⟨w8.heap.size, 0, none⟩ = some (.int .i64 0) := cellK b9 (cellA (cellN0 _ _ _ _) _)
  have cf1_9 : w9.cell? ⟨w8.heap.size, 1, none⟩ = some (.int .i64 0) := cellK b9 (cellA (cellN1 _ _ _ _) _)
  have lf_9 : w8.heap.size < w9.heap.size := World.block_lt_of_cell? _ _ cf0_9
  go_wp2_with fail
  have sl10 : ∀ (w : World) (g : Nat), g = w.heap.size → Sees .u8 (w.alloc (.cells #[.int .u8 255, .int .u8 255, .int .u8 255, .int .u8 255, .int .u8 16] 5)) (.slice (some ⟨g, 0, none⟩) 5 5) [255, 255, 255, 255, 16] := by rintro w g rfl; exact Sees.lit .u8 w 5 [255, 255, 255, 255, 16] 5 (by decide) (by decide)
  refine (getU _ _ _ _ (sl10 _ _ (by simp)) (by intro n hn; simp at hn; omega) (by decide)).mono ?_
  rintro e w10 ⟨rfl, b10⟩
  rw [HR10.out]
  simp only [tupU]
  have cf0_10 : w10.cell? ⟨w8.heap.size, 0, none⟩ = some (.int .i64 0) := cellK b10 (cellA (cellA cf0_9 _) _)
  have cf1_10 : w10.cell? ⟨w8.heap.size, 1, none⟩ = some (.int .i64 0) := cellK b10 (cellA (cellA cf1_9 _) _)
  have lf_10 : w8.heap.size < w10.heap.size := World.block_lt_of_cell? _ _ cf0_10
  have cg0_10 : w10.cell? ⟨w9.heap.size, 0, none⟩ = some (.int .i64 4) := cellK b10 (cellA (cellN0 _ _ _ _) _)
  have cg1_10 : w10.cell? ⟨w9.heap.size, 1, none⟩ = some (.int .i64 1) := cellK b10 (cellA (cellN1 _ _ _ _) _)
  have lg_10 : w9.heap.size < w10.heap.size := World.block_lt_of_cell? _ _ cg0_10
  go_wp2_with fail
  refine (getU _ _ _ _ (Sees.nil _ _) (by intro n hn; simp at hn) (by decide)).mono ?_
  rintro e w11 ⟨rfl, b11⟩
  rw [HR11.out]
  simp only [tupU]
  have cf0_11 : w11.cell? ⟨w8.heap.size, 0, none⟩ = some (.int .i64 0) := cellK b11 (cellA cf0_10 _)
  have cf1_11 : w11.cell? ⟨w8.heap.size, 1, none⟩ = some (.int .i64 0) := cellK b11 (cellA cf1_10 _)
  have lf_11 : w8.heap.size < w11.heap.size := World.block_lt_of_cell? _ _ cf0_11
  have cg0_11 : w11.cell? ⟨w9.heap.size, 0, none⟩ = some (.int .i64 4) := cellK b11 (cellA cg0_10 _)
  have cg1_11 : w11.cell? ⟨w9.heap.size, 1, none⟩ = some (.int .i64 1) := cellK b11 (cellA cg1_10 _)
  have lg_11 : w9.heap.size < w11.heap.size := World.block_lt_of_cell? _ _ cg0_11
  have ch0_11 : w11.cell? ⟨w10.heap.size, 0, none⟩ = some (.int .i64 4) := cellK b11 (cellN0 _ _ _ _)
  have ch1_11 : w11.cell? ⟨w10.heap.size, 1, none⟩ = some (.int .i64 4) := cellK b11 (cellN1 _ _ _ _)
  have lh_11 : w10.heap.size < w11.heap.size := World.block_lt_of_cell? _ _ ch0_11
  go_wp2_with fail
  have sl11 : ∀ (w : World) (g : Nat), g = w.heap.size → Sees .u8 (w.alloc (.cells #[.int .u8 255, .int .u8 255, .int .u8 255, .int .u8 255, .int .u8 127] 5)) (.slice (some ⟨g, 0, none⟩) 5 5) [255, 255, 255, 255, 127] := by rintro w g rfl; exact Sees.lit .u8 w 5 [255, 255, 255, 255, 127] 5 (by decide) (by decide)
  refine (getS _ _ _ _ (sl11 _ _ (by simp)) (by intro n hn; simp at hn; omega) (by decide)).mono ?_
  rintro e w12 ⟨rfl, b12⟩
  rw [HR12.out]
  simp only [tupS]
  have cf0_12 : w12.cell? ⟨w8.heap.size, 0, none⟩ = some (.int .i64 0) := cellK b12 (cellA (cellA cf0_11 _) _)
  have cf1_12 : w12.cell? ⟨w8.heap.size, 1, none⟩ = some (.int .i64 0) := cellK b12 (cellA (cellA cf1_11 _) _)
  have lf_12 : w8.heap.size < w12.heap.size := World.block_lt_of_cell? _ _ cf0_12
  have cg0_12 : w12.cell? ⟨w9.heap.size, 0, none⟩ = some (.int .i64 4) := cellK b12 (cellA (cellA cg0_11 _) _)
  have cg1_12 : w12.cell? ⟨w9.heap.size, 1, none⟩ = some (.int .i64 1) := cellK b12 (cellA (cellA cg1_11 _) _)
  have lg_12 : w9.heap.size < w12.heap.size := World.block_lt_of_cell? _ _ cg0_12
  have ch0_12 : w12.cell? ⟨w10.heap.size, 0, none⟩ = some (.int .i64 4) := cellK b12 (cellA (cellA ch0_11 _) _)
  have ch1_12 : w12.cell? ⟨w10.heap.size, 1, none⟩ = some (.int .i64 4) := cellK b12 (cellA (cellA ch1_11 _) _)
  have lh_12 : w10.heap.size < w12.heap.size := World.block_lt_of_cell? _ _ ch0_12
  have ci0_12 : w12.cell? ⟨w11.heap.size, 0, none⟩ = some (.int .i64 5) := cellK b12 (cellA (cellN0 _ _ _ _) _)
  have ci1_12 : w12.cell? ⟨w11.heap.size, 1, none⟩ = some (.int .i64 0) := cellK b12 (cellA (cellN1 _ _ _ _) _)
  have li_12 : w11.heap.size < w12.heap.size := World.block_lt_of_cell? _ _ ci0_12
  go_wp2_with fail
  have sl12 : ∀ (w : World) (g : Nat), g = w.heap.size → Sees .u8 (w.alloc (.cells #[.int .u8 255, .int .u8 255, .int .u8 255, .int .u8 255, .int .u8 15] 5)) (.slice (some ⟨g, 0, none⟩) 5 5) [255, 255, 255, 255, 15] := by rintro w g rfl; exact Sees.lit .u8 w 5 [255, 255, 255, 255, 15] 5 (by decide) (by decide)
  refine (getS _ _ _ _ (sl12 _ _ (by simp)) (by intro n hn; simp at hn; omega) (by decide)).mono ?_
  rintro e w13 ⟨rfl, b13⟩
  rw [HR13.out]
  simp only [tupS]
  have cf0_13 : w13.cell? ⟨w8.heap.size, 0, none⟩ = some (.int .i64 0) := cellK b13 (cellA (cellA cf0_12 _) _)
  have cf1_13 : w13.cell? ⟨w8.heap.size, 1, none⟩ = some (.int .i64 0) := cellK b13 (cellA (cellA cf1_12 _) _)
  have lf_13 : w8.heap.size < w13.heap.size := World.block_lt_of_cell? _ _ cf0_13
  have cg0_13 : w13.cell? ⟨w9.heap.size, 0, none⟩ = some (.int .i64 4) := cellK b13 (cellA (cellA cg0_12 _) _)
  have cg1_13 : w13.cell? ⟨w9.heap.size, 1, none⟩ = some (.int .i64 1) := cellK b13 (cellA (cellA cg1_12 _) _)
  have lg_13 : w9.heap.size < w13.heap.size := World.block_lt_of_cell? _ _ cg0_13
  have ch0_13 : w13.cell? ⟨w10.heap.size, 0, none⟩ = some (.int .i64 4) := cellK b13 (cellA (cellA ch0_12 _) _)
  have ch1_13 : w13.cell? ⟨w10.heap.size, 1, none⟩ = some (.int .i64 4) := cellK b13 (cellA (cellA ch1_12 _) _)
  have lh_13 : w10.heap.size < w13.heap.size := World.block_lt_of_cell? _ _ ch0_13
  have ci0_13 : w13.cell? ⟨w11.heap.size, 0, none⟩ = some (.int .i64 5) := cellK b13 (cellA (cellA ci0_12 _) _)
  have ci1_13 : w13.cell? ⟨w11.heap.size, 1, none⟩ = some (.int .i64 0) := cellK b13 (cellA (cellA ci1_12 _) _)
  have li_13 : w11.heap.size < w13.heap.size := World.block_lt_of_cell? _ _ ci0_13
  have cj0_13 : w13.cell? ⟨w12.heap.size, 0, none⟩ = some (.int .i64 0) := cellK b13 (cellA (cellN0 _ _ _ _) _)
  have cj1_13 : w13.cell? ⟨w12.heap.size, 1, none⟩ = some (.int .i64 0) := cellK b13 (cellA (cellN1 _ _ _ _) _)
  have lj_13 : w12.heap.size < w13.heap.size := World.block_lt_of_cell? _ _ cj0_13
  go_wp2_with fail
  refine (awake01 _).mono ?_
  rintro e w14 ⟨rfl, b14⟩
  have cf0_14 : w14.cell? ⟨w8.heap.size, 0, none⟩ = some (.int .i64 0) := cellK b14 (cellA cf0_13 _)
  have cf1_14 : w14.cell? ⟨w8.heap.size, 1, none⟩ = some (.int .i64 0) := cellK b14 (cellA cf1_13 _)
  have lf_14 : w8.heap.size < w14.heap.size := World.block_lt_of_cell? _ _ cf0_14
  have cg0_14 : w14.cell? ⟨w9.heap.size, 0, none⟩ = some (.int .i64 4) := cellK b14 (cellA cg0_13 _)
  have cg1_14 : w14.cell? ⟨w9.heap.size, 1, none⟩ = some (.int .i64 1) := cellK b14 (cellA cg1_13 _)
  have lg_14 : w9.heap.size < w14.heap.size := World.block_lt_of_cell? _ _ cg0_14
  have ch0_14 : w14.cell? ⟨w10.heap.size, 0, none⟩ = some (.int .i64 4) := cellK b14 (cellA ch0_13 _)
  have ch1_14 : w14.cell? ⟨w10.heap.size, 1, none⟩ = some (.int .i64 4) := cellK b14 (cellA ch1_13 _)
  have lh_14 : w10.heap.size < w14.heap.size := World.block_lt_of_cell? _ _ ch0_14
  have ci0_14 : w14.cell? ⟨w11.heap.size, 0, none⟩ = some (.int .i64 5) := cellK b14 (cellA ci0_13 _)
  have ci1_14 : w14.cell? ⟨w11.heap.size, 1, none⟩ = some (.int .i64 0) := cellK b14 (cellA ci1_13 _)
  have li_14 : w11.heap.size < w14.heap.size := World.block_lt_of_cell? _ _ ci0_14
  have cj0_14 : w14.cell? ⟨w12.heap.size, 0, none⟩ = some (.int .i64 0) := cellK b14 (cellA cj0_13 _)
  have cj1_14 : w14.cell? ⟨w12.heap.size, 1, none⟩ = some (.int .i64 0) := cellK b14 (cellA cj1_13 _)
  have lj_14 : w12.heap.size < w14.heap.size := World.block_lt_of_cell? _ _ cj0_14
  have ck0_14 : w14.cell? ⟨w13.heap.size, 0, none⟩ = some (.int .i64 4) := cellK b14 (cellN0 _ _ _ _)
  have ck1_14 : w14.cell? ⟨w13.heap.size, 1, none⟩ = some (.int .i64 4) := cellK b14 (cellN1 _ _ _ _)
  have lk_14 : w13.heap.size < w14.heap.size := World.block_lt_of_cell? _ _ ck0_14
  go_wp2_with fail
  go_ret
  exact ⟨rfl, (B.call (B.alloc (B.call (B.alloc (B.alloc (B.call (B.alloc (B.alloc (B.call (B.alloc (B.call (B.alloc (B.alloc (B.call (B.alloc (B.alloc (B.call (B.alloc (B.alloc (B.call (B.alloc (B.call (B.alloc (B.call (B.alloc (B.call (B.alloc (B.call (B.alloc (B.call (B.alloc (B.call (B.refl _) b1) _) b2) _) b3) _) b4) _) b5) _) b6) _) b7) _) _) b8) _) _) b9) _) _) b10) _) b11) _) _) b12) _) _) b13) _) b14)⟩

end Go.Proofs.Ytdlfmchpaohoaaa
