/- The law NameKnown: the walk (printed by wip/gen_nmknown.py). -/
import Derived.Test.YtdlfmchpaohoaaaDoorNmAwake
import Derived.Test.YtdlfmchpaohoaaaDoorNmOf2
import Derived.Test.YtdlfmchpaohoaaaDoorSame
import Derived.Lib.SlBytesConst
namespace Go.Proofs.YtdlfmchpaohoaaaDoor
open Go.RowKit

set_option maxRecDepth 100000 in
set_option maxHeartbeats 8000000 in
theorem nameKnownWalk (w : World) (hT : Tabs w) : Calls Tryd.prog 8 #[] w fun e w' => e = .returned (.bool true) ∧ Below w.heap.size w w' := by
  have hr1 : Nm.badAt [97] = (-1) := by decide
  have HR1 := Lib.hid hr1; clear hr1
  have slm : ∀ (w : World) (g : Nat), g = w.heap.size → Sees .u8 (w.alloc (.cells #[.int .u8 97] 5 (1, 2))) (.slice (some ⟨g, 0, none⟩) 1 1) [97] := by rintro w g rfl; exact ⟨_, 1, rfl, by decide, by decide, fun _ => ⟨w.heap.size, 0, rfl, fun j hj => by rw [World.cell?_alloc_mark]; simp at hj; subst hj; rfl⟩⟩
  have hr2 : Nm.badAt [97, 195, 169] = (-1) := by decide
  have HR2 := Lib.hid hr2; clear hr2
  have sl1 : ∀ (w : World) (g : Nat), g = w.heap.size → Sees .u8 (w.alloc (.cells #[.int .u8 97, .int .u8 195, .int .u8 169] 5)) (.slice (some ⟨g, 0, none⟩) 3 3) [97, 195, 169] := by rintro w g rfl; exact Sees.lit .u8 w 5 [97, 195, 169] 3 (by decide) (by decide)
  have hr3 : Nm.badAt [192, 128] = 0 := by decide
  have HR3 := Lib.hid hr3; clear hr3
  have sl2 : ∀ (w : World) (g : Nat), g = w.heap.size → Sees .u8 (w.alloc (.cells #[.int .u8 192, .int .u8 128] 5)) (.slice (some ⟨g, 0, none⟩) 2 2) [192, 128] := by rintro w g rfl; exact Sees.lit .u8 w 5 [192, 128] 2 (by decide) (by decide)
  have hr4 : Nm.badAt [237, 160, 128] = 0 := by decide
  have HR4 := Lib.hid hr4; clear hr4
  have sl3 : ∀ (w : World) (g : Nat), g = w.heap.size → Sees .u8 (w.alloc (.cells #[.int .u8 237, .int .u8 160, .int .u8 128] 5)) (.slice (some ⟨g, 0, none⟩) 3 3) [237, 160, 128] := by rintro w g rfl; exact Sees.lit .u8 w 5 [237, 160, 128] 3 (by decide) (by decide)
  have hr5 : Nm.ofRes [8364] = ([226, 130, 172], 0) := by decide
  have HR5 := Lib.hid hr5; clear hr5
  have sl4 : ∀ (w : World) (g : Nat), g = w.heap.size → Sees .i64 (w.alloc (.cells #[.int .i64 8364] 3)) (.slice (some ⟨g, 0, none⟩) 1 1) [8364] := by rintro w g rfl; exact Sees.lit .i64 w 3 [8364] 1 (by decide) (by decide)
  have hr6 : Nm.ofRes [55296] = ([], 5) := by decide
  have HR6 := Lib.hid hr6; clear hr6
  have sl5 : ∀ (w : World) (g : Nat), g = w.heap.size → Sees .i64 (w.alloc (.cells #[.int .i64 55296] 3)) (.slice (some ⟨g, 0, none⟩) 1 1) [55296] := by rintro w g rfl; exact Sees.lit .i64 w 3 [55296] 1 (by decide) (by decide)
  have hr7 : Nm.ofRes [1114112] = ([], 5) := by decide
  have HR7 := Lib.hid hr7; clear hr7
  have sl6 : ∀ (w : World) (g : Nat), g = w.heap.size → Sees .i64 (w.alloc (.cells #[.int .i64 1114112] 3)) (.slice (some ⟨g, 0, none⟩) 1 1) [1114112] := by rintro w g rfl; exact Sees.lit .i64 w 3 [1114112] 1 (by decide) (by decide)
  have hr8 : Nm.put [97, 98] = ([2, 97, 98], 0) := by decide
  have HR8 := Lib.hid hr8; clear hr8
  have hs8 : str [97, 98] = ⟨#[97, 98]⟩ := rfl
  have HS8 := Lib.hid hs8; clear hs8
  have hr9 : Nm.getAt [2, 97] 0 = ([], 0, 4, 2) := by decide
  have HR9 := Lib.hid hr9; clear hr9
  have sl7 : ∀ (w : World) (g : Nat), g = w.heap.size → Sees .u8 (w.alloc (.cells #[.int .u8 2, .int .u8 97] 5)) (.slice (some ⟨g, 0, none⟩) 2 2) [2, 97] := by rintro w g rfl; exact Sees.lit .u8 w 5 [2, 97] 2 (by decide) (by decide)
  have hr10 : Nm.getAt [1, 255] 0 = ([], 0, 4, 1) := by decide
  have HR10 := Lib.hid hr10; clear hr10
  have sl8 : ∀ (w : World) (g : Nat), g = w.heap.size → Sees .u8 (w.alloc (.cells #[.int .u8 1, .int .u8 255] 5)) (.slice (some ⟨g, 0, none⟩) 2 2) [1, 255] := by rintro w g rfl; exact Sees.lit .u8 w 5 [1, 255] 2 (by decide) (by decide)
  have sl9 : ∀ (w : World) (g : Nat), g = w.heap.size → Sees .u8 (w.alloc (.cells #[.int .u8 226, .int .u8 130, .int .u8 172] 5)) (.slice (some ⟨g, 0, none⟩) 3 3) [226, 130, 172] := by rintro w g rfl; exact Sees.lit .u8 w 5 [226, 130, 172] 3 (by decide) (by decide)
  have sl10 : ∀ (w : World) (g : Nat), g = w.heap.size → Sees .u8 (w.alloc (.cells #[.int .u8 2, .int .u8 97, .int .u8 98] 5)) (.slice (some ⟨g, 0, none⟩) 3 3) [2, 97, 98] := by rintro w g rfl; exact Sees.lit .u8 w 5 [2, 97, 98] 3 (by decide) (by decide)
  have HT := Lib.hid hT; clear hT
  have hcc := Lib.run_convert_bytes_const (P := Tryd.prog) w 22 5 #[.int .u8 97] 1 1 Tryd.underlying22 Tryd.underlying5
  simp at hcc
  go_enter Tryd.func8, Tryd.ntmps8
  go_wp2_with fail
  refine (nmBadAt _ _ _ (slm _ _ (by simp)) (by intro n hn; simp at hn; omega) (HT.out.alloc (.cells #[.int .u8 97] 5 (1, 2))) (by decide)).mono ?_
  rintro _ w1 ⟨rfl, b1⟩
  rw [HR1.out]
  have T1 := Lib.hid ((HT.out.alloc (.cells #[.int .u8 97] 5 (1, 2))).below b1)
  have B1 := Lib.hid (B.call (B.alloc (B.refl w) (.cells #[.int .u8 97] 5 (1, 2))) b1)
  clear b1
  go_wp2_with fail
  refine (nmBadAt _ _ _ (sl1 _ _ (by simp)) (by intro n hn; simp at hn; omega) (T1.out.alloc (.cells #[.int .u8 97, .int .u8 195, .int .u8 169] 5)) (by decide)).mono ?_
  rintro _ w2 ⟨rfl, b2⟩
  rw [HR2.out]
  have T2 := Lib.hid ((T1.out.alloc (.cells #[.int .u8 97, .int .u8 195, .int .u8 169] 5)).below b2)
  have B2 := Lib.hid (B.call (B.alloc B1.out (.cells #[.int .u8 97, .int .u8 195, .int .u8 169] 5)) b2)
  clear b2
  go_wp2_with fail
  refine (nmBadAt _ _ _ (sl2 _ _ (by simp)) (by intro n hn; simp at hn; omega) (T2.out.alloc (.cells #[.int .u8 192, .int .u8 128] 5)) (by decide)).mono ?_
  rintro _ w3 ⟨rfl, b3⟩
  rw [HR3.out]
  have T3 := Lib.hid ((T2.out.alloc (.cells #[.int .u8 192, .int .u8 128] 5)).below b3)
  have B3 := Lib.hid (B.call (B.alloc B2.out (.cells #[.int .u8 192, .int .u8 128] 5)) b3)
  clear b3
  go_wp2_with fail
  refine (nmBadAt _ _ _ (sl3 _ _ (by simp)) (by intro n hn; simp at hn; omega) (T3.out.alloc (.cells #[.int .u8 237, .int .u8 160, .int .u8 128] 5)) (by decide)).mono ?_
  rintro _ w4 ⟨rfl, b4⟩
  rw [HR4.out]
  have T4 := Lib.hid ((T3.out.alloc (.cells #[.int .u8 237, .int .u8 160, .int .u8 128] 5)).below b4)
  have B4 := Lib.hid (B.call (B.alloc B3.out (.cells #[.int .u8 237, .int .u8 160, .int .u8 128] 5)) b4)
  clear b4
  go_wp2_with fail
  refine (nmOf _ [8364] _ (sl4 _ _ (by simp)) (by decide)).mono ?_
  rintro _ w5 ⟨⟨v5, rfl, o5⟩, b5⟩
  rw [HR5.out] at o5 ⊢
  obtain ⟨A5, n5, rfl, _, _⟩ := o5.len
  have T5 := Lib.hid ((T4.out.alloc (.cells #[.int .i64 8364] 3)).below b5)
  have B5 := Lib.hid (B.call (B.alloc B4.out (.cells #[.int .i64 8364] 3)) b5)
  have Sx_5 := Lib.hid o5; clear o5 b5
  go_wp2_with fail
  refine (nmOf _ [55296] _ (sl5 _ _ (by simp)) (by decide)).mono ?_
  rintro _ w6 ⟨⟨v6, rfl, o6⟩, b6⟩
  rw [HR6.out] at o6 ⊢
  obtain ⟨A6, n6, rfl, _, _⟩ := o6.len
  have Sx_6 := Lib.hid ((Sx_5.out.alloc (.cells #[.int .i64 55296] 3)).below b6 (Nat.le_refl _)); clear Sx_5
  have T6 := Lib.hid ((T5.out.alloc (.cells #[.int .i64 55296] 3)).below b6)
  have B6 := Lib.hid (B.call (B.alloc B5.out (.cells #[.int .i64 55296] 3)) b6)
  have Sy_6 := Lib.hid o6; clear o6 b6
  go_wp2_with fail
  refine (nmOf _ [1114112] _ (sl6 _ _ (by simp)) (by decide)).mono ?_
  rintro _ w7 ⟨⟨v7, rfl, o7⟩, b7⟩
  rw [HR7.out] at o7 ⊢
  obtain ⟨A7, n7, rfl, _, _⟩ := o7.len
  have Sx_7 := Lib.hid ((Sx_6.out.alloc (.cells #[.int .i64 1114112] 3)).below b7 (Nat.le_refl _)); clear Sx_6
  have Sy_7 := Lib.hid ((Sy_6.out.alloc (.cells #[.int .i64 1114112] 3)).below b7 (Nat.le_refl _)); clear Sy_6
  have T7 := Lib.hid ((T6.out.alloc (.cells #[.int .i64 1114112] 3)).below b7)
  have B7 := Lib.hid (B.call (B.alloc B6.out (.cells #[.int .i64 1114112] 3)) b7)
  have Sz_7 := Lib.hid o7; clear o7 b7
  go_wp2_with fail
  rw [← HS8.out]
  refine (nmPut [97, 98] _ (by intro n hn; simp at hn; omega) T7.out (by decide)).mono ?_
  rintro _ w8 ⟨⟨v8, rfl, o8⟩, b8⟩
  rw [HR8.out] at o8 ⊢
  obtain ⟨A8, n8, rfl, _, _⟩ := o8.len
  have Sx_8 := Lib.hid (Sx_7.out.below b8 (Nat.le_refl _)); clear Sx_7
  have T8 := Lib.hid (T7.out.below b8)
  have B8 := Lib.hid (B.call B7.out b8)
  have Sp_8 := Lib.hid o8; clear o8 b8
  go_wp2_with fail
  refine (nmGet _ _ _ _ (sl7 _ _ (by simp)) (by intro n hn; simp at hn; omega) (T8.out.alloc (.cells #[.int .u8 2, .int .u8 97] 5)) (by decide)).mono ?_
  rintro _ w9 ⟨rfl, b9⟩
  rw [HR9.out]
  simp only [tupN]
  have Sx_9 := Lib.hid ((Sx_8.out.alloc (.cells #[.int .u8 2, .int .u8 97] 5)).below b9 (Nat.le_refl _)); clear Sx_8
  have Sp_9 := Lib.hid ((Sp_8.out.alloc (.cells #[.int .u8 2, .int .u8 97] 5)).below b9 (Nat.le_refl _)); clear Sp_8
  have T9 := Lib.hid ((T8.out.alloc (.cells #[.int .u8 2, .int .u8 97] 5)).below b9)
  have B9 := Lib.hid (B.call (B.alloc B8.out (.cells #[.int .u8 2, .int .u8 97] 5)) b9)
  clear b9
  go_wp2_with fail
  refine (nmGet _ _ _ _ (sl8 _ _ (by simp)) (by intro n hn; simp at hn; omega) ((T9.out.alloc (.cells #[.int .i64 4, .int .i64 2] 27)).alloc (.cells #[.int .u8 1, .int .u8 255] 5)) (by decide)).mono ?_
  rintro _ w10 ⟨rfl, b10⟩
  rw [HR10.out]
  simp only [tupN]
  have Vf_10 := Lib.hid (((VB.new w9 27 #[.int .i64 4, .int .i64 2]).alloc (.cells #[.int .u8 1, .int .u8 255] 5)).call b10)
  try simp only [World.size_alloc] at Vf_10
  have Sx_10 := Lib.hid (((Sx_9.out.alloc (.cells #[.int .i64 4, .int .i64 2] 27)).alloc (.cells #[.int .u8 1, .int .u8 255] 5)).below b10 (Nat.le_refl _)); clear Sx_9
  have Sp_10 := Lib.hid (((Sp_9.out.alloc (.cells #[.int .i64 4, .int .i64 2] 27)).alloc (.cells #[.int .u8 1, .int .u8 255] 5)).below b10 (Nat.le_refl _)); clear Sp_9
  have T10 := Lib.hid (((T9.out.alloc (.cells #[.int .i64 4, .int .i64 2] 27)).alloc (.cells #[.int .u8 1, .int .u8 255] 5)).below b10)
  have B10 := Lib.hid (B.call (B.alloc (B.alloc B9.out (.cells #[.int .i64 4, .int .i64 2] 27)) (.cells #[.int .u8 1, .int .u8 255] 5)) b10)
  clear b10
  have cf0 := Vf_10.out.cell 0
  have cf1 := Vf_10.out.cell 1
  have lf := Vf_10.out.lt
  try have mf := Nat.lt_of_succ_lt lf
  simp at cf0 cf1
  go_wp2_with fail
  refine (sameBytes ((Sx_10.out.alloc (.cells #[.int .i64 4, .int .i64 1] 27)).alloc (.cells #[.int .u8 226, .int .u8 130, .int .u8 172] 5)) (sl9 _ (w10.heap.size + 1) (by simp)) (by intro n hn; simp at hn; omega) (by intro n hn; simp at hn; omega) true (by decide)).mono ?_
  rintro _ w' ⟨rfl, rfl⟩
  go_wp2_with fail
  refine (sameBytes (((Sp_10.out.alloc (.cells #[.int .i64 4, .int .i64 1] 27)).alloc (.cells #[.int .u8 226, .int .u8 130, .int .u8 172] 5)).alloc (.cells #[.int .u8 2, .int .u8 97, .int .u8 98] 5)) (sl10 _ (w10.heap.size + 1 + 1) (by simp)) (by intro n hn; simp at hn; omega) (by intro n hn; simp at hn; omega) true (by decide)).mono ?_
  rintro _ w' ⟨rfl, rfl⟩
  go_wp2_with fail
  refine (awake02 _ (((T10.out.alloc (.cells #[.int .i64 4, .int .i64 1] 27)).alloc (.cells #[.int .u8 226, .int .u8 130, .int .u8 172] 5)).alloc (.cells #[.int .u8 2, .int .u8 97, .int .u8 98] 5))).mono ?_
  rintro _ w11 ⟨rfl, b11⟩
  have Vf_11 := Lib.hid ((((Vf_10.out.alloc (.cells #[.int .i64 4, .int .i64 1] 27)).alloc (.cells #[.int .u8 226, .int .u8 130, .int .u8 172] 5)).alloc (.cells #[.int .u8 2, .int .u8 97, .int .u8 98] 5)).call b11); clear Vf_10
  have Vg_11 := Lib.hid ((((VB.new w10 27 #[.int .i64 4, .int .i64 1]).alloc (.cells #[.int .u8 226, .int .u8 130, .int .u8 172] 5)).alloc (.cells #[.int .u8 2, .int .u8 97, .int .u8 98] 5)).call b11)
  try simp only [World.size_alloc] at Vg_11
  have Sx_11 := Lib.hid ((((Sx_10.out.alloc (.cells #[.int .i64 4, .int .i64 1] 27)).alloc (.cells #[.int .u8 226, .int .u8 130, .int .u8 172] 5)).alloc (.cells #[.int .u8 2, .int .u8 97, .int .u8 98] 5)).below b11 (Nat.le_refl _)); clear Sx_10
  have Sp_11 := Lib.hid ((((Sp_10.out.alloc (.cells #[.int .i64 4, .int .i64 1] 27)).alloc (.cells #[.int .u8 226, .int .u8 130, .int .u8 172] 5)).alloc (.cells #[.int .u8 2, .int .u8 97, .int .u8 98] 5)).below b11 (Nat.le_refl _)); clear Sp_10
  have T11 := Lib.hid ((((T10.out.alloc (.cells #[.int .i64 4, .int .i64 1] 27)).alloc (.cells #[.int .u8 226, .int .u8 130, .int .u8 172] 5)).alloc (.cells #[.int .u8 2, .int .u8 97, .int .u8 98] 5)).below b11)
  have B11 := Lib.hid (B.call (B.alloc (B.alloc (B.alloc B10.out (.cells #[.int .i64 4, .int .i64 1] 27)) (.cells #[.int .u8 226, .int .u8 130, .int .u8 172] 5)) (.cells #[.int .u8 2, .int .u8 97, .int .u8 98] 5)) b11)
  have cf0_e := Vf_11.out.cell 0
  have cf1_e := Vf_11.out.cell 1
  have lf_e := Vf_11.out.lt
  try have mf_e := Nat.lt_of_succ_lt lf_e
  have cg0_e := Vg_11.out.cell 0
  have cg1_e := Vg_11.out.cell 1
  have lg_e := Vg_11.out.lt
  try have mg_e := Nat.lt_of_succ_lt lg_e
  simp at cf0_e cf1_e cg0_e cg1_e
  go_wp2_with fail
  go_returns
  exact ⟨rfl, B11.out⟩

end Go.Proofs.YtdlfmchpaohoaaaDoor
