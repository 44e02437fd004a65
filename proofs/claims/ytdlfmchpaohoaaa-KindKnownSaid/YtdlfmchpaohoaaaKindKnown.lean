/- The law KindKnown: the walk (printed by wip/gen_kindknown.py). -/
import Derived.Test.YtdlfmchpaohoaaaKindAwake
import Derived.Test.YtdlfmchpaohoaaaKindGetLim
namespace Go.Proofs.Ytdlfmchpaohoaaa
open Go.RowKit

set_option maxRecDepth 100000 in
set_option maxHeartbeats 8000000 in
theorem kindKnownWalk (w : World) : Calls Try.prog 8 #[] w fun e w' => e = .returned (.bool true) ∧ Below w.heap.size w w' := by
  have hr1 : Kind.getAt [96, 0, 2] 0 = (0, 0, 0, 141, 2) := by decide
  have HR1 := Lib.hid hr1; clear hr1
  have sl1 : ∀ (w : World) (g : Nat), g = w.heap.size → Sees .u8 (w.alloc (.cells #[.int .u8 96, .int .u8 0, .int .u8 2] 5)) (.slice (some ⟨g, 0, none⟩) 3 3) [96, 0, 2] := by rintro w g rfl; exact Sees.lit .u8 w 5 [96, 0, 2] 3 (by decide) (by decide)
  have hr2 : Kind.getAt [96, 1, 126] 0 = (0, 0, 0, 140, 2) := by decide
  have HR2 := Lib.hid hr2; clear hr2
  have sl2 : ∀ (w : World) (g : Nat), g = w.heap.size → Sees .u8 (w.alloc (.cells #[.int .u8 96, .int .u8 1, .int .u8 126] 5)) (.slice (some ⟨g, 0, none⟩) 3 3) [96, 1, 126] := by rintro w g rfl; exact Sees.lit .u8 w 5 [96, 1, 126] 3 (by decide) (by decide)
  have hr3 : Kind.getAt [95] 0 = (0, 0, 0, 140, 0) := by decide
  have HR3 := Lib.hid hr3; clear hr3
  have sl3 : ∀ (w : World) (g : Nat), g = w.heap.size → Sees .u8 (w.alloc (.cells #[.int .u8 95] 5)) (.slice (some ⟨g, 0, none⟩) 1 1) [95] := by rintro w g rfl; exact Sees.lit .u8 w 5 [95] 1 (by decide) (by decide)
  have hr4 : Kind.getAt [96, 1] 0 = (0, 0, 0, 4, 2) := by decide
  have HR4 := Lib.hid hr4; clear hr4
  have sl4 : ∀ (w : World) (g : Nat), g = w.heap.size → Sees .u8 (w.alloc (.cells #[.int .u8 96, .int .u8 1] 5)) (.slice (some ⟨g, 0, none⟩) 2 2) [96, 1] := by rintro w g rfl; exact Sees.lit .u8 w 5 [96, 1] 2 (by decide) (by decide)
  have hr5 : Kind.lim 4 0 false 65536 = 0 := by decide
  have hq5 : Kind.putLim 4 0 false 65536 = [0, 4] := by decide
  have HR5 := Lib.hid hr5; clear hr5
  have HQ5 := Lib.hid hq5; clear hq5
  have hr6 : Kind.lim 4 3 true 65536 = 2 := by decide
  have hq6 : Kind.putLim 4 3 true 65536 = [] := by decide
  have HR6 := Lib.hid hr6; clear hr6
  have HQ6 := Lib.hid hq6; clear hq6
  have hr7 : Kind.limitsAt [1, 4, 3] 0 100 = (0, 0, 0, 0, 141, 2) := by decide
  have HR7 := Lib.hid hr7; clear hr7
  have sl5 : ∀ (w : World) (g : Nat), g = w.heap.size → Sees .u8 (w.alloc (.cells #[.int .u8 1, .int .u8 4, .int .u8 3] 5)) (.slice (some ⟨g, 0, none⟩) 3 3) [1, 4, 3] := by rintro w g rfl; exact Sees.lit .u8 w 5 [1, 4, 3] 3 (by decide) (by decide)
  have hr8 : Kind.limitsAt [0, 101] 0 100 = (0, 0, 0, 0, 141, 1) := by decide
  have HR8 := Lib.hid hr8; clear hr8
  have sl6 : ∀ (w : World) (g : Nat), g = w.heap.size → Sees .u8 (w.alloc (.cells #[.int .u8 0, .int .u8 101] 5)) (.slice (some ⟨g, 0, none⟩) 2 2) [0, 101] := by rintro w g rfl; exact Sees.lit .u8 w 5 [0, 101] 2 (by decide) (by decide)
  have hr9 : Kind.limitsAt [2] 0 100 = (0, 0, 0, 0, 140, 0) := by decide
  have HR9 := Lib.hid hr9; clear hr9
  have sl7 : ∀ (w : World) (g : Nat), g = w.heap.size → Sees .u8 (w.alloc (.cells #[.int .u8 2] 5)) (.slice (some ⟨g, 0, none⟩) 1 1) [2] := by rintro w g rfl; exact Sees.lit .u8 w 5 [2] 1 (by decide) (by decide)
  have slq : ∀ (w : World) (g : Nat), g = w.heap.size → Sees .u8 (w.alloc (.cells #[.int .u8 0, .int .u8 4] 5)) (.slice (some ⟨g, 0, none⟩) 2 2) [0, 4] := by rintro w g rfl; exact Sees.lit .u8 w 5 [0, 4] 2 (by decide) (by decide)
  go_enter Try.func8, Try.ntmps8
  go_wp2_with fail
  refine (kindGet _ _ _ _ (sl1 _ _ (by simp)) (by intro n hn; simp at hn; omega) (by decide)).mono ?_
  rintro _ w1 ⟨rfl, b1⟩
  rw [HR1.out]
  simp only [tupT]
  have B1 := Lib.hid (B.call (B.alloc (B.refl w) (.cells #[.int .u8 96, .int .u8 0, .int .u8 2] 5)) b1)
  clear b1
  go_wp2_with fail
  refine (kindGet _ _ _ _ (sl2 _ _ (by simp)) (by intro n hn; simp at hn; omega) (by decide)).mono ?_
  rintro _ w2 ⟨rfl, b2⟩
  rw [HR2.out]
  simp only [tupT]
  have Va_2 := Lib.hid (((VB.new (w1.alloc (.cells #[.int .i64 0, .int .i64 0] 42)) 33 #[.int .i64 141, .int .i64 2]).alloc (.cells #[.int .u8 96, .int .u8 1, .int .u8 126] 5)).call b2)
  try simp only [World.size_alloc] at Va_2
  have B2 := Lib.hid (B.call (B.alloc (B.alloc (B.alloc B1.out (.cells #[.int .i64 0, .int .i64 0] 42)) (.cells #[.int .i64 141, .int .i64 2] 33)) (.cells #[.int .u8 96, .int .u8 1, .int .u8 126] 5)) b2)
  clear b2
  go_wp2_with fail
  refine (kindGet _ _ _ _ (sl3 _ _ (by simp)) (by intro n hn; simp at hn; omega) (by decide)).mono ?_
  rintro _ w3 ⟨rfl, b3⟩
  rw [HR3.out]
  simp only [tupT]
  have Va_3 := Lib.hid ((((Va_2.out.alloc (.cells #[.int .i64 0, .int .i64 0] 42)).alloc (.cells #[.int .i64 140, .int .i64 2] 33)).alloc (.cells #[.int .u8 95] 5)).call b3); clear Va_2
  have Vb_3 := Lib.hid (((VB.new (w2.alloc (.cells #[.int .i64 0, .int .i64 0] 42)) 33 #[.int .i64 140, .int .i64 2]).alloc (.cells #[.int .u8 95] 5)).call b3)
  try simp only [World.size_alloc] at Vb_3
  have B3 := Lib.hid (B.call (B.alloc (B.alloc (B.alloc B2.out (.cells #[.int .i64 0, .int .i64 0] 42)) (.cells #[.int .i64 140, .int .i64 2] 33)) (.cells #[.int .u8 95] 5)) b3)
  clear b3
  go_wp2_with fail
  refine (kindGet _ _ _ _ (sl4 _ _ (by simp)) (by intro n hn; simp at hn; omega) (by decide)).mono ?_
  rintro _ w4 ⟨rfl, b4⟩
  rw [HR4.out]
  simp only [tupT]
  have Va_4 := Lib.hid ((((Va_3.out.alloc (.cells #[.int .i64 0, .int .i64 0] 42)).alloc (.cells #[.int .i64 140, .int .i64 0] 33)).alloc (.cells #[.int .u8 96, .int .u8 1] 5)).call b4); clear Va_3
  have Vb_4 := Lib.hid ((((Vb_3.out.alloc (.cells #[.int .i64 0, .int .i64 0] 42)).alloc (.cells #[.int .i64 140, .int .i64 0] 33)).alloc (.cells #[.int .u8 96, .int .u8 1] 5)).call b4); clear Vb_3
  have Vc_4 := Lib.hid (((VB.new (w3.alloc (.cells #[.int .i64 0, .int .i64 0] 42)) 33 #[.int .i64 140, .int .i64 0]).alloc (.cells #[.int .u8 96, .int .u8 1] 5)).call b4)
  try simp only [World.size_alloc] at Vc_4
  have B4 := Lib.hid (B.call (B.alloc (B.alloc (B.alloc B3.out (.cells #[.int .i64 0, .int .i64 0] 42)) (.cells #[.int .i64 140, .int .i64 0] 33)) (.cells #[.int .u8 96, .int .u8 1] 5)) b4)
  clear b4
  go_wp2_with fail
  refine (kindPutLim 4 0 65536 false _ (by decide) (by decide) (by decide) (by decide)).mono ?_
  rintro _ w5 ⟨⟨v5, rfl, o5⟩, b5⟩
  rw [HR5.out]
  rw [HQ5.out] at o5
  obtain ⟨A5, n5, rfl, _, _⟩ := o5.len
  have O5 := Lib.hid o5; clear o5
  have Va_5 := Lib.hid (((Va_4.out.alloc (.cells #[.int .i64 0, .int .i64 0] 42)).alloc (.cells #[.int .i64 4, .int .i64 2] 33)).call b5); clear Va_4
  have Vb_5 := Lib.hid (((Vb_4.out.alloc (.cells #[.int .i64 0, .int .i64 0] 42)).alloc (.cells #[.int .i64 4, .int .i64 2] 33)).call b5); clear Vb_4
  have Vc_5 := Lib.hid (((Vc_4.out.alloc (.cells #[.int .i64 0, .int .i64 0] 42)).alloc (.cells #[.int .i64 4, .int .i64 2] 33)).call b5); clear Vc_4
  have Vd_5 := Lib.hid ((VB.new (w4.alloc (.cells #[.int .i64 0, .int .i64 0] 42)) 33 #[.int .i64 4, .int .i64 2]).call b5)
  try simp only [World.size_alloc] at Vd_5
  have B5 := Lib.hid (B.call (B.alloc (B.alloc B4.out (.cells #[.int .i64 0, .int .i64 0] 42)) (.cells #[.int .i64 4, .int .i64 2] 33)) b5)
  clear b5
  go_wp2_with fail
  refine (kindPutLim 4 3 65536 true _ (by decide) (by decide) (by decide) (by decide)).mono ?_
  rintro _ w6 ⟨⟨v6, rfl, o6⟩, b6⟩
  rw [HR6.out]
  rw [HQ6.out] at o6
  obtain ⟨A6, n6, rfl, _, _⟩ := o6.len
  have O6 := Lib.hid o6; clear o6
  have Va_6 := Lib.hid (Va_5.out.call b6); clear Va_5
  have Vb_6 := Lib.hid (Vb_5.out.call b6); clear Vb_5
  have Vc_6 := Lib.hid (Vc_5.out.call b6); clear Vc_5
  have Vd_6 := Lib.hid (Vd_5.out.call b6); clear Vd_5
  have B6 := Lib.hid (B.call B5.out b6)
  have S6 := Lib.hid (O5.out.below b6 (Nat.le_refl _))
  clear b6
  go_wp2_with fail
  refine (kindLim _ _ _ _ _ (sl5 _ _ (by simp)) (by intro n hn; simp at hn; omega) (by decide)).mono ?_
  rintro _ w7 ⟨rfl, b7⟩
  rw [HR7.out]
  simp only [tupL]
  have Va_7 := Lib.hid ((Va_6.out.alloc (.cells #[.int .u8 1, .int .u8 4, .int .u8 3] 5)).call b7); clear Va_6
  have Vb_7 := Lib.hid ((Vb_6.out.alloc (.cells #[.int .u8 1, .int .u8 4, .int .u8 3] 5)).call b7); clear Vb_6
  have Vc_7 := Lib.hid ((Vc_6.out.alloc (.cells #[.int .u8 1, .int .u8 4, .int .u8 3] 5)).call b7); clear Vc_6
  have Vd_7 := Lib.hid ((Vd_6.out.alloc (.cells #[.int .u8 1, .int .u8 4, .int .u8 3] 5)).call b7); clear Vd_6
  have B7 := Lib.hid (B.call (B.alloc B6.out (.cells #[.int .u8 1, .int .u8 4, .int .u8 3] 5)) b7)
  have S7 := Lib.hid ((S6.out.alloc (.cells #[.int .u8 1, .int .u8 4, .int .u8 3] 5)).below b7 (Nat.le_refl _))
  clear b7
  go_wp2_with fail
  refine (kindLim _ _ _ _ _ (sl6 _ _ (by simp)) (by intro n hn; simp at hn; omega) (by decide)).mono ?_
  rintro _ w8 ⟨rfl, b8⟩
  rw [HR8.out]
  simp only [tupL]
  have Va_8 := Lib.hid ((((Va_7.out.alloc (.cells #[.int .u32 0, .int .u32 0, .bool false] 46)).alloc (.cells #[.int .i64 141, .int .i64 2] 33)).alloc (.cells #[.int .u8 0, .int .u8 101] 5)).call b8); clear Va_7
  have Vb_8 := Lib.hid ((((Vb_7.out.alloc (.cells #[.int .u32 0, .int .u32 0, .bool false] 46)).alloc (.cells #[.int .i64 141, .int .i64 2] 33)).alloc (.cells #[.int .u8 0, .int .u8 101] 5)).call b8); clear Vb_7
  have Vc_8 := Lib.hid ((((Vc_7.out.alloc (.cells #[.int .u32 0, .int .u32 0, .bool false] 46)).alloc (.cells #[.int .i64 141, .int .i64 2] 33)).alloc (.cells #[.int .u8 0, .int .u8 101] 5)).call b8); clear Vc_7
  have Vd_8 := Lib.hid ((((Vd_7.out.alloc (.cells #[.int .u32 0, .int .u32 0, .bool false] 46)).alloc (.cells #[.int .i64 141, .int .i64 2] 33)).alloc (.cells #[.int .u8 0, .int .u8 101] 5)).call b8); clear Vd_7
  have Vg_8 := Lib.hid (((VB.new (w7.alloc (.cells #[.int .u32 0, .int .u32 0, .bool false] 46)) 33 #[.int .i64 141, .int .i64 2]).alloc (.cells #[.int .u8 0, .int .u8 101] 5)).call b8)
  try simp only [World.size_alloc] at Vg_8
  have B8 := Lib.hid (B.call (B.alloc (B.alloc (B.alloc B7.out (.cells #[.int .u32 0, .int .u32 0, .bool false] 46)) (.cells #[.int .i64 141, .int .i64 2] 33)) (.cells #[.int .u8 0, .int .u8 101] 5)) b8)
  have S8 := Lib.hid ((((S7.out.alloc (.cells #[.int .u32 0, .int .u32 0, .bool false] 46)).alloc (.cells #[.int .i64 141, .int .i64 2] 33)).alloc (.cells #[.int .u8 0, .int .u8 101] 5)).below b8 (Nat.le_refl _))
  clear b8
  go_wp2_with fail
  refine (kindLim _ _ _ _ _ (sl7 _ _ (by simp)) (by intro n hn; simp at hn; omega) (by decide)).mono ?_
  rintro _ w9 ⟨rfl, b9⟩
  rw [HR9.out]
  simp only [tupL]
  have Va_9 := Lib.hid ((((Va_8.out.alloc (.cells #[.int .u32 0, .int .u32 0, .bool false] 46)).alloc (.cells #[.int .i64 141, .int .i64 1] 33)).alloc (.cells #[.int .u8 2] 5)).call b9); clear Va_8
  have Vb_9 := Lib.hid ((((Vb_8.out.alloc (.cells #[.int .u32 0, .int .u32 0, .bool false] 46)).alloc (.cells #[.int .i64 141, .int .i64 1] 33)).alloc (.cells #[.int .u8 2] 5)).call b9); clear Vb_8
  have Vc_9 := Lib.hid ((((Vc_8.out.alloc (.cells #[.int .u32 0, .int .u32 0, .bool false] 46)).alloc (.cells #[.int .i64 141, .int .i64 1] 33)).alloc (.cells #[.int .u8 2] 5)).call b9); clear Vc_8
  have Vd_9 := Lib.hid ((((Vd_8.out.alloc (.cells #[.int .u32 0, .int .u32 0, .bool false] 46)).alloc (.cells #[.int .i64 141, .int .i64 1] 33)).alloc (.cells #[.int .u8 2] 5)).call b9); clear Vd_8
  have Vg_9 := Lib.hid ((((Vg_8.out.alloc (.cells #[.int .u32 0, .int .u32 0, .bool false] 46)).alloc (.cells #[.int .i64 141, .int .i64 1] 33)).alloc (.cells #[.int .u8 2] 5)).call b9); clear Vg_8
  have Vh_9 := Lib.hid (((VB.new (w8.alloc (.cells #[.int .u32 0, .int .u32 0, .bool false] 46)) 33 #[.int .i64 141, .int .i64 1]).alloc (.cells #[.int .u8 2] 5)).call b9)
  try simp only [World.size_alloc] at Vh_9
  have B9 := Lib.hid (B.call (B.alloc (B.alloc (B.alloc B8.out (.cells #[.int .u32 0, .int .u32 0, .bool false] 46)) (.cells #[.int .i64 141, .int .i64 1] 33)) (.cells #[.int .u8 2] 5)) b9)
  have S9 := Lib.hid ((((S8.out.alloc (.cells #[.int .u32 0, .int .u32 0, .bool false] 46)).alloc (.cells #[.int .i64 141, .int .i64 1] 33)).alloc (.cells #[.int .u8 2] 5)).below b9 (Nat.le_refl _))
  clear b9
  have ca0 := Va_9.out.cell 0
  have ca1 := Va_9.out.cell 1
  have la := Va_9.out.lt
  have ma := Nat.lt_of_succ_lt la
  have cb0 := Vb_9.out.cell 0
  have cb1 := Vb_9.out.cell 1
  have lb := Vb_9.out.lt
  have mb := Nat.lt_of_succ_lt lb
  have cc0 := Vc_9.out.cell 0
  have cc1 := Vc_9.out.cell 1
  have lc := Vc_9.out.lt
  have mc := Nat.lt_of_succ_lt lc
  have cd0 := Vd_9.out.cell 0
  have cd1 := Vd_9.out.cell 1
  have ld := Vd_9.out.lt
  have md := Nat.lt_of_succ_lt ld
  have cg0 := Vg_9.out.cell 0
  have cg1 := Vg_9.out.cell 1
  have lg := Vg_9.out.lt
  have mg := Nat.lt_of_succ_lt lg
  have ch0 := Vh_9.out.cell 0
  have ch1 := Vh_9.out.cell 1
  have lh := Vh_9.out.lt
  have mh := Nat.lt_of_succ_lt lh
  simp at ca0 ca1 cb0 cb1 cc0 cc1 cd0 cd1 cg0 cg1 ch0 ch1
  go_wp2_with fail
  have sq := (((S9.out.alloc (.cells #[.int .u32 0, .int .u32 0, .bool false] 46)).alloc (.cells #[.int .i64 140, .int .i64 0] 33)).alloc (.cells #[.int .u8 0, .int .u8 4] 5))
  refine (sameBytes sq (slq _ (w9.heap.size + 1 + 1) (by simp)) (by intro n hn; simp at hn; omega) (by intro n hn; simp at hn; omega) true (by decide)).mono ?_
  rintro _ w' ⟨rfl, rfl⟩
  go_wp2_with fail
  refine (awake04 _).mono ?_
  rintro _ w10 ⟨rfl, b10⟩
  go_wp2_with fail
  go_returns
  exact ⟨rfl, B.call (B.alloc (B.alloc (B.alloc B9.out (.cells #[.int .u32 0, .int .u32 0, .bool false] 46)) (.cells #[.int .i64 140, .int .i64 0] 33)) (.cells #[.int .u8 0, .int .u8 4] 5)) b10⟩

end Go.Proofs.Ytdlfmchpaohoaaa
