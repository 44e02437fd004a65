/- The law WordKnown: the walk. -/
import Derived.Test.YtgohnekaolgblaaWordPlans
namespace Go.Proofs.Ytgohnekaolgblaa
open Go.RowKit

theorem Wd.read_20 : Wd.read Wd.pairW 16 20 = (Wd.zero, 4) := by
  unfold Wd.read
  rw [if_neg (by decide), if_neg (by decide), show Wd.rd Wd.pairW 16 200 20 0 0 = none by kernel_rfl]
theorem Wd.read_11 : Wd.read [] 16 11 = (.mk 1 5 ⟨#[]⟩ [], 0) := by
  unfold Wd.read
  rw [if_neg (by decide), if_neg (by decide), show Wd.rd [] 16 200 11 0 0 = some (.mk 1 5 ⟨#[]⟩ [], 0, 1) by kernel_rfl]
  rfl
theorem tupP_4 : tupP 4 100 = .tuple #[.agg #[.int .u32 16, .int .u32 120, .int .u32 32872, .int .u32 147504, .int .u32 262136], .int .i64 0] := by
  unfold tupP
  rw [if_pos (by decide)]
  rfl

set_option maxHeartbeats 8000000 in
set_option maxRecDepth 100000 in
theorem wordKnownWalk (w : World) : Calls Try.prog 14 #[] w fun e w' => e = .returned (.bool true) ∧ Below w.heap.size w w' := by
  have C0 := fun w => wdInt (-1) w
  rw [show Wd.int (-1) = (4294967295, 0) by decide] at C0
  have C1 := fun w => wdOf 4294967295 w (by omega) (by omega)
  rw [show Wd.of 4294967295 = (-1, true) by decide] at C1
  have C2 := fun w => wdOf 4 w (by omega) (by omega)
  rw [show Wd.of 4 = (0, false) by decide] at C2
  have C3 := fun w => wdInt 1073741824 w
  rw [show Wd.int 1073741824 = (0, 5) by decide] at C3
  have C4 := fun w => wdHead 0 3 2 w
  rw [show Wd.head 0 3 2 = (196625, 0) by decide] at C4
  have C5 := fun w => wdUnhead 196625 w (by omega) (by omega)
  rw [show Wd.unhead 196625 = (0, 3, 2, true) by decide] at C5
  have C6 := fun w => wdHead 2 0 5 w
  rw [show Wd.head 2 0 5 = (45, 0) by decide] at C6
  have C7 := fun w => wdWords 45 w (by omega) (by omega)
  rw [show Wd.words 45 = (3, true) by decide] at C7
  have C8 := fun (v : Value) (w : World) (hs : Sees .u32 w v Wd.pairW) => wdRead v Wd.pairW 16 20 w hs (by omega) (by omega) (by omega) Wd.pairW_range
  rw [Wd.read_20] at C8
  have C9 := fun (w : World) => wdRead (.slice none 0 0) [] 16 11 w (Sees.nil _ _) (by omega) (by omega) (by omega) (by simp)
  rw [Wd.read_11] at C9
  have C10 := fun w => wdPlanAll 4 100 w (by omega) (by omega)
  rw [tupP_4] at C10
  replace C0 := Lib.hid C0
  replace C1 := Lib.hid C1
  replace C2 := Lib.hid C2
  replace C3 := Lib.hid C3
  replace C4 := Lib.hid C4
  replace C5 := Lib.hid C5
  replace C6 := Lib.hid C6
  replace C7 := Lib.hid C7
  replace C8 := Lib.hid C8
  replace C9 := Lib.hid C9
  replace C10 := Lib.hid C10
  go_enter Try.func14, Try.ntmps14
  go_wp2_with fail
  refine (C0.out _).mono ?_
  rintro _ w1 ⟨rfl, hw1⟩
  subst hw1
  go_wp2_with fail
  refine (C1.out _).mono ?_
  rintro _ w1 ⟨rfl, hw1⟩
  subst hw1
  go_wp2_with fail
  refine (C2.out _).mono ?_
  rintro _ w1 ⟨rfl, hw1⟩
  subst hw1
  go_wp2_with fail
  refine (C3.out _).mono ?_
  rintro _ w1 ⟨rfl, hw1⟩
  subst hw1
  go_wp2_with fail
  refine (C4.out _).mono ?_
  rintro _ w1 ⟨rfl, hw1⟩
  subst hw1
  go_wp2_with fail
  refine (C5.out _).mono ?_
  rintro _ w1 ⟨rfl, hw1⟩
  subst hw1
  go_wp2_with fail
  refine (C6.out _).mono ?_
  rintro _ w1 ⟨rfl, hw1⟩
  subst hw1
  go_wp2_with fail
  refine (C7.out _).mono ?_
  rintro _ w1 ⟨rfl, hw1⟩
  subst hw1
  clear C0 C1 C2 C3 C4 C5 C6 C7
  go_wp2_with fail
  refine (C8.out _ _ (lit5 _)).mono ?_
  rintro _ w2 ⟨v2, rfl, at2, b2⟩
  obtain ⟨A2, k2, rfl, -⟩ := Tr.at_agg at2
  have B2 := Lib.hid (B.call (B.alloc (B.refl _) _) b2)
  clear at2 b2
  go_wp2_with fail
  refine (C9.out _).mono ?_
  rintro _ w3 ⟨v3, rfl, at3, b3⟩
  rw [Tr.at_mk] at at3
  obtain ⟨A3, k3, rfl, q1, q2, -⟩ := at3
  have B3 := Lib.hid (B.call (B.alloc B2.out _) b3)
  clear b3 B2
  go_wp2_with fail
  refine (C10.out _).mono ?_
  rintro _ w4 ⟨rfl, b4⟩
  have v3 := VB.call (VB.new w3 58 #[.int .i64 1, .int .i64 5, .string ⟨#[]⟩, .slice A3 0 k3]) b4
  have x1 := v3.cell 1
  have lx := v3.lt
  simp at x1
  have B4 := Lib.hid (B.call (B.alloc B3.out _) b4)
  clear b4 B3 v3 C8 C9 C10
  go_wp2_with fail
  refine (awake27 _).mono ?_
  rintro _ w5 ⟨rfl, b5⟩
  have v5 := VB.call (VB.new w4 32 #[.int .u32 16, .int .u32 120, .int .u32 32872, .int .u32 147504, .int .u32 262136]) b5
  have y0 := v5.cell 0
  have y1 := v5.cell 1
  have y2 := v5.cell 2
  have y3 := v5.cell 3
  have y4 := v5.cell 4
  have ly := v5.lt
  have z1 := cellK b5 (cellA x1 _)
  simp at y0 y1 y2 y3 y4
  have B5 := Lib.hid (B.call (B.alloc B4.out _) b5)
  clear b5 B4 v5
  go_wp2_with fail
  go_returns
  exact ⟨rfl, B5.out⟩

end Go.Proofs.Ytgohnekaolgblaa
