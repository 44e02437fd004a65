/- The law WordPlans: the walk. -/
import Derived.Test.YtgohnekaolgblaaWdAwake
import Derived.Test.YtgohnekaolgblaaWdPlan
namespace Go.Proofs.Ytgohnekaolgblaa
open Go.RowKit

theorem tupP_parts (p s : Int) : ∃ c0 c1 c2 c3 c4 ee, tupP p s = .tuple #[.agg #[.int .u32 c0, .int .u32 c1, .int .u32 c2, .int .u32 c3, .int .u32 c4], .int .i64 ee] := by
  unfold tupP
  split <;> exact ⟨_, _, _, _, _, _, rfl⟩

set_option maxHeartbeats 4000000 in
theorem wordPlansWalk (p s : Int) (w : World) (_h1 : (Lit.int .i64 p).wf = true) (h2 : (Lit.int .u32 s).wf = true) :
    Calls Try.prog 12 #[.int .i64 p, .int .u32 s] w fun e w' => e = .returned (.bool true) ∧ Below w.heap.size w w' := by
  obtain ⟨hu0, hu1⟩ := wf_u32 h2
  obtain ⟨c0, c1, c2, c3, c4, ee, ht⟩ := tupP_parts p s
  have C1 := fun w => wdPlanAll p s w hu0 hu1
  have C2 := fun w => refPlanAll p s w hu0 hu1
  rw [ht] at C1 C2
  replace C1 := Lib.hid C1
  replace C2 := Lib.hid C2
  clear ht h2
  go_enter Try.func12, Try.ntmps12
  go_wp2_with fail
  refine (C1.out _).mono ?_
  rintro _ w1 ⟨rfl, b1⟩
  go_wp2_with fail
  refine (C2.out _).mono ?_
  rintro _ w2 ⟨rfl, b2⟩
  have v1 := VB.call (VB.new w1 32 #[.int .u32 c0, .int .u32 c1, .int .u32 c2, .int .u32 c3, .int .u32 c4]) b2
  have x0 := v1.cell 0
  have x1 := v1.cell 1
  have x2 := v1.cell 2
  have x3 := v1.cell 3
  have x4 := v1.cell 4
  have lx := v1.lt
  simp at x0 x1 x2 x3 x4
  have B2 := Lib.hid (B.call (B.alloc b1 _) b2)
  clear b1 b2 v1 C1 C2
  go_wp2_with fail
  refine (awake27 _).mono ?_
  rintro _ w3 ⟨rfl, b3⟩
  have B3 := Lib.hid (B.call (B.alloc B2.out _) b3)
  clear b3
  go_wp2_with fail
  go_returns
  exact ⟨rfl, B3.out⟩

end Go.Proofs.Ytgohnekaolgblaa
