/- The law WordRooms: the walk. -/
import Derived.Test.YtgohnekaolgblaaWordPlans
namespace Go.Proofs.Ytgohnekaolgblaa
open Go.RowKit

set_option maxHeartbeats 4000000 in
set_option maxRecDepth 100000 in
theorem wordRooms_no (p s : Int) (w : World) (h0 : 0 ≤ s) (h1 : s < 4294967296) (hp0 : -9223372036854775808 ≤ p) (hp1 : p ≤ 9223372036854775807) (h : ¬ Wd.planOk p s) :
    Calls Try.prog 13 #[.int .i64 p, .int .u32 s] w fun e w' => e = .returned (.bool true) ∧ Below w.heap.size w w' := by
  have ht : tupP p s = .tuple #[.agg #[.int .u32 0, .int .u32 0, .int .u32 0, .int .u32 0, .int .u32 0], .int .i64 5] := by unfold tupP; rw [if_neg h]
  have C1 := fun w => wdPlanAll p s w h0 h1
  rw [ht] at C1
  replace C1 := Lib.hid C1
  unfold Wd.planOk at h
  by_cases hr : p < 4 ∨ 65536 < p
  · clear h ht
    rcases hr with hr | hr
    all_goals go_enter Try.func13, Try.ntmps13
    all_goals go_wp2_with fail
    all_goals refine (awake27 _).mono ?_
    all_goals rintro _ w1 ⟨rfl, b1⟩
    all_goals go_wp2_with fail
    all_goals refine (C1.out _).mono ?_
    all_goals rintro _ w2 ⟨rfl, b2⟩
    all_goals go_wp2_with fail
    all_goals go_returns
    all_goals exact ⟨rfl, B.alloc (B.call b1 b2) _⟩
  · have hs : 16384 * p < s := by omega
    have hp : 4 ≤ p ∧ p ≤ 65536 := by omega
    obtain ⟨q1, q2⟩ := hp
    clear h ht hr
    go_enter Try.func13, Try.ntmps13
    go_wp2_with fail
    refine (awake27 _).mono ?_
    rintro _ w1 ⟨rfl, b1⟩
    go_wp2_with fail
    refine (C1.out _).mono ?_
    rintro _ w2 ⟨rfl, b2⟩
    go_wp2_with fail
    go_returns
    refine ⟨?_, B.alloc (B.call b1 b2) _⟩
    rfl

set_option maxHeartbeats 8000000 in
set_option maxRecDepth 100000 in
theorem wordRooms_yes (p s : Int) (w : World) (h0 : 0 ≤ s) (h1 : s < 4294967296) (h : Wd.planOk p s) :
    Calls Try.prog 13 #[.int .i64 p, .int .u32 s] w fun e w' => e = .returned (.bool true) ∧ Below w.heap.size w w' := by
  obtain ⟨c1, c2, c3, c4, ht, hf⟩ : ∃ c1 c2 c3 c4, tupP p s = .tuple #[.agg #[.int .u32 16, .int .u32 c1, .int .u32 c2, .int .u32 c3, .int .u32 c4], .int .i64 0] ∧
      ((c1 % 8 = 0 ∧ c2 % 8 = 0 ∧ c3 % 8 = 0 ∧ c4 % 8 = 0) ∧ (16 + s ≤ c1 ∧ c1 < c2 ∧ c2 < c3 ∧ c3 < c4 ∧ c4 ≤ p * 65536) ∧ c3 - c2 = c4 - c3 ∧ p * 65536 - c4 < 24 ∧ p * 65536 - c1 < 8 * (c2 - c1) + 64) := by
    refine ⟨_, _, _, _, by unfold tupP; rw [if_pos h], ?_⟩
    unfold Wd.planOk at h
    unfold Wd.space Wd.one Wd.left Wd.stack
    omega
  have C1 := fun w => wdPlanAll p s w h0 h1
  rw [ht] at C1
  replace C1 := Lib.hid C1
  unfold Wd.planOk at h
  obtain ⟨q1, q2, q3⟩ := h
  obtain ⟨⟨m1, m2, m3, m4⟩, ⟨g1, g2, g3, g4, g5⟩, e1, g6, g7⟩ := hf
  clear ht
  go_enter Try.func13, Try.ntmps13
  go_wp2_with fail
  refine (awake27 _).mono ?_
  rintro _ w1 ⟨rfl, b1⟩
  go_wp2_with fail
  refine (C1.out _).mono ?_
  rintro _ w2 ⟨rfl, b2⟩
  clear C1
  go_wp2_with fail
  go_returns
  exact ⟨rfl, B.alloc (B.call b1 b2) _⟩

theorem wordRoomsWalk (p s : Int) (w : World) (h1 : (Lit.int .i64 p).wf = true) (h2 : (Lit.int .u32 s).wf = true) :
    Calls Try.prog 13 #[.int .i64 p, .int .u32 s] w fun e w' => e = .returned (.bool true) ∧ Below w.heap.size w w' := by
  obtain ⟨hu0, hu1⟩ := wf_u32 h2
  by_cases h : Wd.planOk p s
  · exact wordRooms_yes p s w hu0 hu1 h
  · have hb := bounds_i64 h1
    exact wordRooms_no p s w hu0 hu1 (by omega) (by omega) h

end Go.Proofs.Ytgohnekaolgblaa
