/- The law WordNumbers: the walk. -/
import Derived.Test.YtgohnekaolgblaaWdAwake
namespace Go.Proofs.Ytgohnekaolgblaa
open Go.RowKit

set_option maxHeartbeats 4000000 in
set_option maxRecDepth 100000 in
theorem wordNumbersWalk (n kind size u : Int) (w : World) (_h1 : (Lit.int .i64 n).wf = true) (_h2 : (Lit.int .i64 kind).wf = true) (_h3 : (Lit.int .i64 size).wf = true) (h4 : (Lit.int .u32 u).wf = true) :
    Calls Try.prog 11 #[.int .i64 n, .int .i64 kind, .int .i64 size, .int .u32 u] w fun e w' => e = .returned (.bool true) ∧ Below w.heap.size w w' := by
  obtain ⟨hu0, hu1⟩ := wf_u32 h4
  obtain ⟨a1, ha1⟩ : ∃ x, x = Wd.int n := ⟨_, rfl⟩
  obtain ⟨a2, ha2⟩ : ∃ x, x = Wd.of u := ⟨_, rfl⟩
  obtain ⟨a3, ha3⟩ : ∃ x, x = Wd.head kind n size := ⟨_, rfl⟩
  obtain ⟨a4, ha4⟩ : ∃ x, x = Wd.unhead u := ⟨_, rfl⟩
  obtain ⟨a5, ha5⟩ : ∃ x, x = Wd.words u := ⟨_, rfl⟩
  have C0 := Lib.hid fun w => wdInt n w
  have C1 := Lib.hid fun w => refInt n w
  have C2 := Lib.hid fun w => wdOf u w hu0 hu1
  have C3 := Lib.hid fun w => refOf u w hu0 hu1
  have C4 := Lib.hid fun w => wdHead kind n size w
  have C5 := Lib.hid fun w => refHead kind n size w
  have C6 := Lib.hid fun w => wdUnhead u w hu0 hu1
  have C7 := Lib.hid fun w => refUnhead u w hu0 hu1
  have C8 := Lib.hid fun w => wdWords u w hu0 hu1
  have C9 := Lib.hid fun w => refWords u w hu0 hu1
  rw [← ha1] at C0
  rw [← ha1] at C1
  rw [← ha2] at C2
  rw [← ha2] at C3
  rw [← ha3] at C4
  rw [← ha3] at C5
  rw [← ha4] at C6
  rw [← ha4] at C7
  rw [← ha5] at C8
  rw [← ha5] at C9
  clear ha1 ha2 ha3 ha4 ha5 _h1 _h2 _h3 h4
  obtain ⟨a1a, a1b⟩ := a1
  obtain ⟨a2a, a2b⟩ := a2
  obtain ⟨a3a, a3b⟩ := a3
  obtain ⟨a4a, a4b, a4c, a4d⟩ := a4
  obtain ⟨a5a, a5b⟩ := a5
  go_enter Try.func11, Try.ntmps11
  go_wp2_with fail
  refine (C0.out _).mono ?_
  rintro _ w1 ⟨rfl, hw1⟩
  subst hw1
  clear C0
  go_wp2_with fail
  refine (C1.out _).mono ?_
  rintro _ w1 ⟨rfl, hw1⟩
  subst hw1
  clear C1
  go_wp2_with fail
  refine (C2.out _).mono ?_
  rintro _ w1 ⟨rfl, hw1⟩
  subst hw1
  clear C2
  go_wp2_with fail
  refine (C3.out _).mono ?_
  rintro _ w1 ⟨rfl, hw1⟩
  subst hw1
  clear C3
  go_wp2_with fail
  refine (C4.out _).mono ?_
  rintro _ w1 ⟨rfl, hw1⟩
  subst hw1
  clear C4
  go_wp2_with fail
  refine (C5.out _).mono ?_
  rintro _ w1 ⟨rfl, hw1⟩
  subst hw1
  clear C5
  go_wp2_with fail
  refine (C6.out _).mono ?_
  rintro _ w1 ⟨rfl, hw1⟩
  subst hw1
  clear C6
  go_wp2_with fail
  refine (C7.out _).mono ?_
  rintro _ w1 ⟨rfl, hw1⟩
  subst hw1
  clear C7
  go_wp2_with fail
  refine (C8.out _).mono ?_
  rintro _ w1 ⟨rfl, hw1⟩
  subst hw1
  clear C8
  go_wp2_with fail
  refine (C9.out _).mono ?_
  rintro _ w1 ⟨rfl, hw1⟩
  subst hw1
  clear C9
  go_wp2_with fail
  refine (awake27 _).mono ?_
  rintro _ w1 ⟨rfl, b1⟩
  go_wp2_with fail
  go_returns
  exact ⟨rfl, b1⟩

end Go.Proofs.Ytgohnekaolgblaa
