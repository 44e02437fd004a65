/- word.may: contract. -/
import Derived.Test.YtgohnekaolgblaaTree
namespace Go.Proofs.Ytgohnekaolgblaa
open Go.RowKit

def Wd.may (k n : Int) (s : ByteArray) (c : Nat) : Bool :=
  if k = 1 then decide (-1073741824 ≤ n ∧ n ≤ 1073741823 ∧ s.toList = [] ∧ c = 0) else if k = 2 then decide (n = 0 ∧ s.size ≤ 4096 ∧ c = 0) else if k = 3 ∨ k = 4 then decide (0 ≤ n ∧ n ≤ 65535 ∧ s.toList = [] ∧ c ≤ 1024) else false

set_option maxHeartbeats 1000000 in
theorem wdMay (k n : Int) (s : ByteArray) (A : Option Addr) (c cap : Nat) (w : World) :
    Calls Try.prog 74 #[.agg #[.int .i64 k, .int .i64 n, .string s, .slice A c cap]] w fun e w' => e = .returned (.bool (Wd.may k n s c)) ∧ Below w.heap.size w w' := by
  by_cases h1 : k = 1
  · subst h1
    have hr : Wd.may 1 n s c = decide (-1073741824 ≤ n ∧ n ≤ 1073741823 ∧ s.toList = [] ∧ c = 0) := rfl
    rw [hr]
    clear hr
    go_enter Try.func74, Try.ntmps74
    go_wp2
    all_goals go_returns
    all_goals refine ⟨?_, by go_grown⟩
    all_goals congr 2
    all_goals simp_all
    all_goals first | omega | (by_cases hc : c = 0 <;> simp [hc] <;> omega)
  by_cases h2 : k = 2
  · subst h2
    have hr : Wd.may 2 n s c = decide (n = 0 ∧ s.size ≤ 4096 ∧ c = 0) := rfl
    rw [hr]
    clear hr
    go_enter Try.func74, Try.ntmps74
    go_wp2
    all_goals go_returns
    all_goals refine ⟨?_, by go_grown⟩
    all_goals congr 2
    all_goals simp_all
    all_goals first | omega | (by_cases hc : c = 0 <;> simp [hc] <;> omega)
  by_cases h3 : k = 3
  · subst h3
    have hr : Wd.may 3 n s c = decide (0 ≤ n ∧ n ≤ 65535 ∧ s.toList = [] ∧ c ≤ 1024) := rfl
    rw [hr]
    clear hr
    go_enter Try.func74, Try.ntmps74
    go_wp2
    all_goals go_returns
    all_goals refine ⟨?_, by go_grown⟩
    all_goals congr 2
    all_goals simp_all
    all_goals first | omega | (by_cases hc : c = 0 <;> simp [hc] <;> omega)
  by_cases h4 : k = 4
  · subst h4
    have hr : Wd.may 4 n s c = decide (0 ≤ n ∧ n ≤ 65535 ∧ s.toList = [] ∧ c ≤ 1024) := rfl
    rw [hr]
    clear hr
    go_enter Try.func74, Try.ntmps74
    go_wp2
    all_goals go_returns
    all_goals refine ⟨?_, by go_grown⟩
    all_goals congr 2
    all_goals simp_all
    all_goals first | omega | (by_cases hc : c = 0 <;> simp [hc] <;> omega)
  have hr : Wd.may k n s c = false := by unfold Wd.may; simp [h1, h2, h3, h4]
  rw [hr]
  clear hr
  have e1 : (k == 1) = false := by simpa using h1
  have e2 : (k == 2) = false := by simpa using h2
  have e3 : (k == 3) = false := by simpa using h3
  have e4 : (k == 4) = false := by simpa using h4
  go_enter Try.func74, Try.ntmps74
  go_wp2
  all_goals go_returns
  all_goals exact ⟨rfl, by go_grown⟩

end Go.Proofs.Ytgohnekaolgblaa
