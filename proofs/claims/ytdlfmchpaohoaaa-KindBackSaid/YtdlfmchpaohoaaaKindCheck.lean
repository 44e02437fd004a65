/- kind.CheckLimits, gimletref04.CheckLimits: contracts (printed by wip/gen_kindcheck.py). -/
import Derived.Test.YtdlfmchpaohoaaaLebRef
namespace Go.Proofs.Ytdlfmchpaohoaaa
open Go.RowKit

/-- Whether limits may be: 0, or the error. -/
def Kind.lim (mn mx : Int) (c : Bool) (most : Int) : Int :=
  if most < mn ∨ (c = true ∧ (mx < mn ∨ most < mx)) ∨ (c = false ∧ mx ≠ 0) then 2 else 0

set_option maxHeartbeats 1000000 in
theorem kindCheckLim (mn mx most : Int) (c : Bool) (w : World) :
    Calls Try.prog 34 #[.agg #[.int .u32 mn, .int .u32 mx, .bool c], .int .u32 most] w fun e w' => e = .returned (.int .i64 (Kind.lim mn mx c most)) ∧ Below w.heap.size w w' := by
  by_cases h1 : most < mn
  · have hr : Kind.lim mn mx c most = 2 := by unfold Kind.lim; rw [if_pos (.inl h1)]
    rw [hr]
    cases c
    all_goals
      go_enter Try.func34, Try.ntmps34
      go_wp2
      go_returns
      exact ⟨rfl, (Below.refl _ _).alloc (Nat.le_refl _) _⟩
  · cases c
    · by_cases h2 : mx = 0
      · subst h2
        have hr : Kind.lim mn 0 false most = 0 := by unfold Kind.lim; simp [h1]
        rw [hr]
        go_enter Try.func34, Try.ntmps34
        go_wp2
        go_returns
        exact ⟨rfl, (Below.refl _ _).alloc (Nat.le_refl _) _⟩
      · have hr : Kind.lim mn mx false most = 2 := by unfold Kind.lim; simp [h2]
        rw [hr]
        have h2' : (mx == 0) = false := by simpa using h2
        go_enter Try.func34, Try.ntmps34
        go_wp2
        go_returns
        exact ⟨rfl, (Below.refl _ _).alloc (Nat.le_refl _) _⟩
    · by_cases h2 : mx < mn
      · have hr : Kind.lim mn mx true most = 2 := by unfold Kind.lim; simp [h2]
        rw [hr]
        go_enter Try.func34, Try.ntmps34
        go_wp2
        go_returns
        exact ⟨rfl, (Below.refl _ _).alloc (Nat.le_refl _) _⟩
      · by_cases h3 : most < mx
        · have hr : Kind.lim mn mx true most = 2 := by unfold Kind.lim; simp [h3]
          rw [hr]
          go_enter Try.func34, Try.ntmps34
          go_wp2
          go_returns
          exact ⟨rfl, (Below.refl _ _).alloc (Nat.le_refl _) _⟩
        · have hr : Kind.lim mn mx true most = 0 := by unfold Kind.lim; simp [h1, h2, h3]
          rw [hr]
          go_enter Try.func34, Try.ntmps34
          go_wp2
          go_returns
          exact ⟨rfl, (Below.refl _ _).alloc (Nat.le_refl _) _⟩

set_option maxHeartbeats 1000000 in
theorem refCheckLim (mn mx most : Int) (c : Bool) (w : World) :
    Calls Try.prog 35 #[.agg #[.int .u32 mn, .int .u32 mx, .bool c], .int .u32 most] w fun e w' => e = .returned (.int .i64 (Kind.lim mn mx c most)) ∧ Below w.heap.size w w' := by
  by_cases h1 : most < mn
  · have hr : Kind.lim mn mx c most = 2 := by unfold Kind.lim; rw [if_pos (.inl h1)]
    rw [hr]
    cases c
    all_goals
      go_enter Try.func35, Try.ntmps35
      go_wp2
      go_returns
      exact ⟨rfl, (Below.refl _ _).alloc (Nat.le_refl _) _⟩
  · cases c
    · by_cases h2 : mx = 0
      · subst h2
        have hr : Kind.lim mn 0 false most = 0 := by unfold Kind.lim; simp [h1]
        rw [hr]
        go_enter Try.func35, Try.ntmps35
        go_wp2
        go_returns
        exact ⟨rfl, (Below.refl _ _).alloc (Nat.le_refl _) _⟩
      · have hr : Kind.lim mn mx false most = 2 := by unfold Kind.lim; simp [h2]
        rw [hr]
        have h2' : (mx == 0) = false := by simpa using h2
        go_enter Try.func35, Try.ntmps35
        go_wp2
        go_returns
        exact ⟨rfl, (Below.refl _ _).alloc (Nat.le_refl _) _⟩
    · by_cases h2 : mx < mn
      · have hr : Kind.lim mn mx true most = 2 := by unfold Kind.lim; simp [h2]
        rw [hr]
        go_enter Try.func35, Try.ntmps35
        go_wp2
        go_returns
        exact ⟨rfl, (Below.refl _ _).alloc (Nat.le_refl _) _⟩
      · by_cases h3 : most < mx
        · have hr : Kind.lim mn mx true most = 2 := by unfold Kind.lim; simp [h3]
          rw [hr]
          go_enter Try.func35, Try.ntmps35
          go_wp2
          go_returns
          exact ⟨rfl, (Below.refl _ _).alloc (Nat.le_refl _) _⟩
        · have hr : Kind.lim mn mx true most = 0 := by unfold Kind.lim; simp [h1, h2, h3]
          rw [hr]
          go_enter Try.func35, Try.ntmps35
          go_wp2
          go_returns
          exact ⟨rfl, (Below.refl _ _).alloc (Nat.le_refl _) _⟩

end Go.Proofs.Ytdlfmchpaohoaaa
