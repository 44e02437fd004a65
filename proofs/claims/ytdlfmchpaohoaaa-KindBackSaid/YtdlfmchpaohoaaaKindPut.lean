/- kind.Check, kind.Put, gimletref04.Check, words, Put: contracts (printed by wip/gen_kindput.py). -/
import Derived.Test.YtdlfmchpaohoaaaKindPutLim
namespace Go.Proofs.Ytdlfmchpaohoaaa
open Go.RowKit

/-- Whether a function's type may be: 0, or the error. -/
def Kind.chk (p r : Int) : Int := if p < 0 ∨ 255 < p ∨ r < 0 ∨ 1 < r then 2 else 0

theorem Kind.chk_cases (p r : Int) : Kind.chk p r = 0 ∧ 0 ≤ p ∧ p ≤ 255 ∧ 0 ≤ r ∧ r ≤ 1 ∨ Kind.chk p r = 2 := by
  unfold Kind.chk; split <;> simp <;> omega

/-- How many words, and these. -/
def Kind.wds (n : Nat) : List Int := Leb.putU 4 n ++ List.replicate n 127

/-- The bytes of a function's type; none, where it may not be. -/
def Kind.put (p r : Int) : List Int := if Kind.chk p r = 0 then 96 :: (Kind.wds p.toNat ++ Kind.wds r.toNat) else []

theorem Kind.wds_len (n : Nat) (h : n ≤ 255) : (Kind.wds n).length ≤ 260 := by
  have := Leb.putU_len 4 n
  simp only [Kind.wds, List.length_append, List.length_replicate]; omega

set_option maxHeartbeats 1000000 in
theorem kindCheck (p r : Int) (w : World) :
    Calls Try.prog 32 #[.agg #[.int .i64 p, .int .i64 r]] w fun e w' => e = .returned (.int .i64 (Kind.chk p r)) ∧ Below w.heap.size w w' := by
  by_cases p1 : p < 0
  · have hr : Kind.chk p r = 2 := by unfold Kind.chk; simp [p1]
    rw [hr]
    have q0 : (p == 0) = false := by simp; omega
    by_cases r1 : r < 0
    · go_enter Try.func32, Try.ntmps32
      go_wp2
      go_returns
      exact ⟨rfl, (Below.refl _ _).alloc (Nat.le_refl _) _⟩
    · by_cases r2 : 1 < r
      · go_enter Try.func32, Try.ntmps32
        go_wp2
        go_returns
        exact ⟨rfl, (Below.refl _ _).alloc (Nat.le_refl _) _⟩
      · go_enter Try.func32, Try.ntmps32
        go_wp2
        go_returns
        exact ⟨rfl, (Below.refl _ _).alloc (Nat.le_refl _) _⟩
  · by_cases p2 : 255 < p
    · have hr : Kind.chk p r = 2 := by unfold Kind.chk; simp [p2]
      rw [hr]
      have q0 : (p == 255) = false := by simp; omega
      by_cases r1 : r < 0
      · go_enter Try.func32, Try.ntmps32
        go_wp2
        go_returns
        exact ⟨rfl, (Below.refl _ _).alloc (Nat.le_refl _) _⟩
      · by_cases r2 : 1 < r
        · go_enter Try.func32, Try.ntmps32
          go_wp2
          go_returns
          exact ⟨rfl, (Below.refl _ _).alloc (Nat.le_refl _) _⟩
        · go_enter Try.func32, Try.ntmps32
          go_wp2
          go_returns
          exact ⟨rfl, (Below.refl _ _).alloc (Nat.le_refl _) _⟩
    · by_cases r1 : r < 0
      · have hr : Kind.chk p r = 2 := by unfold Kind.chk; simp [r1]
        rw [hr]
        have q0 : (r == 0) = false := by simp; omega
        go_enter Try.func32, Try.ntmps32
        go_wp2
        go_returns
        exact ⟨rfl, (Below.refl _ _).alloc (Nat.le_refl _) _⟩
      · by_cases r2 : 1 < r
        · have hr : Kind.chk p r = 2 := by unfold Kind.chk; simp [r2]
          rw [hr]
          have q0 : (r == 1) = false := by simp; omega
          go_enter Try.func32, Try.ntmps32
          go_wp2
          go_returns
          exact ⟨rfl, (Below.refl _ _).alloc (Nat.le_refl _) _⟩
        · have hr : Kind.chk p r = 0 := by unfold Kind.chk; simp [p1, p2, r1, r2]
          rw [hr]
          go_enter Try.func32, Try.ntmps32
          go_wp2
          go_returns
          exact ⟨rfl, (Below.refl _ _).alloc (Nat.le_refl _) _⟩

set_option maxHeartbeats 1000000 in
theorem refCheck (p r : Int) (w : World) :
    Calls Try.prog 33 #[.agg #[.int .i64 p, .int .i64 r]] w fun e w' => e = .returned (.int .i64 (Kind.chk p r)) ∧ Below w.heap.size w w' := by
  by_cases p1 : p < 0
  · have hr : Kind.chk p r = 2 := by unfold Kind.chk; simp [p1]
    rw [hr]
    have q0 : (p == 0) = false := by simp; omega
    by_cases r1 : r < 0
    · go_enter Try.func33, Try.ntmps33
      go_wp2
      go_returns
      exact ⟨rfl, (Below.refl _ _).alloc (Nat.le_refl _) _⟩
    · by_cases r2 : 1 < r
      · go_enter Try.func33, Try.ntmps33
        go_wp2
        go_returns
        exact ⟨rfl, (Below.refl _ _).alloc (Nat.le_refl _) _⟩
      · go_enter Try.func33, Try.ntmps33
        go_wp2
        go_returns
        exact ⟨rfl, (Below.refl _ _).alloc (Nat.le_refl _) _⟩
  · by_cases p2 : 255 < p
    · have hr : Kind.chk p r = 2 := by unfold Kind.chk; simp [p2]
      rw [hr]
      have q0 : (p == 255) = false := by simp; omega
      by_cases r1 : r < 0
      · go_enter Try.func33, Try.ntmps33
        go_wp2
        go_returns
        exact ⟨rfl, (Below.refl _ _).alloc (Nat.le_refl _) _⟩
      · by_cases r2 : 1 < r
        · go_enter Try.func33, Try.ntmps33
          go_wp2
          go_returns
          exact ⟨rfl, (Below.refl _ _).alloc (Nat.le_refl _) _⟩
        · go_enter Try.func33, Try.ntmps33
          go_wp2
          go_returns
          exact ⟨rfl, (Below.refl _ _).alloc (Nat.le_refl _) _⟩
    · by_cases r1 : r < 0
      · have hr : Kind.chk p r = 2 := by unfold Kind.chk; simp [r1]
        rw [hr]
        have q0 : (r == 0) = false := by simp; omega
        go_enter Try.func33, Try.ntmps33
        go_wp2
        go_returns
        exact ⟨rfl, (Below.refl _ _).alloc (Nat.le_refl _) _⟩
      · by_cases r2 : 1 < r
        · have hr : Kind.chk p r = 2 := by unfold Kind.chk; simp [r2]
          rw [hr]
          have q0 : (r == 1) = false := by simp; omega
          go_enter Try.func33, Try.ntmps33
          go_wp2
          go_returns
          exact ⟨rfl, (Below.refl _ _).alloc (Nat.le_refl _) _⟩
        · have hr : Kind.chk p r = 0 := by unfold Kind.chk; simp [p1, p2, r1, r2]
          rw [hr]
          go_enter Try.func33, Try.ntmps33
          go_wp2
          go_returns
          exact ⟨rfl, (Below.refl _ _).alloc (Nat.le_refl _) _⟩

end Go.Proofs.Ytdlfmchpaohoaaa
