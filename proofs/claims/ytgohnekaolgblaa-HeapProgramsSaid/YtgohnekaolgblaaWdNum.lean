/- word.odd, Int, Of, Head; gimletref27.Int, Of, most, Head: contracts. -/
import Derived.Test.YtgohnekaolgblaaBase
import Derived.Test.YtgohnekaolgblaaBits
import Derived.Test.YtgohnekaolgblaaProg
namespace Go.Proofs.Ytgohnekaolgblaa
open Go.RowKit

def Wd.odd (n : Int) : Int := (2 * n + 1) % 4294967296

def Wd.int (n : Int) : Int × Int := if n < -1073741824 ∨ 1073741823 < n then (0, 5) else (Wd.odd n, 0)

theorem wdOdd (n : Int) (w : World) (h : -1073741824 ≤ n ∧ n ≤ 1073741823) : Calls Try.prog 70 #[.int .i64 n] w fun e w' => e = .returned (.int .u32 (Wd.odd n)) ∧ w' = w := by
  have hw : IntKind.u32.wrap (2 * n + 1) = Wd.odd n := by rw [IntKind.wrap_u32]; rfl
  go_enter Try.func70, Try.ntmps70
  go_wp2
  go_returns
  exact ⟨rfl, rfl⟩

theorem wdInt (n : Int) (w : World) : Calls Try.prog 42 #[.int .i64 n] w fun e w' => e = .returned (.tuple #[.int .u32 (Wd.int n).1, .int .i64 (Wd.int n).2]) ∧ w' = w := by
  by_cases h1 : n < -1073741824
  · have hr : Wd.int n = (0, 5) := by unfold Wd.int; rw [if_pos (.inl h1)]
    rw [hr]
    go_enter Try.func42, Try.ntmps42
    go_wp2
    go_returns
    exact ⟨rfl, rfl⟩
  · by_cases h2 : 1073741823 < n
    · have hr : Wd.int n = (0, 5) := by unfold Wd.int; rw [if_pos (.inr h2)]
      rw [hr]
      go_enter Try.func42, Try.ntmps42
      go_wp2
      go_returns
      exact ⟨rfl, rfl⟩
    · have hr : Wd.int n = (Wd.odd n, 0) := by unfold Wd.int; rw [if_neg (by omega)]
      rw [hr]
      go_enter Try.func42, Try.ntmps42
      go_wp2_with fail
      refine (wdOdd n _ (by omega)).mono ?_
      rintro _ w1 ⟨rfl, hw1⟩
      obtain rfl := hw1.symm
      go_wp2_with fail
      go_returns
      exact ⟨rfl, rfl⟩

theorem refInt (n : Int) (w : World) : Calls Try.prog 43 #[.int .i64 n] w fun e w' => e = .returned (.tuple #[.int .u32 (Wd.int n).1, .int .i64 (Wd.int n).2]) ∧ w' = w := by
  by_cases h1 : n < -1073741824
  · have hr : Wd.int n = (0, 5) := by unfold Wd.int; rw [if_pos (.inl h1)]
    rw [hr]
    go_enter Try.func43, Try.ntmps43
    go_wp2
    go_returns
    exact ⟨rfl, rfl⟩
  · by_cases h2 : 1073741823 < n
    · have hr : Wd.int n = (0, 5) := by unfold Wd.int; rw [if_pos (.inr h2)]
      rw [hr]
      go_enter Try.func43, Try.ntmps43
      go_wp2
      go_returns
      exact ⟨rfl, rfl⟩
    · have hr : Wd.int n = (Wd.odd n, 0) := by unfold Wd.int; rw [if_neg (by omega)]
      have hw : IntKind.u32.wrap (2 * n + 1) = Wd.odd n := by rw [IntKind.wrap_u32]; rfl
      rw [hr]
      go_enter Try.func43, Try.ntmps43
      go_wp2
      go_returns
      exact ⟨rfl, rfl⟩

def Wd.of (u : Int) : Int × Bool := if u % 2 = 0 then (0, false) else (if 1073741823 < u / 2 then u / 2 - 2147483648 else u / 2, true)

theorem refOf (u : Int) (w : World) (h0 : 0 ≤ u) (h1 : u < 4294967296) : Calls Try.prog 45 #[.int .u32 u] w fun e w' => e = .returned (.tuple #[.int .i64 (Wd.of u).1, .bool (Wd.of u).2]) ∧ w' = w := by
  by_cases he : u % 2 = 0
  · have hr : Wd.of u = (0, false) := by unfold Wd.of; rw [if_pos he]
    rw [hr]
    go_enter Try.func45, Try.ntmps45
    go_wp2
    go_returns
    exact ⟨rfl, rfl⟩
  · have he' : (u % 2 == 0) = false := by simpa using he
    by_cases hb : 1073741823 < u / 2
    · have hr : Wd.of u = (u / 2 - 2147483648, true) := by unfold Wd.of; rw [if_neg he, if_pos hb]
      rw [hr]
      go_enter Try.func45, Try.ntmps45
      go_wp2
      go_returns
      exact ⟨rfl, rfl⟩
    · have hr : Wd.of u = (u / 2, true) := by unfold Wd.of; rw [if_neg he, if_neg hb]
      rw [hr]
      go_enter Try.func45, Try.ntmps45
      go_wp2
      go_returns
      exact ⟨rfl, rfl⟩

theorem wdOf (u : Int) (w : World) (h0 : 0 ≤ u) (h1 : u < 4294967296) : Calls Try.prog 44 #[.int .u32 u] w fun e w' => e = .returned (.tuple #[.int .i64 (Wd.of u).1, .bool (Wd.of u).2]) ∧ w' = w := by
  have hm : bits .and .u32 u 1 = u % 2 := bits_mask .u32 u 1 (by decide)
  by_cases he : u % 2 = 0
  · have hr : Wd.of u = (0, false) := by unfold Wd.of; rw [if_pos he]
    rw [hr]
    go_enter Try.func44, Try.ntmps44
    go_wp2
    go_returns
    exact ⟨rfl, rfl⟩
  · have he' : (u % 2 == 0) = false := by simpa using he
    go_enter Try.func44, Try.ntmps44
    go_wp2
    go_returns
    have hv : Wd.of u = (wrap64 (wrap32 u / 2), true) := by
      unfold Wd.of wrap64 wrap32
      rw [if_neg he]
      congr 1
      split <;> omega
    rw [hv]
    exact ⟨rfl, rfl⟩

def Wd.most (kind : Int) : Int := if kind = 2 then 4096 else 1024

def Wd.headOk (kind n size : Int) : Prop := 0 ≤ kind ∧ kind ≤ 2 ∧ 0 ≤ n ∧ n ≤ 65535 ∧ (kind = 2 → n = 0) ∧ 0 ≤ size ∧ size ≤ Wd.most kind
instance (kind n size : Int) : Decidable (Wd.headOk kind n size) := inferInstanceAs (Decidable (_ ∧ _))

def Wd.head (kind n size : Int) : Int × Int := if Wd.headOk kind n size then (1 + 2 * kind + 8 * size + 65536 * n, 0) else (0, 2)

theorem refMost (kind : Int) (w : World) : Calls Try.prog 82 #[.int .i64 kind] w fun e w' => e = .returned (.int .i64 (Wd.most kind)) ∧ w' = w := by
  by_cases h : kind = 2
  · subst h
    go_enter Try.func82, Try.ntmps82
    go_wp2
    go_returns
    exact ⟨rfl, rfl⟩
  · have h' : (kind == 2) = false := by simpa using h
    have hr : Wd.most kind = 1024 := by unfold Wd.most; rw [if_neg h]
    rw [hr]
    go_enter Try.func82, Try.ntmps82
    go_wp2
    go_returns
    exact ⟨rfl, rfl⟩

end Go.Proofs.Ytgohnekaolgblaa
