/- word.Unhead, word.Words; gimletref27.Unhead, gimletref27.Words: contracts (printed by wip/gen_wdun.py). -/
import Derived.Test.YtgohnekaolgblaaWdHead
namespace Go.Proofs.Ytgohnekaolgblaa
open Go.RowKit

def Wd.unhead (u : Int) : Int × Int × Int × Bool := if Wd.head (u / 2 % 4) (u / 65536) (u / 8 % 8192) = (u, 0) then (u / 2 % 4, u / 65536, u / 8 % 8192, true) else (0, 0, 0, false)
def Wd.words (u : Int) : Int × Bool := if (Wd.unhead u).2.2.2 = true then (if (Wd.unhead u).1 = 2 then (1 + ((Wd.unhead u).2.2.1 + 3) / 4, true) else (1 + (Wd.unhead u).2.2.1, true)) else (0, false)
theorem Wd.unhead_yes {u : Int} (h : Wd.head (u / 2 % 4) (u / 65536) (u / 8 % 8192) = (u, 0)) : Wd.unhead u = (u / 2 % 4, u / 65536, u / 8 % 8192, true) := by unfold Wd.unhead; rw [if_pos h]
theorem Wd.unhead_no {u : Int} (h : Wd.head (u / 2 % 4) (u / 65536) (u / 8 % 8192) ≠ (u, 0)) : Wd.unhead u = (0, 0, 0, false) := by unfold Wd.unhead; rw [if_neg h]
theorem Wd.unhead_size (u : Int) : 0 ≤ (Wd.unhead u).2.2.1 ∧ (Wd.unhead u).2.2.1 ≤ 4096 := by
  by_cases h : Wd.head (u / 2 % 4) (u / 65536) (u / 8 % 8192) = (u, 0)
  · rw [Wd.unhead_yes h]
    simp only
    by_cases hk : Wd.headOk (u / 2 % 4) (u / 65536) (u / 8 % 8192)
    · have h6 := hk.2.2.2.2.2.1
      have h7 := hk.2.2.2.2.2.2
      unfold Wd.most at h7
      split at h7 <;> omega
    · rw [Wd.head_no hk] at h
      simp only [Prod.mk.injEq] at h
      omega
  · rw [Wd.unhead_no h]; simp

set_option maxHeartbeats 1000000 in
theorem wdUnhead (u : Int) (w : World) (h0 : 0 ≤ u) (h1 : u < 4294967296) : Calls Try.prog 48 #[.int .u32 u] w fun e w' => e = .returned (.tuple #[.int .i64 (Wd.unhead u).1, .int .i64 (Wd.unhead u).2.1, .int .i64 (Wd.unhead u).2.2.1, .bool (Wd.unhead u).2.2.2]) ∧ w' = w := by
  have hm1 : bits .and .i64 (u / 2) 3 = u / 2 % 4 := bits_mask .i64 (u / 2) 2 (by decide)
  have hm2 : bits .and .i64 (u / 8) 8191 = u / 8 % 8192 := bits_mask .i64 (u / 8) 13 (by decide)
  generalize hp : Wd.head (u / 2 % 4) (u / 65536) (u / 8 % 8192) = p
  obtain ⟨x, e⟩ := p
  by_cases he : e = 0
  · subst he
    by_cases hx : x = u
    · subst hx
      rw [Wd.unhead_yes hp]
      go_enter Try.func48, Try.ntmps48
      go_wp2_with fail
      refine (wdHead (x / 2 % 4) (x / 65536) (x / 8 % 8192) _).mono ?_
      rintro _ w1 ⟨rfl, hw1⟩
      obtain rfl := hw1.symm
      rw [hp]
      go_wp2_with fail
      go_returns
      exact ⟨rfl, rfl⟩
    have hx' : (x == u) = false := by simpa using hx
    rw [Wd.unhead_no (by rw [hp]; simpa using hx)]
    go_enter Try.func48, Try.ntmps48
    go_wp2_with fail
    refine (wdHead (u / 2 % 4) (u / 65536) (u / 8 % 8192) _).mono ?_
    rintro _ w1 ⟨rfl, hw1⟩
    obtain rfl := hw1.symm
    rw [hp]
    go_wp2_with fail
    go_returns
    exact ⟨rfl, rfl⟩
  have he' : (e == 0) = false := by simpa using he
  rw [Wd.unhead_no (by rw [hp]; simp [he])]
  go_enter Try.func48, Try.ntmps48
  go_wp2_with fail
  refine (wdHead (u / 2 % 4) (u / 65536) (u / 8 % 8192) _).mono ?_
  rintro _ w1 ⟨rfl, hw1⟩
  obtain rfl := hw1.symm
  rw [hp]
  go_wp2_with fail
  go_returns
  exact ⟨rfl, rfl⟩

set_option maxHeartbeats 1000000 in
theorem refUnhead (u : Int) (w : World) (h0 : 0 ≤ u) (h1 : u < 4294967296) : Calls Try.prog 49 #[.int .u32 u] w fun e w' => e = .returned (.tuple #[.int .i64 (Wd.unhead u).1, .int .i64 (Wd.unhead u).2.1, .int .i64 (Wd.unhead u).2.2.1, .bool (Wd.unhead u).2.2.2]) ∧ w' = w := by
  generalize hp : Wd.head (u / 2 % 4) (u / 65536) (u / 8 % 8192) = p
  obtain ⟨x, e⟩ := p
  by_cases he : e = 0
  · subst he
    by_cases hx : x = u
    · subst hx
      rw [Wd.unhead_yes hp]
      go_enter Try.func49, Try.ntmps49
      go_wp2_with fail
      refine (refHead (x / 2 % 4) (x / 65536) (x / 8 % 8192) _).mono ?_
      rintro _ w1 ⟨rfl, hw1⟩
      obtain rfl := hw1.symm
      rw [hp]
      go_wp2_with fail
      go_returns
      exact ⟨rfl, rfl⟩
    have hx' : (x == u) = false := by simpa using hx
    rw [Wd.unhead_no (by rw [hp]; simpa using hx)]
    go_enter Try.func49, Try.ntmps49
    go_wp2_with fail
    refine (refHead (u / 2 % 4) (u / 65536) (u / 8 % 8192) _).mono ?_
    rintro _ w1 ⟨rfl, hw1⟩
    obtain rfl := hw1.symm
    rw [hp]
    go_wp2_with fail
    go_returns
    exact ⟨rfl, rfl⟩
  have he' : (e == 0) = false := by simpa using he
  rw [Wd.unhead_no (by rw [hp]; simp [he])]
  go_enter Try.func49, Try.ntmps49
  go_wp2_with fail
  refine (refHead (u / 2 % 4) (u / 65536) (u / 8 % 8192) _).mono ?_
  rintro _ w1 ⟨rfl, hw1⟩
  obtain rfl := hw1.symm
  rw [hp]
  go_wp2_with fail
  go_returns
  exact ⟨rfl, rfl⟩

set_option maxHeartbeats 1000000 in
theorem wdWords (u : Int) (w : World) (h0 : 0 ≤ u) (h1 : u < 4294967296) : Calls Try.prog 50 #[.int .u32 u] w fun e w' => e = .returned (.tuple #[.int .i64 (Wd.words u).1, .bool (Wd.words u).2]) ∧ w' = w := by
  have hs := Wd.unhead_size u
  have hd : Wd.words u = if (Wd.unhead u).2.2.2 = true then (if (Wd.unhead u).1 = 2 then (1 + ((Wd.unhead u).2.2.1 + 3) / 4, true) else (1 + (Wd.unhead u).2.2.1, true)) else (0, false) := rfl
  generalize hp : Wd.unhead u = p at hs hd
  obtain ⟨k, n, s, b⟩ := p
  simp only at hs hd
  cases b
  · rw [hd, if_neg (by simp)]
    go_enter Try.func50, Try.ntmps50
    go_wp2_with fail
    refine (wdUnhead u _ h0 h1).mono ?_
    rintro _ w1 ⟨rfl, hw1⟩
    obtain rfl := hw1.symm
    rw [hp]
    go_wp2_with fail
    go_returns
    exact ⟨rfl, rfl⟩
  by_cases hk : k = 2
  · subst hk
    rw [hd, if_pos rfl, if_pos rfl]
    go_enter Try.func50, Try.ntmps50
    go_wp2_with fail
    refine (wdUnhead u _ h0 h1).mono ?_
    rintro _ w1 ⟨rfl, hw1⟩
    obtain rfl := hw1.symm
    rw [hp]
    go_wp2_with fail
    go_returns
    exact ⟨rfl, rfl⟩
  have hk' : (k == 2) = false := by simpa using hk
  rw [hd, if_pos rfl, if_neg hk]
  go_enter Try.func50, Try.ntmps50
  go_wp2_with fail
  refine (wdUnhead u _ h0 h1).mono ?_
  rintro _ w1 ⟨rfl, hw1⟩
  obtain rfl := hw1.symm
  rw [hp]
  go_wp2_with fail
  go_returns
  exact ⟨rfl, rfl⟩

set_option maxHeartbeats 1000000 in
theorem refWords (u : Int) (w : World) (h0 : 0 ≤ u) (h1 : u < 4294967296) : Calls Try.prog 51 #[.int .u32 u] w fun e w' => e = .returned (.tuple #[.int .i64 (Wd.words u).1, .bool (Wd.words u).2]) ∧ w' = w := by
  have hs := Wd.unhead_size u
  have hd : Wd.words u = if (Wd.unhead u).2.2.2 = true then (if (Wd.unhead u).1 = 2 then (1 + ((Wd.unhead u).2.2.1 + 3) / 4, true) else (1 + (Wd.unhead u).2.2.1, true)) else (0, false) := rfl
  generalize hp : Wd.unhead u = p at hs hd
  obtain ⟨k, n, s, b⟩ := p
  simp only at hs hd
  cases b
  · rw [hd, if_neg (by simp)]
    go_enter Try.func51, Try.ntmps51
    go_wp2_with fail
    refine (refUnhead u _ h0 h1).mono ?_
    rintro _ w1 ⟨rfl, hw1⟩
    obtain rfl := hw1.symm
    rw [hp]
    go_wp2_with fail
    go_returns
    exact ⟨rfl, rfl⟩
  by_cases hk : k = 2
  · subst hk
    rw [hd, if_pos rfl, if_pos rfl]
    go_enter Try.func51, Try.ntmps51
    go_wp2_with fail
    refine (refUnhead u _ h0 h1).mono ?_
    rintro _ w1 ⟨rfl, hw1⟩
    obtain rfl := hw1.symm
    rw [hp]
    go_wp2_with fail
    go_returns
    exact ⟨rfl, rfl⟩
  have hk' : (k == 2) = false := by simpa using hk
  rw [hd, if_pos rfl, if_neg hk]
  go_enter Try.func51, Try.ntmps51
  go_wp2_with fail
  refine (refUnhead u _ h0 h1).mono ?_
  rintro _ w1 ⟨rfl, hw1⟩
  obtain rfl := hw1.symm
  rw [hp]
  go_wp2_with fail
  go_returns
  exact ⟨rfl, rfl⟩

end Go.Proofs.Ytgohnekaolgblaa
