/- word.Head, gimletref27.Head: contracts (printed by wip/gen_wdhead.py). -/
import Derived.Test.YtgohnekaolgblaaWdNum
namespace Go.Proofs.Ytgohnekaolgblaa
open Go.RowKit

theorem Wd.head_no {kind n size : Int} (h : ¬ Wd.headOk kind n size) : Wd.head kind n size = (0, 2) := by unfold Wd.head; rw [if_neg h]
theorem Wd.head_yes {kind n size : Int} (h : Wd.headOk kind n size) : Wd.head kind n size = (1 + 2 * kind + 8 * size + 65536 * n, 0) := by unfold Wd.head; rw [if_pos h]

/-- The bits of a head do not meet. -/
theorem head_bits (k s n : Nat) (hk : k ≤ 2) (hs : s ≤ 4096) (hn : n ≤ 65535) :
    bits .or .i64 1 ((k : Int) * 2) = 1 + 2 * (k : Int) ∧ bits .or .i64 (1 + 2 * (k : Int)) ((s : Int) * 8) = 1 + 2 * (k : Int) + 8 * (s : Int) ∧ bits .or .i64 (1 + 2 * (k : Int) + 8 * (s : Int)) ((n : Int) * 65536) = 1 + 2 * (k : Int) + 8 * (s : Int) + 65536 * (n : Int) := by
  refine ⟨?_, ?_, ?_⟩
  · rw [bits_or_comm, show (k : Int) * 2 = ((2 * k : Nat) : Int) by omega, show (1 : Int) = ((1 : Nat) : Int) from rfl, bits_join .i64 (2 * k) 1 1 (by omega) (by omega) (by simp [IntKind.bits]; omega), IntWalk.i64_in _ (by omega)]
    omega
  · rw [bits_or_comm, show (s : Int) * 8 = ((8 * s : Nat) : Int) by omega, show 1 + 2 * (k : Int) = ((1 + 2 * k : Nat) : Int) by omega, bits_join .i64 (8 * s) (1 + 2 * k) 3 (by omega) (by omega) (by simp [IntKind.bits]; omega), IntWalk.i64_in _ (by omega)]
    omega
  · rw [bits_or_comm, show (n : Int) * 65536 = ((65536 * n : Nat) : Int) by omega, show 1 + 2 * (k : Int) + 8 * (s : Int) = ((1 + 2 * k + 8 * s : Nat) : Int) by omega, bits_join .i64 (65536 * n) (1 + 2 * k + 8 * s) 16 (by omega) (by omega) (by simp [IntKind.bits]; omega), IntWalk.i64_in _ (by omega)]
    omega

set_option maxHeartbeats 1000000 in
theorem wdHead_ok (k : Int) (n s : Nat) (w : World) (hk : k = 0 ∨ k = 1 ∨ k = 2) (hn : n ≤ 65535) (hs : s ≤ 4096) (hok : Wd.headOk k n s) :
    Calls Try.prog 46 #[.int .i64 k, .int .i64 (n : Int), .int .i64 (s : Int)] w fun e w' => e = .returned (.tuple #[.int .u32 (Wd.head k n s).1, .int .i64 (Wd.head k n s).2]) ∧ w' = w := by
  rw [Wd.head_yes hok]
  have hm := hok.2.2.2.2.2.2
  have h2 := hok.2.2.2.2.1
  clear hok
  have hw : IntKind.u32.wrap (1 + 2 * k + 8 * (s : Int) + 65536 * (n : Int)) = 1 + 2 * k + 8 * (s : Int) + 65536 * (n : Int) := IntWalk.u32_in _ (by omega)
  rcases hk with rfl | rfl | rfl
  · obtain ⟨b1, b2, b3⟩ := head_bits 0 s n (by omega) hs hn
    simp only [Wd.most] at hm
    simp at b1 b2 b3 hw hm
    have hz : (1 + 2 * 0 + 8 * (s : Int) + 65536 * (n : Int)) = 1 + 8 * (s : Int) + 65536 * (n : Int) := by omega
    rw [hz]
    clear h2 hz
    go_enter Try.func46, Try.ntmps46
    go_wp2
    go_returns
    exact ⟨rfl, rfl⟩
  · obtain ⟨b1, b2, b3⟩ := head_bits 1 s n (by omega) hs hn
    simp only [Wd.most] at hm
    simp at b1 b2 b3 hw hm
    have hz : (1 + 2 * 1 + 8 * (s : Int) + 65536 * (n : Int)) = 3 + 8 * (s : Int) + 65536 * (n : Int) := by omega
    rw [hz]
    clear h2 hz
    go_enter Try.func46, Try.ntmps46
    go_wp2
    go_returns
    exact ⟨rfl, rfl⟩
  · obtain ⟨b1, b2, b3⟩ := head_bits 2 s n (by omega) hs hn
    have hn0 : n = 0 := by have := h2 rfl; omega
    subst hn0
    simp only [Wd.most] at hm
    simp at b1 b2 b3 hw hm
    have hz : (1 + 2 * 2 + 8 * (s : Int) + 65536 * ((0 : Nat) : Int)) = 5 + 8 * (s : Int) := by omega
    rw [hz]
    clear h2 hz
    go_enter Try.func46, Try.ntmps46
    go_wp2
    go_returns
    exact ⟨rfl, rfl⟩

set_option maxHeartbeats 1000000 in
theorem wdHead_no0a (k n s : Int) (hk : k = 0) (h : n < 0) (w : World) :
    Calls Try.prog 46 #[.int .i64 k, .int .i64 n, .int .i64 s] w fun e w' => e = .returned (.tuple #[.int .u32 (Wd.head k n s).1, .int .i64 (Wd.head k n s).2]) ∧ w' = w := by
  subst hk
  rw [Wd.head_no (by unfold Wd.headOk Wd.most; intro hh; simp at hh; omega)]
  go_enter Try.func46, Try.ntmps46
  go_wp2
  go_returns
  exact ⟨rfl, rfl⟩

set_option maxHeartbeats 1000000 in
theorem wdHead_no0b (k n s : Int) (hk : k = 0) (h : 65535 < n) (w : World) :
    Calls Try.prog 46 #[.int .i64 k, .int .i64 n, .int .i64 s] w fun e w' => e = .returned (.tuple #[.int .u32 (Wd.head k n s).1, .int .i64 (Wd.head k n s).2]) ∧ w' = w := by
  subst hk
  rw [Wd.head_no (by unfold Wd.headOk Wd.most; intro hh; simp at hh; omega)]
  have h1 : ¬ n < 0 := by omega
  go_enter Try.func46, Try.ntmps46
  go_wp2
  go_returns
  exact ⟨rfl, rfl⟩

set_option maxHeartbeats 1000000 in
theorem wdHead_no0c (k n s : Int) (hk : k = 0) (h : s < 0) (w : World) :
    Calls Try.prog 46 #[.int .i64 k, .int .i64 n, .int .i64 s] w fun e w' => e = .returned (.tuple #[.int .u32 (Wd.head k n s).1, .int .i64 (Wd.head k n s).2]) ∧ w' = w := by
  subst hk
  rw [Wd.head_no (by unfold Wd.headOk Wd.most; intro hh; simp at hh; omega)]
  by_cases h1 : n < 0
  · go_enter Try.func46, Try.ntmps46
    go_wp2
    go_returns
    exact ⟨rfl, rfl⟩
  by_cases h2 : 65535 < n
  · go_enter Try.func46, Try.ntmps46
    go_wp2
    go_returns
    exact ⟨rfl, rfl⟩
  go_enter Try.func46, Try.ntmps46
  go_wp2
  go_returns
  exact ⟨rfl, rfl⟩

set_option maxHeartbeats 1000000 in
theorem wdHead_no0d (k n s : Int) (hk : k = 0) (h : 1024 < s) (w : World) :
    Calls Try.prog 46 #[.int .i64 k, .int .i64 n, .int .i64 s] w fun e w' => e = .returned (.tuple #[.int .u32 (Wd.head k n s).1, .int .i64 (Wd.head k n s).2]) ∧ w' = w := by
  subst hk
  rw [Wd.head_no (by unfold Wd.headOk Wd.most; intro hh; simp at hh; omega)]
  by_cases h1 : n < 0
  · go_enter Try.func46, Try.ntmps46
    go_wp2
    go_returns
    exact ⟨rfl, rfl⟩
  by_cases h2 : 65535 < n
  · go_enter Try.func46, Try.ntmps46
    go_wp2
    go_returns
    exact ⟨rfl, rfl⟩
  have h3 : ¬ s < 0 := by omega
  go_enter Try.func46, Try.ntmps46
  go_wp2
  go_returns
  exact ⟨rfl, rfl⟩

set_option maxHeartbeats 1000000 in
theorem wdHead_no1a (k n s : Int) (hk : k = 1) (h : n < 0) (w : World) :
    Calls Try.prog 46 #[.int .i64 k, .int .i64 n, .int .i64 s] w fun e w' => e = .returned (.tuple #[.int .u32 (Wd.head k n s).1, .int .i64 (Wd.head k n s).2]) ∧ w' = w := by
  subst hk
  rw [Wd.head_no (by unfold Wd.headOk Wd.most; intro hh; simp at hh; omega)]
  go_enter Try.func46, Try.ntmps46
  go_wp2
  go_returns
  exact ⟨rfl, rfl⟩

set_option maxHeartbeats 1000000 in
theorem wdHead_no1b (k n s : Int) (hk : k = 1) (h : 65535 < n) (w : World) :
    Calls Try.prog 46 #[.int .i64 k, .int .i64 n, .int .i64 s] w fun e w' => e = .returned (.tuple #[.int .u32 (Wd.head k n s).1, .int .i64 (Wd.head k n s).2]) ∧ w' = w := by
  subst hk
  rw [Wd.head_no (by unfold Wd.headOk Wd.most; intro hh; simp at hh; omega)]
  have h1 : ¬ n < 0 := by omega
  go_enter Try.func46, Try.ntmps46
  go_wp2
  go_returns
  exact ⟨rfl, rfl⟩

set_option maxHeartbeats 1000000 in
theorem wdHead_no1c (k n s : Int) (hk : k = 1) (h : s < 0) (w : World) :
    Calls Try.prog 46 #[.int .i64 k, .int .i64 n, .int .i64 s] w fun e w' => e = .returned (.tuple #[.int .u32 (Wd.head k n s).1, .int .i64 (Wd.head k n s).2]) ∧ w' = w := by
  subst hk
  rw [Wd.head_no (by unfold Wd.headOk Wd.most; intro hh; simp at hh; omega)]
  by_cases h1 : n < 0
  · go_enter Try.func46, Try.ntmps46
    go_wp2
    go_returns
    exact ⟨rfl, rfl⟩
  by_cases h2 : 65535 < n
  · go_enter Try.func46, Try.ntmps46
    go_wp2
    go_returns
    exact ⟨rfl, rfl⟩
  go_enter Try.func46, Try.ntmps46
  go_wp2
  go_returns
  exact ⟨rfl, rfl⟩

set_option maxHeartbeats 1000000 in
theorem wdHead_no1d (k n s : Int) (hk : k = 1) (h : 1024 < s) (w : World) :
    Calls Try.prog 46 #[.int .i64 k, .int .i64 n, .int .i64 s] w fun e w' => e = .returned (.tuple #[.int .u32 (Wd.head k n s).1, .int .i64 (Wd.head k n s).2]) ∧ w' = w := by
  subst hk
  rw [Wd.head_no (by unfold Wd.headOk Wd.most; intro hh; simp at hh; omega)]
  by_cases h1 : n < 0
  · go_enter Try.func46, Try.ntmps46
    go_wp2
    go_returns
    exact ⟨rfl, rfl⟩
  by_cases h2 : 65535 < n
  · go_enter Try.func46, Try.ntmps46
    go_wp2
    go_returns
    exact ⟨rfl, rfl⟩
  have h3 : ¬ s < 0 := by omega
  go_enter Try.func46, Try.ntmps46
  go_wp2
  go_returns
  exact ⟨rfl, rfl⟩

set_option maxHeartbeats 1000000 in
theorem wdHead_no2n (k n s : Int) (hk : k = 2) (h : n ≠ 0) (w : World) :
    Calls Try.prog 46 #[.int .i64 k, .int .i64 n, .int .i64 s] w fun e w' => e = .returned (.tuple #[.int .u32 (Wd.head k n s).1, .int .i64 (Wd.head k n s).2]) ∧ w' = w := by
  subst hk
  rw [Wd.head_no (by unfold Wd.headOk Wd.most; intro hh; simp at hh; omega)]
  have h' : (n == 0) = false := by simpa using h
  go_enter Try.func46, Try.ntmps46
  go_wp2
  go_returns
  exact ⟨rfl, rfl⟩

set_option maxHeartbeats 1000000 in
theorem wdHead_no2c (k n s : Int) (hk : k = 2) (h : s < 0) (w : World) :
    Calls Try.prog 46 #[.int .i64 k, .int .i64 n, .int .i64 s] w fun e w' => e = .returned (.tuple #[.int .u32 (Wd.head k n s).1, .int .i64 (Wd.head k n s).2]) ∧ w' = w := by
  subst hk
  rw [Wd.head_no (by unfold Wd.headOk Wd.most; intro hh; simp at hh; omega)]
  by_cases hn : n = 0
  · subst hn
    go_enter Try.func46, Try.ntmps46
    go_wp2
    go_returns
    exact ⟨rfl, rfl⟩
  have hn' : (n == 0) = false := by simpa using hn
  go_enter Try.func46, Try.ntmps46
  go_wp2
  go_returns
  exact ⟨rfl, rfl⟩

set_option maxHeartbeats 1000000 in
theorem wdHead_no2d (k n s : Int) (hk : k = 2) (h : 4096 < s) (w : World) :
    Calls Try.prog 46 #[.int .i64 k, .int .i64 n, .int .i64 s] w fun e w' => e = .returned (.tuple #[.int .u32 (Wd.head k n s).1, .int .i64 (Wd.head k n s).2]) ∧ w' = w := by
  subst hk
  rw [Wd.head_no (by unfold Wd.headOk Wd.most; intro hh; simp at hh; omega)]
  by_cases hn : n = 0
  · subst hn
    have h3 : ¬ s < 0 := by omega
    go_enter Try.func46, Try.ntmps46
    go_wp2
    go_returns
    exact ⟨rfl, rfl⟩
  have hn' : (n == 0) = false := by simpa using hn
  go_enter Try.func46, Try.ntmps46
  go_wp2
  go_returns
  exact ⟨rfl, rfl⟩

set_option maxHeartbeats 1000000 in
theorem wdHead_other (k n s : Int) (h0 : k ≠ 0) (h1 : k ≠ 1) (h2 : k ≠ 2) (w : World) :
    Calls Try.prog 46 #[.int .i64 k, .int .i64 n, .int .i64 s] w fun e w' => e = .returned (.tuple #[.int .u32 (Wd.head k n s).1, .int .i64 (Wd.head k n s).2]) ∧ w' = w := by
  rw [Wd.head_no (by unfold Wd.headOk Wd.most; intro hh; omega)]
  have h0' : (k == 0) = false := by simpa using h0
  have h1' : (k == 1) = false := by simpa using h1
  have h2' : (k == 2) = false := by simpa using h2
  go_enter Try.func46, Try.ntmps46
  go_wp2
  go_returns
  exact ⟨rfl, rfl⟩

set_option maxHeartbeats 1000000 in
theorem wdHead (k n s : Int) (w : World) :
    Calls Try.prog 46 #[.int .i64 k, .int .i64 n, .int .i64 s] w fun e w' => e = .returned (.tuple #[.int .u32 (Wd.head k n s).1, .int .i64 (Wd.head k n s).2]) ∧ w' = w := by
  by_cases h0 : k = 0
  · by_cases a1 : n < 0
    · exact wdHead_no0a k n s h0 a1 w
    by_cases a2 : 65535 < n
    · exact wdHead_no0b k n s h0 a2 w
    by_cases a3 : s < 0
    · exact wdHead_no0c k n s h0 a3 w
    by_cases a4 : 1024 < s
    · exact wdHead_no0d k n s h0 a4 w
    obtain ⟨n, rfl⟩ := Int.eq_ofNat_of_zero_le (by omega : 0 ≤ n)
    obtain ⟨s, rfl⟩ := Int.eq_ofNat_of_zero_le (by omega : 0 ≤ s)
    exact wdHead_ok k n s w (by omega) (by omega) (by omega) (by subst h0; unfold Wd.headOk Wd.most; simp; omega)
  by_cases h1 : k = 1
  · by_cases a1 : n < 0
    · exact wdHead_no1a k n s h1 a1 w
    by_cases a2 : 65535 < n
    · exact wdHead_no1b k n s h1 a2 w
    by_cases a3 : s < 0
    · exact wdHead_no1c k n s h1 a3 w
    by_cases a4 : 1024 < s
    · exact wdHead_no1d k n s h1 a4 w
    obtain ⟨n, rfl⟩ := Int.eq_ofNat_of_zero_le (by omega : 0 ≤ n)
    obtain ⟨s, rfl⟩ := Int.eq_ofNat_of_zero_le (by omega : 0 ≤ s)
    exact wdHead_ok k n s w (by omega) (by omega) (by omega) (by subst h1; unfold Wd.headOk Wd.most; simp; omega)
  by_cases h2 : k = 2
  · by_cases a1 : n ≠ 0
    · exact wdHead_no2n k n s h2 a1 w
    by_cases a3 : s < 0
    · exact wdHead_no2c k n s h2 a3 w
    by_cases a4 : 4096 < s
    · exact wdHead_no2d k n s h2 a4 w
    obtain ⟨n, rfl⟩ := Int.eq_ofNat_of_zero_le (by omega : 0 ≤ n)
    obtain ⟨s, rfl⟩ := Int.eq_ofNat_of_zero_le (by omega : 0 ≤ s)
    exact wdHead_ok k n s w (by omega) (by omega) (by omega) (by subst h2; unfold Wd.headOk Wd.most; simp; omega)
  exact wdHead_other k n s h0 h1 h2 w

set_option maxHeartbeats 1000000 in
theorem refHead_a (k n s : Int) (h : k < 0) (w : World) :
    Calls Try.prog 47 #[.int .i64 k, .int .i64 n, .int .i64 s] w fun e w' => e = .returned (.tuple #[.int .u32 (Wd.head k n s).1, .int .i64 (Wd.head k n s).2]) ∧ w' = w := by
  rw [Wd.head_no (by unfold Wd.headOk Wd.most; intro hh; omega)]
  go_enter Try.func47, Try.ntmps47
  go_wp2
  go_returns
  exact ⟨rfl, rfl⟩

set_option maxHeartbeats 1000000 in
theorem refHead_b (k n s : Int) (h : 2 < k) (w : World) :
    Calls Try.prog 47 #[.int .i64 k, .int .i64 n, .int .i64 s] w fun e w' => e = .returned (.tuple #[.int .u32 (Wd.head k n s).1, .int .i64 (Wd.head k n s).2]) ∧ w' = w := by
  rw [Wd.head_no (by unfold Wd.headOk Wd.most; intro hh; omega)]
  have h1 : ¬ k < 0 := by omega
  go_enter Try.func47, Try.ntmps47
  go_wp2
  go_returns
  exact ⟨rfl, rfl⟩

set_option maxHeartbeats 1000000 in
theorem refHead (k n s : Int) (w : World) :
    Calls Try.prog 47 #[.int .i64 k, .int .i64 n, .int .i64 s] w fun e w' => e = .returned (.tuple #[.int .u32 (Wd.head k n s).1, .int .i64 (Wd.head k n s).2]) ∧ w' = w := by
  by_cases h1 : k < 0
  · exact refHead_a k n s h1 w
  by_cases h2 : 2 < k
  · exact refHead_b k n s h2 w
  by_cases h3 : n < 0
  · rw [Wd.head_no (by unfold Wd.headOk Wd.most; intro hh; omega)]
    go_enter Try.func47, Try.ntmps47
    go_wp2
    go_returns
    exact ⟨rfl, rfl⟩
  by_cases h4 : 65535 < n
  · rw [Wd.head_no (by unfold Wd.headOk Wd.most; intro hh; omega)]
    go_enter Try.func47, Try.ntmps47
    go_wp2
    go_returns
    exact ⟨rfl, rfl⟩
  by_cases h5 : k = 2 ∧ 0 < n
  · obtain ⟨hk, h5⟩ := h5
    rw [Wd.head_no (by unfold Wd.headOk Wd.most; intro hh; omega)]
    subst hk
    go_enter Try.func47, Try.ntmps47
    go_wp2
    go_returns
    exact ⟨rfl, rfl⟩
  by_cases h6 : s < 0
  · rw [Wd.head_no (by unfold Wd.headOk Wd.most; intro hh; omega)]
    by_cases hk : k = 2
    · subst hk
      have h7 : ¬ 0 < n := by omega
      go_enter Try.func47, Try.ntmps47
      go_wp2
      go_returns
      exact ⟨rfl, rfl⟩
    have hk' : (k == 2) = false := by simpa using hk
    go_enter Try.func47, Try.ntmps47
    go_wp2
    go_returns
    exact ⟨rfl, rfl⟩
  by_cases h8 : Wd.most k < s
  · rw [Wd.head_no (by unfold Wd.headOk; intro hh; omega)]
    by_cases hk : k = 2
    · have h7 : ¬ 0 < n := by omega
      subst hk
      go_enter Try.func47, Try.ntmps47
      go_wp2_with fail
      refine (refMost 2 _).mono ?_
      rintro _ w1 ⟨rfl, hw1⟩
      obtain rfl := hw1.symm
      go_wp2_with fail
      go_returns
      exact ⟨rfl, rfl⟩
    have hk' : (k == 2) = false := by simpa using hk
    go_enter Try.func47, Try.ntmps47
    go_wp2_with fail
    refine (refMost k _).mono ?_
    rintro _ w1 ⟨rfl, hw1⟩
    obtain rfl := hw1.symm
    go_wp2_with fail
    go_returns
    exact ⟨rfl, rfl⟩
  have hm : Wd.most k ≤ 4096 := by unfold Wd.most; split <;> omega
  rw [Wd.head_yes (by unfold Wd.headOk; omega)]
  have hw : IntKind.u32.wrap (1 + 2 * k + 8 * s + 65536 * n) = 1 + 2 * k + 8 * s + 65536 * n := IntWalk.u32_in _ (by omega)
  by_cases hk : k = 2
  · have h7 : ¬ 0 < n := by omega
    subst hk
    go_enter Try.func47, Try.ntmps47
    go_wp2_with fail
    refine (refMost 2 _).mono ?_
    rintro _ w1 ⟨rfl, hw1⟩
    obtain rfl := hw1.symm
    go_wp2_with fail
    go_returns
    exact ⟨rfl, rfl⟩
  have hk' : (k == 2) = false := by simpa using hk
  go_enter Try.func47, Try.ntmps47
  go_wp2_with fail
  refine (refMost k _).mono ?_
  rintro _ w1 ⟨rfl, hw1⟩
  obtain rfl := hw1.symm
  go_wp2_with fail
  go_returns
  exact ⟨rfl, rfl⟩

end Go.Proofs.Ytgohnekaolgblaa
