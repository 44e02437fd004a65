/- The program's layer 1 lays the bytes that the plain definitions say: contracts of leb.PutU, PutS, SizeU, SizeS. -/
import Derived.Test.YtdlfmchpaohoaaaLebRef
namespace Go.Proofs.Ytdlfmchpaohoaaa
open Go.RowKit

theorem doneU (r p : Int) (b : Bool) (h : (r == 0) = b) (w : World) :
    Calls Try.prog 37 #[.int .u32 r, .int .u8 p] w fun e w' => e = .returned (.bool b) ∧ w = w' := by
  go_enter Try.func37, Try.ntmps37
  go_wp2
  go_ret
  exact ⟨rfl, rfl⟩

theorem doneS (r p : Int) (b : Bool) (h0 : 0 ≤ p) (h1 : p < 128) (h : (if p < 64 then r == 0 else r == -1) = b) (w : World) :
    Calls Try.prog 39 #[.int .i32 r, .int .u8 p] w fun e w' => e = .returned (.bool b) ∧ w = w' := by
  by_cases hp : p < 64
  · rw [if_pos hp] at h
    have hb := and64_lo p h0 hp
    subst h
    by_cases hr : r = 0
    · subst hr
      go_enter Try.func39, Try.ntmps39
      go_wp2
      go_ret
      exact ⟨rfl, rfl⟩
    · have hr0 : (r == 0) = false := by simpa using hr
      by_cases hr' : r = -1
      · subst hr'
        go_enter Try.func39, Try.ntmps39
        go_wp2
        go_ret
        exact ⟨rfl, rfl⟩
      · have hr1 : (r == -1) = false := by simpa using hr'
        go_enter Try.func39, Try.ntmps39
        go_wp2
        go_ret
        exact ⟨by simp [hr0], rfl⟩
  · rw [if_neg hp] at h
    have hb := and64_hi p (by omega) h1
    subst h
    by_cases hr : r = 0
    · subst hr
      go_enter Try.func39, Try.ntmps39
      go_wp2
      go_ret
      exact ⟨rfl, rfl⟩
    · have hr0 : (r == 0) = false := by simpa using hr
      by_cases hr' : r = -1
      · subst hr'
        go_enter Try.func39, Try.ntmps39
        go_wp2
        go_ret
        exact ⟨rfl, rfl⟩
      · have hr1 : (r == -1) = false := by simpa using hr'
        go_enter Try.func39, Try.ntmps39
        go_wp2
        go_ret
        exact ⟨by simp, rfl⟩

set_option maxHeartbeats 400000 in
theorem putU_any (n : Int) (w : World) (h0 : 0 ≤ n) (h1 : n < 4294967296) :
    Calls Try.prog 36 #[.int .u32 n, .func (.func 37) #[] #[]] w fun e w' => ∃ v, e = .returned v ∧ Owns 5 .u8 w.heap.size w' v (Leb.putU 4 n) ∧ Below w.heap.size w w' := by
  obtain ⟨i0, hi, hz0, hz1, hz2⟩ := info_parts Try.infoU8
  go_enter Try.func36, Try.ntmps36
  go_wp2
  go_loopw [0, 5] (fun m v wr => ∃ (y : Int) (xs : List Int), m = .int .u32 y ∧ Leb.AtU n xs y ∧ Owns 5 .u8 w.heap.size wr v xs ∧ Below w.heap.size w wr ∧ w.heap.size ≤ wr.heap.size)
    (fun m _ _ => (intOf m).toNat)
  case atStart => exact ⟨n, [], rfl, Leb.AtU.start h0 h1, Owns.nil _ _ _ _, Below.refl _ _, Nat.le_refl _⟩
  case round =>
    obtain ⟨y, xs, rfl, hat, hown, hbel, hsz⟩ := hrel
    obtain ⟨hy0, hy1, hl⟩ := hat.bd
    have hb := and127_u32 y
    have hor := or128_u8 (y % 128) (by omega) (by omega)
    by_cases hlt : y < 128
    · have hd : (y / 128 == 0) = true := by simp; omega
      have hm : y % 128 = y := by omega
      have Hm := Lib.hid hm; clear hm
      go_wp2_with (first | (go_at_call 37; refine (doneU _ _ true hd _).mono ?_; rintro e w' ⟨rfl, rfl⟩) | (at_builtin; refine app_own Try.underlying23 hi hz0 hz1 hz2 rfl _ _ rfl rfl rfl hown hbel hsz (by omega) (by unfold maxLen; omega) ?_; intro v1 w1 hown1 hbel1 hsz1))
      go_ret
      exact ⟨_, rfl, by rw [← hat.done hlt]; rw [Hm.out] at hown1; exact hown1, hbel1⟩
    · have hd : (y / 128 == 0) = false := by simp; omega
      go_wp2_with (first | (go_at_call 37; refine (doneU _ _ false hd _).mono ?_; rintro e w' ⟨rfl, rfl⟩) | (at_builtin; refine app_own Try.underlying23 hi hz0 hz1 hz2 rfl _ _ rfl rfl rfl hown hbel hsz (by omega) (by unfold maxLen; omega) ?_; intro v1 w1 hown1 hbel1 hsz1))
      go_roundw
      case rel => exact ⟨_, _, rfl, hat.step (by omega), hown1, hbel1, hsz1⟩
      case measure => simp only [intOf]; omega

set_option maxHeartbeats 400000 in
theorem putS_any (n : Int) (w : World) (h0 : -2147483648 ≤ n) (h1 : n ≤ 2147483647) :
    Calls Try.prog 38 #[.int .i32 n, .func (.func 39) #[] #[]] w fun e w' => ∃ v, e = .returned v ∧ Owns 5 .u8 w.heap.size w' v (Leb.putS 4 n) ∧ Below w.heap.size w w' := by
  obtain ⟨i0, hi, hz0, hz1, hz2⟩ := info_parts Try.infoU8
  go_enter Try.func38, Try.ntmps38
  go_wp2
  go_loopw [0, 5] (fun m v wr => ∃ (y : Int) (xs : List Int), m = .int .i32 y ∧ Leb.AtS n xs y ∧ Owns 5 .u8 w.heap.size wr v xs ∧ Below w.heap.size w wr ∧ w.heap.size ≤ wr.heap.size)
    (fun m _ _ => (intOf m).natAbs)
  case atStart => exact ⟨n, [], rfl, Leb.AtS.start h0 h1, Owns.nil _ _ _ _, Below.refl _ _, Nat.le_refl _⟩
  case round =>
    obtain ⟨y, xs, rfl, hat, hown, hbel, hsz⟩ := hrel
    obtain ⟨hy0, hy1, hl⟩ := hat.bd
    have hb := and127_i32 y
    have hor := or128_u8 (y % 128) (by omega) (by omega)
    by_cases hlt : -64 ≤ y ∧ y ≤ 63
    · have hd : (if y % 128 < 64 then y / 128 == 0 else y / 128 == -1) = true := by split <;> simp <;> omega
      have Hd := Lib.hid hd; clear hd
      go_wp2_with (first | (go_at_call 39; refine (doneS _ _ true (by omega) (by omega) Hd.out _).mono ?_; rintro e w' ⟨rfl, rfl⟩) | (at_builtin; refine app_own Try.underlying23 hi hz0 hz1 hz2 rfl _ _ rfl rfl rfl hown hbel hsz (by omega) (by unfold maxLen; omega) ?_; intro v1 w1 hown1 hbel1 hsz1))
      go_ret
      exact ⟨_, rfl, by rw [← hat.done hlt]; exact hown1, hbel1⟩
    · have hd : (if y % 128 < 64 then y / 128 == 0 else y / 128 == -1) = false := by split <;> simp <;> omega
      have Hd := Lib.hid hd; clear hd
      go_wp2_with (first | (go_at_call 39; refine (doneS _ _ false (by omega) (by omega) Hd.out _).mono ?_; rintro e w' ⟨rfl, rfl⟩) | (at_builtin; refine app_own Try.underlying23 hi hz0 hz1 hz2 rfl _ _ rfl rfl rfl hown hbel hsz (by omega) (by unfold maxLen; omega) ?_; intro v1 w1 hown1 hbel1 hsz1))
      go_roundw
      case rel => exact ⟨_, _, rfl, hat.step hlt, hown1, hbel1, hsz1⟩
      case measure => simp only [intOf]; omega

theorem putU (n : Int) (w : World) (h0 : 0 ≤ n) (h1 : n < 4294967296) :
    Calls Try.prog 14 #[.int .u32 n] w fun e w' => ∃ v, e = .returned v ∧ Owns 5 .u8 w.heap.size w' v (Leb.putU 4 n) ∧ Below w.heap.size w w' := by
  go_enter Try.func14, Try.ntmps14
  go_wp2_with (go_at_call 36; refine (putU_any _ _ h0 h1).mono ?_; rintro e w' ⟨v, rfl, ho, hb⟩)
  go_ret
  exact ⟨_, rfl, ho, hb⟩

theorem putS (n : Int) (w : World) (h0 : -2147483648 ≤ n) (h1 : n ≤ 2147483647) :
    Calls Try.prog 16 #[.int .i32 n] w fun e w' => ∃ v, e = .returned v ∧ Owns 5 .u8 w.heap.size w' v (Leb.putS 4 n) ∧ Below w.heap.size w w' := by
  go_enter Try.func16, Try.ntmps16
  go_wp2_with (go_at_call 38; refine (putS_any _ _ h0 h1).mono ?_; rintro e w' ⟨v, rfl, ho, hb⟩)
  go_ret
  exact ⟨_, rfl, ho, hb⟩

end Go.Proofs.Ytdlfmchpaohoaaa
