/- The program's layer 1 lays the bytes that the plain definitions say: contracts of leb.PutU, PutS, SizeU, SizeS. -/
import Derived.Test.YtdlfmchpaohoaaaDoorLebRef
namespace Go.Proofs.YtdlfmchpaohoaaaDoor
open Go.RowKit

theorem doneU (r p : Int) (b : Bool) (h : (r == 0) = b) (w : World) :
    Calls Tryd.prog 42 #[.int .u32 r, .int .u8 p] w fun e w' => e = .returned (.bool b) ∧ w = w' := by
  go_enter Tryd.func42, Tryd.ntmps42
  go_wp2
  go_ret
  exact ⟨rfl, rfl⟩

set_option maxHeartbeats 400000 in
theorem putU_any (n : Int) (w : World) (h0 : 0 ≤ n) (h1 : n < 4294967296) :
    Calls Tryd.prog 41 #[.int .u32 n, .func (.func 42) #[] #[]] w fun e w' => ∃ v, e = .returned v ∧ Owns 5 .u8 w.heap.size w' v (Leb.putU 4 n) ∧ Below w.heap.size w w' := by
  obtain ⟨i0, hi, hz0, hz1, hz2⟩ := info_parts Tryd.infoU8
  go_enter Tryd.func41, Tryd.ntmps41
  go_wp2
  go_loopw [0, 5] (fun m v wr => ∃ (y : Int) (xs : List Int), m = .int .u32 y ∧ Leb.AtU n xs y ∧ Owns 5 .u8 w.heap.size wr v xs ∧ Below w.heap.size w wr ∧ w.heap.size ≤ wr.heap.size)
    (fun m _ _ => (intOf m).toNat)
  case atStart => exact ⟨n, [], rfl, Leb.AtU.start h0 h1, Owns.nil _ _ _ _, Below.refl _ _, Nat.le_refl _⟩
  case round =>
    obtain ⟨y, xs, rfl, hat, hown, hbel, hsz⟩ := hrel
    obtain ⟨hy0, hy1, hl⟩ := hat.bd
    have hb := and127_u32 y
    have hor := or128_u8 (y % 128) (by omega) (by omega)
    by_cases hlt : y < 128
    · have hd : (y / 128 == 0) = true := by simp; omega
      have hm : y % 128 = y := by omega
      have Hm := Lib.hid hm; clear hm
      go_wp2_with (first | (go_at_call 42; refine (doneU _ _ true hd _).mono ?_; rintro e w' ⟨rfl, rfl⟩) | (at_builtin; refine app_own Tryd.underlying22 hi hz0 hz1 hz2 rfl _ _ rfl rfl rfl hown hbel hsz (by omega) (by unfold maxLen; omega) ?_; intro v1 w1 hown1 hbel1 hsz1))
      go_ret
      exact ⟨_, rfl, by rw [← hat.done hlt]; rw [Hm.out] at hown1; exact hown1, hbel1⟩
    · have hd : (y / 128 == 0) = false := by simp; omega
      go_wp2_with (first | (go_at_call 42; refine (doneU _ _ false hd _).mono ?_; rintro e w' ⟨rfl, rfl⟩) | (at_builtin; refine app_own Tryd.underlying22 hi hz0 hz1 hz2 rfl _ _ rfl rfl rfl hown hbel hsz (by omega) (by unfold maxLen; omega) ?_; intro v1 w1 hown1 hbel1 hsz1))
      go_roundw
      case rel => exact ⟨_, _, rfl, hat.step (by omega), hown1, hbel1, hsz1⟩
      case measure => simp only [intOf]; omega

theorem putU (n : Int) (w : World) (h0 : 0 ≤ n) (h1 : n < 4294967296) :
    Calls Tryd.prog 29 #[.int .u32 n] w fun e w' => ∃ v, e = .returned v ∧ Owns 5 .u8 w.heap.size w' v (Leb.putU 4 n) ∧ Below w.heap.size w w' := by
  go_enter Tryd.func29, Tryd.ntmps29
  go_wp2_with (go_at_call 41; refine (putU_any _ _ h0 h1).mono ?_; rintro e w' ⟨v, rfl, ho, hb⟩)
  go_ret
  exact ⟨_, rfl, ho, hb⟩

end Go.Proofs.YtdlfmchpaohoaaaDoor
