/- The references of layer 1 lay the bytes that the plain definitions say: contracts of gimletref01.PutU and PutS. -/
import Derived.Test.YtdlfmchpaohoaaaDoorProg
import Derived.Test.YtdlfmchpaohoaaaDoorOwn
import Derived.Test.YtdlfmchpaohoaaaDoorBits
import Derived.Test.YtdlfmchpaohoaaaDoorLebPlain
namespace Go.Proofs.YtdlfmchpaohoaaaDoor
open Go.RowKit

theorem Tryd.infoU8 : (Tryd.prog.info? 5).map (fun i => (i.zero, i.size, i.bytes)) = some (some (.int .u8 0), 1, 1) := by kernel_rfl

set_option maxHeartbeats 400000 in
theorem refPutU (n : Int) (w : World) (h0 : 0 ≤ n) (h1 : n < 4294967296) :
    Calls Tryd.prog 33 #[.int .u32 n] w fun e w' => ∃ v, e = .returned v ∧ Owns 5 .u8 w.heap.size w' v (Leb.putU 4 n) ∧ Below w.heap.size w w' := by
  obtain ⟨i0, hi, hz0, hz1, hz2⟩ := info_parts Tryd.infoU8
  go_enter Tryd.func33, Tryd.ntmps33
  go_wp2
  go_loopw [0, 3] (fun m v wr => ∃ (y : Int) (xs : List Int), m = .int .u32 y ∧ Leb.AtU n xs y ∧ Owns 5 .u8 w.heap.size wr v xs ∧ Below w.heap.size w wr ∧ w.heap.size ≤ wr.heap.size)
    (fun m _ _ => (intOf m).toNat)
  case atStart => exact ⟨n, [], rfl, Leb.AtU.start h0 h1, Owns.nil _ _ _ _, Below.refl _ _, Nat.le_refl _⟩
  case round =>
    obtain ⟨y, xs, rfl, hat, hown, hbel, hsz⟩ := hrel
    obtain ⟨hy0, hy1, hl⟩ := hat.bd
    go_wp2_with (at_builtin; refine app_own Tryd.underlying22 hi hz0 hz1 hz2 rfl _ _ rfl rfl rfl hown hbel hsz (by omega) (by unfold maxLen; omega) ?_; intro v1 w1 hown1 hbel1 hsz1)
    · have hge : 128 ≤ y := by assumption
      go_roundw
      case rel => exact ⟨_, _, rfl, hat.step hge, hown1, hbel1, hsz1⟩
      case measure => simp only [intOf]; omega
    · have hlt : y < 128 := by assumption
      go_ret
      exact ⟨_, rfl, by rw [← hat.done hlt]; exact hown1, hbel1⟩

end Go.Proofs.YtdlfmchpaohoaaaDoor
