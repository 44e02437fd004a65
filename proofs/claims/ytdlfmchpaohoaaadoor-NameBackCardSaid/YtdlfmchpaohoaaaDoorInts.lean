/- gimletkit.SameInts at two equal lists: true. -/
import Derived.Test.YtdlfmchpaohoaaaDoorBase
import Derived.Test.YtdlfmchpaohoaaaDoorProg
namespace Go.Proofs.YtdlfmchpaohoaaaDoor
open Go.RowKit

set_option maxHeartbeats 1000000 in
theorem sameInts (va vb : Value) (xs : List Int) (w : World) (ha : Sees .i64 w va xs) (hb : Sees .i64 w vb xs) (hm : xs.length ≤ 1000000000) :
    Calls Tryd.prog 12 #[va, vb] w fun e w' => e = .returned (.bool true) ∧ Below w.heap.size w w' := by
  obtain ⟨A, c, rfl, hc1, hc2, ca⟩ := ha
  obtain ⟨A', c', rfl, hc1', hc2', cb⟩ := hb
  have CA := Lib.hid ca; clear ca
  have CB := Lib.hid cb; clear cb
  go_enter Tryd.func12, Tryd.ntmps12
  go_wp2_with fail
  go_loopw [5] (fun c wr => ∃ i : Nat, c = .int .i64 (i : Int) ∧ i ≤ xs.length ∧ Below w.heap.size w wr)
    (fun c _ => xs.length - (intOf c).toNat)
  case atStart => exact ⟨0, rfl, by omega, Below.refl _ _⟩
  case round =>
    obtain ⟨i, rfl, hi, hbel⟩ := hrel
    by_cases hs : i = xs.length
    · subst hs
      go_wp2_with fail
      go_returns
      exact ⟨rfl, hbel⟩
    · have hlt : i < xs.length := by omega
      obtain ⟨b, off, rfl, h1⟩ := CA.out (by intro e; subst e; simp at hlt)
      obtain ⟨b', off', rfl, h2⟩ := CB.out (by intro e; subst e; simp at hlt)
      have x1 := h1 i hlt
      have x2 := h2 i hlt
      obtain ⟨x, hx⟩ : ∃ x, x = xs[i] := ⟨_, rfl⟩
      rw [← hx] at x1 x2
      clear hx
      have l1 := World.block_lt_of_cell? w _ x1
      have l2 := World.block_lt_of_cell? w _ x2
      simp only at l1 l2
      have y1 := (hbel.cell (p := ⟨b, off + i, none⟩) (by simp only; omega)).trans x1
      have y2 := (hbel.cell (p := ⟨b', off' + i, none⟩) (by simp only; omega)).trans x2
      have HBE := Lib.hid hbel
      clear x1 x2 h1 h2 hbel
      go_wp2_with fail
      go_quiet (fail)
      go_wp2_with fail
      refine ⟨⟨i + 1, by simp, by omega, ?_⟩, by simp only [intOf]; omega⟩
      first
        | exact HBE.out
        | exact HBE.out.trans ⟨rfl, rfl, rfl, Nat.le_refl _, fun _ _ => rfl⟩

end Go.Proofs.YtdlfmchpaohoaaaDoor
