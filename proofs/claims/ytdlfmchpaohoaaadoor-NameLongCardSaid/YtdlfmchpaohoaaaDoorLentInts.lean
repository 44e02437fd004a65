/- gimletkit.LentInts: a copy with room behind it: what is read of it. -/
import Derived.Test.YtdlfmchpaohoaaaDoorRow
import Derived.Test.YtdlfmchpaohoaaaDoorNmRunes
namespace Go.Proofs.YtdlfmchpaohoaaaDoor
open Go.RowKit

def lentITo (xs : List Int) (i j : Nat) : Int := if j < xs.length then xs.getD j 0 else if j < i then -77 - (j : Int) else 0

set_option maxHeartbeats 1000000 in
theorem lentInts (v : Value) (xs : List Int) (w : World) (hv : Sees .i64 w v xs) (hm : xs.length ≤ 1000000) :
    Calls Tryd.prog 21 #[v] w fun e w' => (∃ v, e = .returned v ∧ Sees .i64 w' v xs) ∧ Below w.heap.size w w' := by
  obtain ⟨i0, hi, hz0, hz1, hz2⟩ := info_parts Tryd.infoInt
  obtain ⟨A, cap, rfl, hc1, hc2, hcells⟩ := hv
  have HC := Lib.hid (show Sees .i64 w (.slice A xs.length cap) xs from ⟨A, cap, rfl, hc1, hc2, hcells⟩); clear hcells
  go_enter Tryd.func21, Tryd.ntmps21
  go_wp2_with (first
    | (at_make; refine make_row Tryd.underlying24 hi hz0 hz1 rfl rfl (.tmp 7) (.tmp 7) rfl (xs.length + 3) rfl rfl (by rw [hz2]; omega) (by omega) ?_; intro w1 R1 b1 z1)
    | (refine copy_row (xs := xs) (k := .i64) Tryd.underlying24 (by rw [hi]; simp [hz1]) rfl (.tmp 9) (.tmp 10) rfl rfl rfl R1.out (HC.out.below b1 (Nat.le_refl _)) (by omega) b1 (Nat.le_refl _) ?_; intro w2 R2 b2))
  go_loopw [4] (fun c wr => ∃ i : Nat, c = .int .i64 (i : Int) ∧ xs.length ≤ i ∧ i ≤ xs.length + 3 ∧ wr.rowIs w.heap.size 3 (xs.length + 3) (fun j => .int .i64 (lentITo xs i j)) ∧ Below w.heap.size w wr)
    (fun c _ => xs.length + 3 - (intOf c).toNat)
  case atStart =>
    refine ⟨xs.length, rfl, Nat.le_refl _, by omega, R2.out.congr fun j hj => ?_, b2⟩
    unfold lentITo
    by_cases h : j < xs.length
    · simp [h]
    · simp [h]
  case round =>
    obtain ⟨i, rfl, hi1, hi2, hrow, hbel⟩ := hrel
    have HR := Lib.hid hrow
    by_cases hs : i = xs.length + 3
    · subst hs
      clear hrow
      go_wp2_with fail
      go_returns
      exact ⟨⟨_, rfl, row_sees HR.out xs (xs.length + 3) (by omega) (by omega) (by unfold maxLen; omega) fun j hj => by simp [lentITo, hj, List.getD_eq_getElem?_getD]⟩, hbel⟩
    · have hlt : i < xs.length + 3 := by omega
      have hc := hrow.cell hlt
      have hf := hrow.frozen i
      have hl := hrow.lt
      clear hrow
      go_wp2_with fail
      refine ⟨⟨i + 1, by simp, by omega, by omega, (HR.out.set i _).congr fun j hj => ?_, hbel.setCell (p := ⟨w.heap.size, i, none⟩) (Nat.le_refl _) _⟩, by simp only [intOf]; omega⟩
      unfold lentITo
      by_cases h : j = i
      · subst h
        simp
        omega
      · have e : (j < i + 1) ↔ j < i := by omega
        simp [h, e]

end Go.Proofs.YtdlfmchpaohoaaaDoor
