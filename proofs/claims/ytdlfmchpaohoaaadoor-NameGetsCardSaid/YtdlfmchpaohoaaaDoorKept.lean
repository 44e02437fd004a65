/- gimletkit.KeptBytes of bytes that LentBytes has lent and nobody has written to: true. -/
import Derived.Test.YtdlfmchpaohoaaaDoorLent
import Derived.Test.YtdlfmchpaohoaaaDoorSame
import Derived.Deep.RegionHeld3
namespace Go.Proofs.YtdlfmchpaohoaaaDoor
open Go.RowKit

theorem lentList_get (bs : List Int) (j : Nat) (hj : j < (lentList bs).length) : (lentList bs)[j] = lentAt bs j := by simp [lentList]

theorem sees_lent {bs : List Int} {w : World} {g : Nat} (h : w.rowIs g 5 (bs.length + 3) (fun j => .int .u8 (lentAt bs j))) (hm : bs.length ≤ 140737488351232) :
    Sees .u8 w (.slice (some ⟨g, 0, none⟩) (bs.length + 3) (bs.length + 3)) (lentList bs) := by
  have := row_sees h (lentList bs) (bs.length + 3) (by rw [lentList_length]; exact Nat.le_refl _) (by rw [lentList_length]; exact Nat.le_refl _) (by unfold maxLen; omega) fun j hj => by rw [lentList_get]
  rwa [lentList_length] at this

/-- What was lent reads as what it was lent of. -/
theorem sees_in {bs : List Int} {w : World} {g : Nat} (h : w.rowIs g 5 (bs.length + 3) (fun j => .int .u8 (lentAt bs j))) (hm : bs.length ≤ 140737488351232) :
    Sees .u8 w (.slice (some ⟨g, 0, none⟩) bs.length (bs.length + 3)) bs :=
  row_sees h bs (bs.length + 3) (by omega) (by omega) (by unfold maxLen; omega) fun j hj => by simp [lentAt, hj, List.getD_eq_getElem?_getD]

set_option maxHeartbeats 1000000 in
theorem kept (v : Value) (bs : List Int) (w : World) (g : Nat) (hr : w.rowIs g 5 (bs.length + 3) (fun j => .int .u8 (lentAt bs j))) (hv : Sees .u8 w v bs) (hb : Byt bs) (hm : bs.length ≤ 140737488351232) :
    Calls Tryd.prog 15 #[.slice (some ⟨g, 0, none⟩) bs.length (bs.length + 3), v] w fun e w' => e = .returned (.bool true) ∧ Below w.heap.size w w' := by
  have HL := Lib.hid (sees_lent hr hm); clear hr
  have HV := Lib.hid hv
  have HB := Lib.hid (lentList_byt hb)
  obtain ⟨A, cap, rfl, hc1, hc2⟩ := hv.len
  clear hv hb
  have q0 : (0 : Int) ≤ (bs.length : Int) + 3 := by omega
  have q1 : (bs.length : Int) + 3 ≤ ((bs.length + 3 : Nat) : Int) := by omega
  have q2 : IntKind.i64.wrap ((bs.length : Int) + 3) = (bs.length : Int) + 3 := IntWalk.i64_in _ (by omega)
  go_enter Tryd.func15, Tryd.ntmps15
  go_wp2_with fail
  go_region_held3 (fun _ => True) (trivial) ((first
    | (go_at_call 9; refine (lent _ bs _ (by first | exact HV.out | exact HV.out.drew) hm).mono ?_; rintro e1 w1 ⟨g1, hg1, rfl, r1, b1⟩; have R1 := Lib.hid r1; clear r1)
    | (go_at_call 24; refine (sameBytes (by first | exact HL.out.below b1 (Nat.le_refl _) | exact HL.out.drew.below b1 (Nat.le_refl _)) (sees_lent R1.out hm) HB.out HB.out true (by simp)).mono ?_; rintro e2 w2 ⟨rfl, rfl⟩)))
  all_goals go_wp2_with fail
  all_goals go_returns
  all_goals first
    | exact ⟨rfl, b1⟩
    | exact ⟨rfl, ((Below.refl _ w).drew).trans b1⟩
    | exact ⟨rfl, (((Below.refl _ w).drew).trans b1).drew⟩
    | exact ⟨rfl, b1.drew⟩

end Go.Proofs.YtdlfmchpaohoaaaDoor
