/- gimletkit.LentBytes: a copy with room behind it, in which marks stand: contract. -/
import Derived.Test.YtdlfmchpaohoaaaDoorRow
import Derived.Test.YtdlfmchpaohoaaaDoorLebRef
namespace Go.Proofs.YtdlfmchpaohoaaaDoor
open Go.RowKit

/-- What stands at a place of bytes that are lent. -/
def lentAt (bs : List Int) (j : Nat) : Int := if j < bs.length then bs.getD j 0 else 160 + (j : Int) % 90

/-- The same, with marks up to a place. -/
def lentTo (bs : List Int) (i j : Nat) : Int := if j < bs.length then bs.getD j 0 else if j < i then 160 + (j : Int) % 90 else 0

def lentList (bs : List Int) : List Int := (List.range (bs.length + 3)).map (lentAt bs)

theorem lentList_length (bs : List Int) : (lentList bs).length = bs.length + 3 := by simp [lentList]

theorem lentList_byt {bs : List Int} (hb : Byt bs) : Byt (lentList bs) := by
  intro n hn
  obtain ⟨j, _, rfl⟩ := List.mem_map.1 hn
  unfold lentAt
  split
  · rename_i h
    rw [List.getD_eq_getElem?_getD, List.getElem?_eq_getElem h]
    exact hb _ (List.getElem_mem h)
  · omega

set_option maxHeartbeats 1000000 in
theorem lent (v : Value) (bs : List Int) (w : World) (hv : Sees .u8 w v bs) (hm : bs.length ≤ 140737488351232) :
    Calls Tryd.prog 9 #[v] w fun e w' => ∃ g, w.heap.size ≤ g ∧ e = .returned (.slice (some ⟨g, 0, none⟩) bs.length (bs.length + 3)) ∧ w'.rowIs g 5 (bs.length + 3) (fun j => .int .u8 (lentAt bs j)) ∧ Below w.heap.size w w' := by
  obtain ⟨i0, hi, hz0, hz1, hz2⟩ := info_parts Tryd.infoU8
  obtain ⟨A, cap, rfl, hc1, hc2, hcells⟩ := hv
  have HC := Lib.hid (show Sees .u8 w (.slice A bs.length cap) bs from ⟨A, cap, rfl, hc1, hc2, hcells⟩); clear hcells
  go_enter Tryd.func9, Tryd.ntmps9
  go_wp2_with (first
    | (at_make; refine make_row Tryd.underlying22 hi hz0 hz1 rfl rfl (.tmp 7) (.tmp 7) rfl (bs.length + 3) rfl rfl (by rw [hz2]; omega) (by omega) ?_; intro w1 R1 b1 z1)
    | (refine copy_row (xs := bs) (k := .u8) Tryd.underlying22 (by rw [hi]; simp [hz1]) rfl (.tmp 9) (.tmp 10) rfl rfl rfl R1.out (HC.out.below b1 (Nat.le_refl _)) (by omega) b1 (Nat.le_refl _) ?_; intro w2 R2 b2))
  trace_state
  go_loopw [4] (fun c wr => ∃ i : Nat, c = .int .i64 (i : Int) ∧ bs.length ≤ i ∧ i ≤ bs.length + 3 ∧ wr.rowIs w.heap.size 5 (bs.length + 3) (fun j => .int .u8 (lentTo bs i j)) ∧ Below w.heap.size w wr)
    (fun c _ => bs.length + 3 - (intOf c).toNat)
  case atStart =>
    refine ⟨bs.length, rfl, Nat.le_refl _, by omega, R2.out.congr fun j hj => ?_, b2⟩
    unfold lentTo
    by_cases h : j < bs.length
    · simp [h]
    · simp [h]
  case round =>
    obtain ⟨i, rfl, hi1, hi2, hrow, hbel⟩ := hrel
    have HR := Lib.hid hrow
    by_cases hs : i = bs.length + 3
    · subst hs
      clear hrow
      go_wp2_with fail
      go_returns
      refine ⟨_, Nat.le_refl _, rfl, HR.out.congr fun j hj => ?_, hbel⟩
      unfold lentTo lentAt
      by_cases h : j < bs.length
      · simp [h]
      · simp [h]; omega
    · have hlt : i < bs.length + 3 := by omega
      have hc := hrow.cell hlt
      have hf := hrow.frozen i
      have hl := hrow.lt
      clear hrow
      go_wp2_with fail
      refine ⟨⟨i + 1, by simp, by omega, by omega, (HR.out.set i _).congr fun j hj => ?_, hbel.setCell (p := ⟨w.heap.size, i, none⟩) (Nat.le_refl _) _⟩, by simp only [intOf]; omega⟩
      unfold lentTo
      by_cases h : j = i
      · subst h
        simp
        omega
      · have e : (j < i + 1) ↔ j < i := by omega
        simp [h, e]

end Go.Proofs.YtdlfmchpaohoaaaDoor
