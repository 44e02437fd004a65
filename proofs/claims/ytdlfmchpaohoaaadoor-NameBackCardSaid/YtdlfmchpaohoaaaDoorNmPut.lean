/- name.Put, gimletref02.Put: contracts. -/
import Derived.Test.YtdlfmchpaohoaaaDoorNmStr
import Derived.Test.YtdlfmchpaohoaaaDoorNmGet
import Derived.Test.YtdlfmchpaohoaaaDoorLebPut
namespace Go.Proofs.YtdlfmchpaohoaaaDoor
open Go.RowKit

/-- A name's bytes, or the error. -/
def Nm.put (xs : List Int) : List Int × Int :=
  if 1048576 < (xs.length : Int) then ([], 3) else if 0 ≤ Nm.badAt xs then ([], 4) else (Leb.putU 4 xs.length ++ xs, 0)

set_option maxHeartbeats 2000000 in
theorem nmPut (xs : List Int) (w : World) (hb : Byt xs) (hT : Tabs w) (hm : xs.length ≤ 2000000) :
    Calls Tryd.prog 19 #[.string (str xs)] w fun e w' => (∃ v, e = .returned (.tuple #[v, .int .i64 (Nm.put xs).2]) ∧ Sees .u8 w' v (Nm.put xs).1) ∧ Below w.heap.size w w' := by
  obtain ⟨i0, hi, hz0, hz1, hz2⟩ := info_parts Tryd.infoU8
  have hss := str_size xs
  have HB := Lib.hid hb; clear hb
  have HT := Lib.hid hT; clear hT
  by_cases hl : 1048576 < (xs.length : Int)
  · have hr : Nm.put xs = ([], 3) := by unfold Nm.put; rw [if_pos hl]
    rw [hr]
    go_enter Tryd.func19, Tryd.ntmps19
    go_wp2_with fail
    go_returns
    exact ⟨⟨_, rfl, Sees.nil _ _⟩, Below.refl _ _⟩
  · have hcv := run_bytes (P := Tryd.prog) (S := 9) (T := 22) (E := 5) Tryd.underlying9 Tryd.underlying22 Tryd.underlying5 xs
    have S0 := Lib.hid (bytesWorld_sees w 5 HB.out (by unfold maxLen; omega))
    have T0 := Lib.hid (HT.out.below (bytesWorld_below w 5 (str xs)))
    have B0 := Lib.hid (bytesWorld_below w 5 (str xs))
    rcases Nm.badAt_cases xs with hbad | ⟨a, hbad, ha⟩
    · have hr : Nm.put xs = (Leb.putU 4 xs.length ++ xs, 0) := by unfold Nm.put; rw [if_neg hl, if_neg (by omega)]
      rw [hr]
      have lu := Leb.putU_len 4 xs.length
      have hw : IntKind.u32.wrap (xs.length : Int) = (xs.length : Int) := IntWalk.u32_in _ (by omega)
      have HBA := Lib.hid hbad; clear hbad
      go_enter Tryd.func19, Tryd.ntmps19
      go_wp2_with fail
      refine (nmBadAt _ xs _ S0.out HB.out T0.out (by omega)).mono ?_
      rintro _ w1 ⟨rfl, b1⟩
      rw [HBA.out]
      have B1 := Lib.hid (B.call B0.out b1); clear b1
      go_wp2_with fail
      refine (putU xs.length _ (by omega) (by omega)).mono ?_
      rintro _ w2 ⟨v2, rfl, o2, b2⟩
      obtain ⟨A2, k2, rfl, _, _⟩ := o2.sees.len
      have z2 := b2.size
      have HO := Lib.hid o2; have HB2 := Lib.hid b2; clear o2 b2
      go_wp2_with (at_builtin; refine app_str Tryd.underlying22 Tryd.underlying9 hi hz0 hz1 hz2 rfl (.tmp 16) (.tmp 17) rfl rfl rfl HB.out HO.out HB2.out z2 (by omega) ?_; intro v3 w3 o3 b3 z3)
      go_returns
      exact ⟨⟨_, rfl, o3.sees⟩, B.call B1.out b3⟩
    · have hr : Nm.put xs = ([], 4) := by unfold Nm.put; rw [if_neg hl, if_pos (by omega)]
      rw [hr]
      have HBA := Lib.hid hbad; clear hbad
      go_enter Tryd.func19, Tryd.ntmps19
      go_wp2_with fail
      refine (nmBadAt _ xs _ S0.out HB.out T0.out (by omega)).mono ?_
      rintro _ w1 ⟨rfl, b1⟩
      rw [HBA.out]
      have B1 := Lib.hid (B.call B0.out b1); clear b1
      go_wp2_with fail
      go_returns
      exact ⟨⟨_, rfl, Sees.nil _ _⟩, B1.out⟩

set_option maxHeartbeats 2000000 in
theorem refPut (xs : List Int) (w : World) (hb : Byt xs) (hm : xs.length ≤ 2000000) :
    Calls Tryd.prog 23 #[.string (str xs)] w fun e w' => (∃ v, e = .returned (.tuple #[v, .int .i64 (Nm.put xs).2]) ∧ Sees .u8 w' v (Nm.put xs).1) ∧ Below w.heap.size w w' := by
  obtain ⟨i0, hi, hz0, hz1, hz2⟩ := info_parts Tryd.infoU8
  have hss := str_size xs
  have HB := Lib.hid hb; clear hb
  by_cases hl : 1048576 < (xs.length : Int)
  · have hr : Nm.put xs = ([], 3) := by unfold Nm.put; rw [if_pos hl]
    rw [hr]
    go_enter Tryd.func23, Tryd.ntmps23
    go_wp2_with fail
    go_returns
    exact ⟨⟨_, rfl, Sees.nil _ _⟩, Below.refl _ _⟩
  · have hcv := run_bytes (P := Tryd.prog) (S := 9) (T := 22) (E := 5) Tryd.underlying9 Tryd.underlying22 Tryd.underlying5 xs
    have S0 := Lib.hid (bytesWorld_sees w 5 HB.out (by unfold maxLen; omega))
    have B0 := Lib.hid (bytesWorld_below w 5 (str xs))
    rcases Nm.badAt_cases xs with hbad | ⟨a, hbad, ha⟩
    · have hr : Nm.put xs = (Leb.putU 4 xs.length ++ xs, 0) := by unfold Nm.put; rw [if_neg hl, if_neg (by omega)]
      rw [hr]
      have lu := Leb.putU_len 4 xs.length
      have hw : IntKind.u32.wrap (xs.length : Int) = (xs.length : Int) := IntWalk.u32_in _ (by omega)
      have HBA := Lib.hid hbad; clear hbad
      go_enter Tryd.func23, Tryd.ntmps23
      go_wp2_with fail
      refine (refBad _ xs _ S0.out HB.out (by omega)).mono ?_
      rintro _ w1 ⟨rfl, b1⟩
      rw [HBA.out]
      have B1 := Lib.hid (B.call B0.out b1); clear b1
      go_wp2_with fail
      refine (refPutU xs.length _ (by omega) (by omega)).mono ?_
      rintro _ w2 ⟨v2, rfl, o2, b2⟩
      obtain ⟨A2, k2, rfl, _, _⟩ := o2.sees.len
      have bw := bytesWorld_below w2 5 (str xs)
      have HO := Lib.hid (o2.below bw (Nat.le_refl _))
      have HB2 := Lib.hid (B.call b2 bw)
      have S2 := Lib.hid (bytesWorld_sees w2 5 HB.out (by unfold maxLen; omega))
      have z2 := (B.call b2 bw).size
      clear o2 b2 bw
      go_wp2_with (at_builtin; refine app_src Tryd.underlying22 hi hz0 hz1 hz2 rfl (.tmp 14) (.tmp 16) rfl rfl rfl S2.out HO.out HB2.out z2 (by omega) (by unfold maxLen; omega) ?_; intro v3 w3 o3 b3 z3 _)
      go_returns
      exact ⟨⟨_, rfl, o3.sees⟩, B.call B1.out b3⟩
    · have hr : Nm.put xs = ([], 4) := by unfold Nm.put; rw [if_neg hl, if_pos (by omega)]
      rw [hr]
      have HBA := Lib.hid hbad; clear hbad
      go_enter Tryd.func23, Tryd.ntmps23
      go_wp2_with fail
      refine (refBad _ xs _ S0.out HB.out (by omega)).mono ?_
      rintro _ w1 ⟨rfl, b1⟩
      rw [HBA.out]
      have B1 := Lib.hid (B.call B0.out b1); clear b1
      go_wp2_with fail
      go_returns
      exact ⟨⟨_, rfl, Sees.nil _ _⟩, B1.out⟩

end Go.Proofs.YtdlfmchpaohoaaaDoor
