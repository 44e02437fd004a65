/- name.Of: contract. -/
import Derived.Test.YtdlfmchpaohoaaaDoorNmOf
namespace Go.Proofs.YtdlfmchpaohoaaaDoor
open Go.RowKit

theorem validRune_isRune (r : Int) : Lib.validRune r = Nm.isRune r := by
  unfold Lib.validRune Nm.isRune
  congr 1
  apply propext
  omega

set_option maxHeartbeats 2000000 in
theorem nmOf (v : Value) (l : List Int) (w : World) (hv : Sees .i64 w v l) (hm : l.length ≤ 2000) :
    Calls Tryd.prog 20 #[v] w fun e w' => (∃ v, e = .returned (.tuple #[v, .int .i64 (Nm.ofRes l).2]) ∧ Sees .u8 w' v (Nm.ofRes l).1) ∧ Below w.heap.size w w' := by
  obtain ⟨i0, hi, hz0, hz1, hz2⟩ := info_parts Tryd.infoI32
  obtain ⟨A, cap, rfl, hc1, hc2, hcells⟩ := hv
  have HC := Lib.hid hcells; clear hcells
  go_enter Tryd.func20, Tryd.ntmps20
  go_wp2_with fail
  go_loopw [4, 9] (fun o c wr => ∃ i : Nat, c = .int .i64 (i : Int) ∧ i ≤ l.length ∧ Owns 21 .i32 w.heap.size wr o (l.take i) ∧ Below w.heap.size w wr ∧ w.heap.size ≤ wr.heap.size ∧ ∀ x ∈ l.take i, Nm.isRune x = true)
    (fun _ c _ => l.length - (intOf c).toNat)
  case atStart => exact ⟨0, rfl, by omega, by simpa using Owns.nil _ _ _ _, Below.refl _ _, Nat.le_refl _, by simp⟩
  case round =>
    obtain ⟨i, rfl, hil, hown, hbel, hsz, hall⟩ := hrel
    by_cases hs : i = l.length
    · subst hs
      rw [List.take_length] at hown hall
      have e1 := run_runes (P := Tryd.prog) (T := 54) (E := 21) (S := 9) Tryd.underlying54 Tryd.underlying21 Tryd.underlying9 hown.sees hall
      have hcv := run_bytes (P := Tryd.prog) (S := 9) (T := 22) (E := 5) Tryd.underlying9 Tryd.underlying22 Tryd.underlying5 (Nm.ofs l)
      obtain ⟨A1, k1, rfl, _, _⟩ := hown.sees.len
      have hl := Nm.ofs_len l
      have HR := Lib.hid (Nm.ofRes_ok hall)
      have HY := Lib.hid (Nm.ofs_byt hall)
      have HBE := Lib.hid hbel
      clear hown hbel hall
      rename_i wr _ _ _ _
      go_wp2_with fail
      go_returns
      rw [HR.out]
      exact ⟨⟨_, rfl, bytesWorld_sees _ 5 HY.out (by unfold maxLen; omega)⟩, B.call HBE.out (bytesWorld_below _ 5 _)⟩
    · have hlt : i < l.length := by omega
      have hlz : (i : Int) < (l.length : Int) := by omega
      obtain ⟨b, off, rfl, hcell⟩ := HC.out (by intro e; subst e; simp at hlt)
      have x0 := hcell i hlt
      have hbl := World.block_lt_of_cell? w _ x0
      simp only at hbl
      have x1 := (hbel.cell (p := ⟨b, off + i, none⟩) (by simp only; omega)).trans x0
      have htk : l.take (i + 1) = l.take i ++ [l[i]] := List.take_succ_eq_append_getElem hlt
      have hlen : (l.take i).length ≤ 2000 := by rw [List.length_take]; omega
      have HTK := Lib.hid htk
      have HALL := Lib.hid (fun h => all_take hlt hall h)
      have HBAD := Lib.hid (fun h => Nm.ofRes_bad hlt h)
      obtain ⟨x, hx⟩ : ∃ x, x = l[i] := ⟨_, rfl⟩
      obtain ⟨ac, hac⟩ : ∃ ac, ac = l.take i := ⟨_, rfl⟩
      rw [← hac] at hlen hown
      rw [← hx] at x1
      have HAC := Lib.hid hac
      have HO := Lib.hid hown; have HBE := Lib.hid hbel; have HS := Lib.hid hsz
      clear x0 hcell hown hbel hall htk hac
      have HX := Lib.hid hx; clear hx
      cases hr : Nm.isRune x with
      | false =>
        have HR := Lib.hid hr
        by_cases n0 : x < 0
        · clear hr
          go_wp2_with fail
          go_returns
          rw [HBAD.out (by rw [← HX.out]; exact HR.out)]
          exact ⟨⟨_, rfl, Sees.nil _ _⟩, HBE.out⟩
        · by_cases n1 : 1114111 < x
          · clear hr
            go_wp2_with fail
            go_returns
            rw [HBAD.out (by rw [← HX.out]; exact HR.out)]
            exact ⟨⟨_, rfl, Sees.nil _ _⟩, HBE.out⟩
          · have hw : IntKind.i32.wrap x = x := IntWalk.i32_in _ (by omega)
            clear hr
            go_wp2_with fail
            refine (validRune _ _).mono ?_
            rintro _ w1 ⟨rfl, hw1⟩
            obtain rfl := hw1.symm
            rw [validRune_isRune, HR.out]
            go_wp2_with fail
            go_returns
            rw [HBAD.out (by rw [← HX.out]; exact HR.out)]
            exact ⟨⟨_, rfl, Sees.nil _ _⟩, HBE.out⟩
      | true =>
        have hrr := (Nm.isRune_iff x).1 hr
        have HR := Lib.hid hr
        have n0 : ¬ x < 0 := by omega
        have n1 : ¬ 1114111 < x := by omega
        have hw : IntKind.i32.wrap x = x := IntWalk.i32_in _ (by omega)
        clear hr hrr
        go_wp2_with fail
        refine (validRune _ _).mono ?_
        rintro _ w1 ⟨rfl, hw1⟩
        obtain rfl := hw1.symm
        rw [validRune_isRune, HR.out]
        go_wp2_with (at_builtin; refine app_own Tryd.underlying54 hi hz0 hz1 hz2 rfl _ _ rfl rfl rfl HO.out HBE.out HS.out (by omega) (by unfold maxLen; omega) ?_; intro v3 w3 o3 b3 z3)
        rw [HAC.out, HX.out, ← HTK.out] at o3
        refine ⟨⟨i + 1, by simp, by omega, o3, b3, z3, HALL.out (by rw [← HX.out]; exact HR.out)⟩, by simp only [intOf]; omega⟩

end Go.Proofs.YtdlfmchpaohoaaaDoor
