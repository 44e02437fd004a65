/- gimletlaw29.low, relocated: contracts. -/
import Derived.Test.YtgohnekaolgblaaHpH
import Derived.Test.YtgohnekaolgblaaHpAwake
namespace Go.Proofs.Ytgohnekaolgblaa
open Go.RowKit

def Hp.lowB (a to : Int) (ls : List Int) : Bool := ls.any (fun x => x % 2 == 0 && decide (x < a) && decide (to ≤ x))
theorem Hp.lowB_no {a to : Int} {ls : List Int} (h : Hp.lowB a to ls = false) : Hp.noLow a to ls := by
  intro w hw he hlt
  unfold Hp.lowB at h
  rw [List.any_eq_false] at h
  have := h w hw
  simp only [Bool.and_eq_true, beq_iff_eq, decide_eq_true_eq, not_and] at this
  have := this ⟨he, hlt⟩
  omega

set_option maxHeartbeats 1000000 in
set_option maxRecDepth 100000 in
theorem hpLow (v : Value) (ls : List Int) (a to : Int) (w : World) (hv : Sees .u32 w v ls) (hr : ∀ x ∈ ls, 0 ≤ x ∧ x < 4294967296) :
    Calls Try.prog 27 #[v, .int .u32 a, .int .u32 to] w fun e w' => e = .returned (.bool (Hp.lowB a to ls)) ∧ Below w.heap.size w w' := by
  obtain ⟨A, c, rfl, h1, h2, h3⟩ := hv
  unfold maxLen at h2
  obtain ⟨q, hq⟩ : ∃ q, q = Hp.lowB a to ls := ⟨_, rfl⟩
  rw [← hq]
  replace hq := Lib.hid hq
  replace h3 := Lib.hid h3
  replace hr := Lib.hid hr
  go_enter Try.func27, Try.ntmps27
  go_wp2_with fail
  go_loopw [7] (fun p wr => ∃ (i : Nat), p = .int .i64 (i : Int) ∧ i ≤ ls.length ∧ Hp.lowB a to (ls.take i) = false ∧ Below w.heap.size w wr)
    (fun p _ => ls.length - (intOf p).toNat)
  case atStart => exact ⟨0, rfl, by omega, by simp [Hp.lowB], B.refl w⟩
  case round =>
    obtain ⟨i, rfl, hi, hpre, hb⟩ := hrel
    by_cases hil : i < ls.length
    · obtain ⟨b, off, rfl, hc⟩ := h3.out (by intro e; subst e; simp at hil)
      have hci := cellK hb (hc i hil)
      have hri := hr.out _ (List.getElem_mem hil)
      have hstep : Hp.lowB a to (ls.take (i + 1)) = (ls[i] % 2 == 0 && decide (ls[i] < a) && decide (to ≤ ls[i])) := by
        unfold Hp.lowB at hpre ⊢
        rw [List.take_add_one, List.getElem?_eq_getElem hil, List.any_append, hpre]
        simp
      have hyes : (ls[i] % 2 == 0 && decide (ls[i] < a) && decide (to ≤ ls[i])) = true → q = true := by
        intro h
        rw [hq.out]
        unfold Hp.lowB
        rw [List.any_eq_true]
        exact ⟨_, List.getElem_mem hil, h⟩
      obtain ⟨x, hx⟩ : ∃ x, x = ls[i] := ⟨_, rfl⟩
      rw [← hx] at hci hri hstep hyes
      have hrem : x.tmod 2 = x % 2 := Int.tmod_eq_emod_of_nonneg hri.1
      have HB := Lib.hid hb
      replace hstep := Lib.hid hstep
      replace hyes := Lib.hid hyes
      clear hb hc hx hpre
      by_cases c1 : x % 2 = 0
      · by_cases c2 : x < a
        · by_cases c3 : to ≤ x
          · obtain rfl : q = true := hyes.out (by simp [c1, c2, c3])
            clear hyes hstep hq
            go_wp2_with fail
            go_returns
            exact ⟨rfl, HB.out⟩
          · go_wp2_with fail
            go_roundw
            case measure => simp only [intOf]; omega
            case rel => exact ⟨i + 1, by simp, by omega, by rw [hstep.out]; simp [c3], HB.out⟩
        · go_wp2_with fail
          go_roundw
          case measure => simp only [intOf]; omega
          case rel => exact ⟨i + 1, by simp, by omega, by rw [hstep.out]; simp [c2], HB.out⟩
      · have c1' : (x % 2 == 0) = false := by simpa using c1
        go_wp2_with fail
        go_roundw
        case measure => simp only [intOf]; omega
        case rel => exact ⟨i + 1, by simp, by omega, by rw [hstep.out]; simp [c1], HB.out⟩
    · have hie : i = ls.length := by omega
      obtain rfl : q = false := by rw [hq.out, ← hpre, List.take_of_length_le (by omega)]
      have HB := Lib.hid hb
      clear hb hpre hq
      go_wp2_with fail
      go_returns
      exact ⟨rfl, HB.out⟩

end Go.Proofs.Ytgohnekaolgblaa
