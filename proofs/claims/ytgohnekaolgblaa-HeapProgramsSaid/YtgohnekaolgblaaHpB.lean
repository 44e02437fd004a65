/- heap.Check$1, Check: contracts. -/
import Derived.Test.YtgohnekaolgblaaHpA
namespace Go.Proofs.Ytgohnekaolgblaa
open Go.RowKit

theorem Hp.okws_fail {S : Nat → Bool} {a : Int} {ws : List Int} {i : Nat} (hi : i < ws.length) (h : Hp.okw S a ws[i] = false) : Hp.okws S a ws = false := by
  unfold Hp.okws
  rw [List.all_eq_false]
  exact ⟨_, List.getElem_mem hi, by rw [h]; simp⟩
theorem Hp.okws_take {S : Nat → Bool} {a : Int} {ws : List Int} {i : Nat} (hi : i < ws.length) (h : Hp.okws S a (ws.take i) = true) (h2 : Hp.okw S a ws[i] = true) : Hp.okws S a (ws.take (i + 1)) = true := by
  unfold Hp.okws at *
  rw [List.take_add_one, List.getElem?_eq_getElem hi, List.all_append, h]
  simp [h2]

set_option maxHeartbeats 1000000 in
set_option maxRecDepth 100000 in
theorem hpFine (v : Value) (ws : List Int) (S : Nat → Bool) (a : Int) (pa ph bm n : Nat) (w : World) (hv : Sees .u32 w v ws) (hr : ∀ x ∈ ws, 0 ≤ x ∧ x < 4294967296) (k0 : 0 ≤ a) (k1 : a < 4294967296) (hpa : w.cell? ⟨pa, 0, none⟩ = some (.int .u32 a)) (hph : w.cell? ⟨ph, 0, none⟩ = some (.map (some bm))) (hs : IsSet w bm n S) :
    Calls Try.prog 66 #[v, .pointer (some ⟨pa, 0, none⟩), .pointer (some ⟨ph, 0, none⟩)] w fun e w' => e = .returned (.bool (Hp.okws S a ws)) ∧ Below w.heap.size w w' := by
  obtain ⟨A, c, rfl, h1, h2, h3⟩ := hv
  unfold maxLen at h2
  obtain ⟨q, hq⟩ : ∃ q, q = Hp.okws S a ws := ⟨_, rfl⟩
  rw [← hq]
  replace hq := Lib.hid hq
  replace h3 := Lib.hid h3
  replace hr := Lib.hid hr
  have HS := Lib.hid hs
  have HPA := Lib.hid hpa
  have HPH := Lib.hid hph
  clear hs hpa hph
  go_enter Try.func66, Try.ntmps66
  go_wp2_with fail
  go_loopw [11] (fun p wr => ∃ (i : Nat), p = .int .i64 (i : Int) ∧ i ≤ ws.length ∧ Hp.okws S a (ws.take i) = true ∧ Below w.heap.size w wr)
    (fun p _ => ws.length - (intOf p).toNat)
  case atStart => exact ⟨0, rfl, by omega, by simp [Hp.okws], B.refl w⟩
  case round =>
    obtain ⟨i, rfl, hi, hpre, hb⟩ := hrel
    by_cases hil : i < ws.length
    · obtain ⟨b, off, rfl, hc⟩ := h3.out (by intro e; subst e; simp at hil)
      have hci := cellK hb (hc i hil)
      have hri := hr.out _ (List.getElem_mem hil)
      have hfail := Hp.okws_fail (S := S) (a := a) hil
      have hstep := Hp.okws_take hil hpre
      have cpa := cellK hb HPA.out
      have cph := cellK hb HPH.out
      have hset := HS.out.call hb
      obtain ⟨x, hx⟩ : ∃ x, x = ws[i] := ⟨_, rfl⟩
      rw [← hx] at hci hri hfail hstep
      have hm : bits .and .u32 x 1 = x % 2 := bits_mask .u32 x 1 (by decide)
      have HN0 := fun w => hpNames x a w hri.1 hri.2 k0 k1
      have hidx : Hp.idx a x < 4294967296 := by unfold Hp.idx; omega
      unfold Hp.okw at hfail hstep
      obtain ⟨ad, had⟩ : ∃ b, b = Hp.isAdr a x := ⟨_, rfl⟩
      obtain ⟨wh, hwh⟩ : ∃ b, b = Hp.whole a x := ⟨_, rfl⟩
      obtain ⟨k, hk⟩ : ∃ b, b = Hp.idx a x := ⟨_, rfl⟩
      rw [← had, ← hwh, ← hk] at HN0 hfail hstep
      rw [← hk] at hidx
      have HB := Lib.hid hb
      replace hpre := Lib.hid hpre
      replace hfail := Lib.hid hfail
      replace hstep := Lib.hid hstep
      clear hb hc hx hwh hk
      cases ad
      · have HN : ∀ w, Calls Try.prog 67 #[.int .u32 x, .int .u32 a] w fun e w' => e = .returned (.tuple #[.int .i64 0, .bool false]) ∧ w' = w := fun w => by simpa using HN0 w
        clear HN0
        replace HN := Lib.hid HN
        have hnot : x % 2 = 1 ∨ x < a := by
          unfold Hp.isAdr at had
          by_cases h : x % 2 = 1
          · exact .inl h
          · refine .inr ?_
            have h0 : x % 2 = 0 := by omega
            simp [h0] at had
            omega
        clear had
        by_cases hodd : x % 2 = 1
        · have hodd' : (x % 2 == 0) = false := by simp; omega
          go_wp2_with fail
          refine (HN.out _).mono ?_
          rintro _ w1 ⟨rfl, hw1⟩
          subst hw1
          go_wp2_with fail
          go_roundw
          case measure => simp only [intOf]; omega
          case rel => exact ⟨i + 1, by simp, by omega, hstep.out rfl, HB.out⟩
        · have hev : (x % 2 == 0) = true := by simp; omega
          have hlta : x < a := by omega
          go_wp2_with fail
          refine (HN.out _).mono ?_
          rintro _ w1 ⟨rfl, hw1⟩
          subst hw1
          go_wp2_with fail
          go_roundw
          case measure => simp only [intOf]; omega
          case rel => exact ⟨i + 1, by simp, by omega, hstep.out rfl, HB.out⟩
      · have HN : ∀ w, Calls Try.prog 67 #[.int .u32 x, .int .u32 a] w fun e w' => e = .returned (.tuple #[.int .i64 (k : Int), .bool wh]) ∧ w' = w := fun w => by simpa using HN0 w
        clear HN0
        replace HN := Lib.hid HN
        have hyes : x % 2 = 0 ∧ a ≤ x := by
          unfold Hp.isAdr at had
          simpa using had.symm
        have hev : (x % 2 == 0) = true := by simp; omega
        obtain ⟨_, hge⟩ := hyes
        clear had
        have hlook := fun w' (h : Below w.heap.size w w') => IsSet.run (HS.out.call h) k (by omega)
        cases wh
        · have hno := hfail.out rfl
          rw [← hq.out] at hno
          subst hno
          clear hfail hstep hpre
          go_wp2_with fail
          refine (HN.out _).mono ?_
          rintro _ w1 ⟨rfl, hw1⟩
          subst hw1
          go_wp2_with fail
          go_returns
          exact ⟨rfl, HB.out⟩
        · have hlk := hlook _ HB.out
          clear hlook
          obtain ⟨s, hse⟩ : ∃ s, s = S k := ⟨_, rfl⟩
          rw [← hse] at hlk hfail hstep
          clear hse
          cases s
          · have hno := hfail.out rfl
            rw [← hq.out] at hno
            subst hno
            clear hfail hstep hpre
            go_wp2_with fail
            refine (HN.out _).mono ?_
            rintro _ w1 ⟨rfl, hw1⟩
            subst hw1
            go_wp2_with fail
            go_returns
            exact ⟨rfl, HB.out⟩
          · go_wp2_with fail
            refine (HN.out _).mono ?_
            rintro _ w1 ⟨rfl, hw1⟩
            subst hw1
            go_wp2_with fail
            go_roundw
            case measure => simp only [intOf]; omega
            case rel => exact ⟨i + 1, by simp, by omega, hstep.out rfl, HB.out⟩
    · have hie : i = ws.length := by omega
      have hyes : q = true := by rw [hq.out, ← hpre, List.take_of_length_le (by omega)]
      subst hyes
      have HB := Lib.hid hb
      clear hb hpre
      go_wp2_with fail
      go_returns
      exact ⟨rfl, HB.out⟩

end Go.Proofs.Ytgohnekaolgblaa
