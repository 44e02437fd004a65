/- gimletref02.at: contract. -/
import Derived.Test.YtdlfmchpaohoaaaDoorNmRefA
namespace Go.Proofs.YtdlfmchpaohoaaaDoor
open Go.RowKit

/-- A number, of a first byte and so many that go on. -/
def Nm.acc (xs : List Int) (i base : Nat) : Nat → Nat
  | 0 => Nm.bt xs i - base
  | j + 1 => 64 * Nm.acc xs i base j + Nm.bt xs (i + (j + 1)) % 64

def Nm.tok (xs : List Int) (i j : Nat) : Prop := i + j < xs.length ∧ 128 ≤ Nm.bt xs (i + j) ∧ Nm.bt xs (i + j) < 192

theorem Nm.acc_zero (xs : List Int) (i base : Nat) : Nm.acc xs i base 0 = Nm.bt xs i - base := by rw [Nm.acc]
theorem Nm.acc_succ (xs : List Int) (i base j : Nat) : Nm.acc xs i base (j + 1) = 64 * Nm.acc xs i base j + Nm.bt xs (i + (j + 1)) % 64 := by rw [Nm.acc]

theorem Nm.acc_small {xs : List Int} (hb : Byt xs) (i base j : Nat) (hj : j ≤ 3) : Nm.acc xs i base j ≤ 68157440 := by
  have h0 := Nm.bt_lt hb i
  have h1 := Nm.bt_lt hb (i + (0 + 1))
  have h2 := Nm.bt_lt hb (i + (1 + 1))
  have h3 := Nm.bt_lt hb (i + (2 + 1))
  have e0 := Nm.acc_zero xs i base
  have e1 := Nm.acc_succ xs i base 0
  have e2 := Nm.acc_succ xs i base 1
  have e3 := Nm.acc_succ xs i base 2
  generalize Nm.bt xs i = b0 at *
  generalize Nm.bt xs (i + (0 + 1)) = b1 at *
  generalize Nm.bt xs (i + (1 + 1)) = b2 at *
  generalize Nm.bt xs (i + (2 + 1)) = b3 at *
  have k0 : Nm.acc xs i base 0 ≤ 255 := by omega
  have k1 : Nm.acc xs i base (0 + 1) ≤ 16447 := by omega
  have k2 : Nm.acc xs i base (1 + 1) ≤ 1052735 := by simp only [Nat.zero_add] at k1; omega
  have k3 : Nm.acc xs i base (2 + 1) ≤ 67375167 := by simp only [Nat.reduceAdd] at k2; omega
  rcases (show j = 0 ∨ j = 0 + 1 ∨ j = 1 + 1 ∨ j = 2 + 1 by omega) with rfl | rfl | rfl | rfl
  · omega
  · omega
  · omega
  · omega

theorem refTail_ok' (v : Value) (xs : List Int) (z : Int) (a : Nat) (hz : z = (a : Int)) (w : World) (hv : Sees .u8 w v xs) (hb : Byt xs) (ha : a < xs.length) (h1 : 128 ≤ Nm.bt xs a) (h2 : Nm.bt xs a < 192) :
    Calls Tryd.prog 35 #[v, .int .i64 z] w fun e w' => e = .returned (.tuple #[.int .i64 ((Nm.bt xs a : Int) - 128), .bool true]) ∧ w' = w := by
  subst hz; exact refTail_ok v xs a w hv hb ha h1 h2
theorem refTail_bad' (v : Value) (xs : List Int) (z : Int) (a : Nat) (hz : z = (a : Int)) (w : World) (hv : Sees .u8 w v xs) (hb : Byt xs) (h : ¬ (a < xs.length ∧ 128 ≤ Nm.bt xs a ∧ Nm.bt xs a < 192)) :
    Calls Tryd.prog 35 #[v, .int .i64 z] w fun e w' => e = .returned (.tuple #[.int .i64 0, .bool false]) ∧ w' = w := by
  subst hz; exact refTail_bad v xs a w hv hb h

def Nm.good (xs : List Int) (i base m : Nat) : Prop := (∀ j, 1 ≤ j → j ≤ m → Nm.tok xs i j) ∧ Nm.runeOk (Nm.acc xs i base m) ∧ Nm.oneLen (Nm.acc xs i base m) = m + 1

theorem Nm.isRune_nat (n : Nat) : Nm.isRune (n : Int) = true ↔ Nm.runeOk n := by
  unfold Nm.isRune Nm.runeOk; simp; omega

set_option maxHeartbeats 2000000 in
theorem refAt_run (v : Value) (xs : List Int) (i base m : Nat) (w : World) (hv : Sees .u8 w v xs) (hb : Byt xs) (hi : i < xs.length) (hm : xs.length ≤ 140737488351232) (hm3 : m ≤ 3) (hbase : base ≤ Nm.bt xs i)
    (hf : ∀ w, Calls Tryd.prog 34 #[.int .u8 (Nm.bt xs i : Int)] w fun e w' => e = .returned (.tuple #[.int .i64 ((Nm.bt xs i : Int) - (base : Int)), .int .i64 (m : Int), .bool true]) ∧ w' = w) :
    Calls Tryd.prog 25 #[v, .int .i64 (i : Int)] w fun e w' => (∃ a b ok, e = .returned (.tuple #[.int .i64 a, .int .i64 b, .bool ok]) ∧ (ok = true ↔ Nm.good xs i base m) ∧ (ok = true → a = (Nm.acc xs i base m : Int) ∧ b = ((m + 1 : Nat) : Int))) ∧ Below w.heap.size w w' := by
  obtain ⟨A, cap, rfl, hc1, hc2, hcells⟩ := hv
  have HV := Lib.hid (show Sees .u8 w (.slice A xs.length cap) xs from ⟨A, cap, rfl, hc1, hc2, hcells⟩)
  obtain ⟨b, off, rfl, hcell⟩ := hcells (by intro e; subst e; simp at hi)
  have hx := hcell i hi
  rw [Nm.bt_get hb hi] at hx
  clear hcell hcells
  have HB := Lib.hid hb; clear hb
  have HF := Lib.hid hf; clear hf
  have ha0 : ((Nm.bt xs i : Nat) : Int) - (base : Int) = ((Nm.acc xs i base 0 : Nat) : Int) := by rw [Nm.acc_zero]; omega
  have HA0 := Lib.hid ha0; clear ha0
  obtain ⟨c, hc⟩ : ∃ c, c = Nm.bt xs i := ⟨_, rfl⟩
  rw [← hc] at hx
  have HC := Lib.hid hc; clear hc
  go_enter Tryd.func25, Tryd.ntmps25
  go_wp2_with fail
  rw [HC.out]
  refine (HF.out _).mono ?_
  rintro _ w1 ⟨rfl, hw1⟩
  obtain rfl := hw1.symm
  rw [HA0.out]
  go_wp2_with fail
  go_loopw [7, 10] (fun n c wr => ∃ j : Nat, c = .int .i64 ((j : Int) + 1) ∧ j ≤ m ∧ n = .int .i64 ((Nm.acc xs i base j : Nat) : Int) ∧ (∀ k, 1 ≤ k → k ≤ j → Nm.tok xs i k) ∧ Below w.heap.size w wr)
    (fun _ c _ => m + 1 - (intOf c).toNat)
  case atStart => exact ⟨0, rfl, by omega, rfl, fun k h1 h2 => by omega, Below.refl _ _⟩
  case round =>
    obtain ⟨j, rfl, hj, rfl, htok, hbel⟩ := hrel
    have hac := Nm.acc_small HB.out i base j (by omega)
    have HTK := Lib.hid htok; clear htok
    have HE := Lib.hid hbel
    by_cases hjm : j = m
    · subst hjm
      obtain ⟨a, ha⟩ : ∃ a, a = Nm.acc xs i base j := ⟨_, rfl⟩
      rw [← ha] at hac ⊢
      have HA := Lib.hid ha; clear ha
      go_wp2_with fail
      refine (refRune _ _).mono ?_
      rintro _ w2 ⟨rfl, hw2⟩
      obtain rfl := hw2.symm
      by_cases hr : Nm.isRune (a : Int) = true
      · have hro := (Nm.isRune_nat a).1 hr
        rw [hr]
        have HRO := Lib.hid hro
        have ha3 : a < 2097152 := by unfold Nm.runeOk at hro; omega
        clear hro hr
        go_wp2_with fail
        refine (refOne a _ ha3).mono ?_
        rintro _ w3 ⟨⟨v3, rfl, s3⟩, b3⟩
        obtain ⟨A3, k3, rfl, _, _⟩ := s3.len
        clear s3
        by_cases hl : Nm.oneLen a = j + 1
        · have hl' : (((Nm.one a).length : Int) == (j : Int) + 1) = true := by rw [Nm.one_len, hl]; simp
          go_wp2_with fail
          go_returns
          refine ⟨⟨_, _, true, rfl, ⟨fun _ => ⟨HTK.out, by rw [← HA.out]; exact HRO.out, by rw [← HA.out]; exact hl⟩, fun _ => rfl⟩, fun _ => ⟨by rw [← HA.out], by simp⟩⟩, B.call HE.out b3⟩
        · have hl' : (((Nm.one a).length : Int) == (j : Int) + 1) = false := by rw [Nm.one_len]; simp; omega
          go_wp2_with fail
          go_returns
          refine ⟨⟨_, _, false, rfl, ⟨fun h => (by simp at h), fun h => absurd h.2.2 (by rw [← HA.out]; exact hl)⟩, fun h => (by simp at h)⟩, B.call HE.out b3⟩
      · have hro : ¬ Nm.runeOk a := fun h => hr ((Nm.isRune_nat a).2 h)
        have hr' : Nm.isRune (a : Int) = false := by simpa using hr
        rw [hr']
        go_wp2_with fail
        go_returns
        refine ⟨⟨_, _, false, rfl, ⟨fun h => (by simp at h), fun h => absurd h.2.1 (by rw [← HA.out]; exact hro)⟩, fun h => (by simp at h)⟩, HE.out⟩
    · have hlt : j < m := by omega
      have hle : (j : Int) + 1 ≤ m := by omega
      have hz : (i : Int) + ((j : Int) + 1) = ((i + (j + 1) : Nat) : Int) := by omega
      have HZ := Lib.hid hz; clear hz
      by_cases ht : Nm.tok xs i (j + 1)
      · have hnew : (64 : Int) * ((Nm.acc xs i base j : Nat) : Int) + (((Nm.bt xs (i + (j + 1)) : Nat) : Int) - 128) = ((Nm.acc xs i base (j + 1) : Nat) : Int) := by
          rw [Nm.acc_succ]; have := ht.2.1; have := ht.2.2; omega
        have hbt := Nm.bt_lt HB.out (i + (j + 1))
        have HN := Lib.hid hnew; clear hnew
        go_wp2_with fail
        refine (refTail_ok' _ xs _ (i + (j + 1)) HZ.out _ (HV.out.below HE.out (Nat.le_refl _)) HB.out ht.1 ht.2.1 ht.2.2).mono ?_
        rintro _ w2 ⟨rfl, hw2⟩
        obtain rfl := hw2.symm
        obtain ⟨B, hB⟩ : ∃ B, B = Nm.bt xs (i + (j + 1)) := ⟨_, rfl⟩
        rw [← hB] at hbt ⊢
        have HBB := Lib.hid hB; clear hB
        go_wp2_with fail
        refine ⟨⟨j + 1, by simp, by omega, by rw [← HN.out, HBB.out], fun k h1 h2 => ?_, HE.out⟩, by simp only [intOf]; omega⟩
        by_cases hk : k = j + 1
        · subst hk; exact ht
        · exact HTK.out k h1 (by omega)
      · go_wp2_with fail
        refine (refTail_bad' _ xs _ (i + (j + 1)) HZ.out _ (HV.out.below HE.out (Nat.le_refl _)) HB.out ht).mono ?_
        rintro _ w2 ⟨rfl, hw2⟩
        obtain rfl := hw2.symm
        go_wp2_with fail
        go_returns
        refine ⟨⟨_, _, false, rfl, ⟨fun h => (by simp at h), fun h => absurd (h.1 (j + 1) (by omega) (by omega)) ht⟩, fun h => (by simp at h)⟩, HE.out⟩

end Go.Proofs.YtdlfmchpaohoaaaDoor
