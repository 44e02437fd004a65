/- gimletref02.at: it tells what the decoder tells. -/
import Derived.Test.YtdlfmchpaohoaaaDoorNmRefB
namespace Go.Proofs.YtdlfmchpaohoaaaDoor
open Go.RowKit

theorem Nm.tok_tl (xs : List Int) (i j : Nat) : Nm.tok xs i j ↔ Nm.tl (xs.length - i) j (Nm.bt xs (i + j)) := by
  unfold Nm.tok Nm.tl; omega

theorem Nm.ref_dec {xs : List Int} (hb : Byt xs) (i : Nat) :
    Nm.refN (xs.length - i) (Nm.bt xs i) (Nm.bt xs (i + 1)) (Nm.bt xs (i + 2)) (Nm.bt xs (i + 3)) = if Nm.bad xs i then none else some (Nm.dec xs i) :=
  Nm.refN_eq _ _ _ _ _ (Nm.bt_lt hb _) (Nm.bt_lt hb _) (Nm.bt_lt hb _) (Nm.bt_lt hb _)

/-- What 'at' tells, by the decoder. -/
def Nm.AtTells (xs : List Int) (i : Nat) (a b : Int) (ok : Bool) : Prop := (Nm.bad xs i ∧ ok = false) ∨ (¬ Nm.bad xs i ∧ ok = true ∧ a = ((Nm.dec xs i).1 : Int) ∧ b = ((Nm.dec xs i).2 : Int))

theorem Nm.tells {xs : List Int} (hb : Byt xs) (i base m : Nat) (a b : Int) (ok : Bool)
    (h : Nm.refN (xs.length - i) (Nm.bt xs i) (Nm.bt xs (i + 1)) (Nm.bt xs (i + 2)) (Nm.bt xs (i + 3)) = some (Nm.acc xs i base m, m + 1) ∧ Nm.good xs i base m ∨ Nm.refN (xs.length - i) (Nm.bt xs i) (Nm.bt xs (i + 1)) (Nm.bt xs (i + 2)) (Nm.bt xs (i + 3)) = none ∧ ¬ Nm.good xs i base m)
    (h1 : ok = true ↔ Nm.good xs i base m) (h2 : ok = true → a = (Nm.acc xs i base m : Int) ∧ b = ((m + 1 : Nat) : Int)) : Nm.AtTells xs i a b ok := by
  rw [Nm.ref_dec hb] at h
  rcases h with ⟨h, hg⟩ | ⟨h, hg⟩
  · have ho := h1.2 hg
    obtain ⟨ha, hb'⟩ := h2 ho
    by_cases hbad : Nm.bad xs i
    · rw [if_pos hbad] at h; cases h
    · rw [if_neg hbad] at h
      have hd : Nm.dec xs i = (Nm.acc xs i base m, m + 1) := by injection h
      exact .inr ⟨hbad, ho, by rw [ha, hd], by rw [hb', hd]⟩
  · have ho : ok = false := by
      cases ok with
      | false => rfl
      | true => exact absurd (h1.1 rfl) hg
    by_cases hbad : Nm.bad xs i
    · exact .inl ⟨hbad, ho⟩
    · rw [if_neg hbad] at h; cases h

theorem Nm.good0 (xs : List Int) (i : Nat) (h : Nm.bt xs i < 128) : Nm.good xs i 0 0 := by
  refine ⟨fun j h1 h2 => by omega, ?_, ?_⟩
  · rw [Nm.acc_zero]; unfold Nm.runeOk; omega
  · rw [Nm.acc_zero]; unfold Nm.oneLen; rw [if_pos (by omega)]

theorem Nm.good1 (xs : List Int) (i base : Nat) : Nm.good xs i base 1 ↔ Nm.tok xs i 1 ∧ Nm.runeOk (Nm.acc xs i base 1) ∧ Nm.oneLen (Nm.acc xs i base 1) = 2 :=
  ⟨fun h => ⟨h.1 1 (by omega) (by omega), h.2⟩, fun h => ⟨fun j h1 h2 => (show j = 1 by omega) ▸ h.1, h.2⟩⟩
theorem Nm.good2 (xs : List Int) (i base : Nat) : Nm.good xs i base 2 ↔ Nm.tok xs i 1 ∧ Nm.tok xs i 2 ∧ Nm.runeOk (Nm.acc xs i base 2) ∧ Nm.oneLen (Nm.acc xs i base 2) = 3 :=
  ⟨fun h => ⟨h.1 1 (by omega) (by omega), h.1 2 (by omega) (by omega), h.2⟩, fun h => ⟨fun j h1 h2 => by
    rcases (show j = 1 ∨ j = 2 by omega) with rfl | rfl
    · exact h.1
    · exact h.2.1, h.2.2⟩⟩
theorem Nm.good3 (xs : List Int) (i base : Nat) : Nm.good xs i base 3 ↔ Nm.tok xs i 1 ∧ Nm.tok xs i 2 ∧ Nm.tok xs i 3 ∧ Nm.runeOk (Nm.acc xs i base 3) ∧ Nm.oneLen (Nm.acc xs i base 3) = 4 :=
  ⟨fun h => ⟨h.1 1 (by omega) (by omega), h.1 2 (by omega) (by omega), h.1 3 (by omega) (by omega), h.2⟩, fun h => ⟨fun j h1 h2 => by
    rcases (show j = 1 ∨ j = 2 ∨ j = 3 by omega) with rfl | rfl | rfl
    · exact h.1
    · exact h.2.1
    · exact h.2.2.1, h.2.2.2⟩⟩

theorem Nm.low {n k b : Nat} (h : Nm.tl n k b) : b % 64 = b - 128 := by unfold Nm.tl at h; omega

theorem Nm.parts1 {xs : List Int} (i : Nat) (c1 : 192 ≤ Nm.bt xs i ∧ Nm.bt xs i < 224) :
    Nm.refN (xs.length - i) (Nm.bt xs i) (Nm.bt xs (i + 1)) (Nm.bt xs (i + 2)) (Nm.bt xs (i + 3)) = some (Nm.acc xs i 192 1, 1 + 1) ∧ Nm.good xs i 192 1 ∨ Nm.refN (xs.length - i) (Nm.bt xs i) (Nm.bt xs (i + 1)) (Nm.bt xs (i + 2)) (Nm.bt xs (i + 3)) = none ∧ ¬ Nm.good xs i 192 1 := by
  have ha : Nm.acc xs i 192 1 = 64 * (Nm.bt xs i - 192) + Nm.bt xs (i + 1) % 64 := by rw [show (1 : Nat) = 0 + 1 from rfl, Nm.acc_succ, Nm.acc_zero]
  rw [Nm.good1, Nm.tok_tl]
  unfold Nm.refN
  rw [if_neg (by omega), if_pos c1]
  by_cases t1 : Nm.tl (xs.length - i) 1 (Nm.bt xs (i + 1))
  · rw [ha, Nm.low t1]
    by_cases hg : Nm.tl (xs.length - i) 1 (Nm.bt xs (i + 1)) ∧ Nm.runeOk (64 * (Nm.bt xs i - 192) + (Nm.bt xs (i + 1) - 128)) ∧ Nm.oneLen (64 * (Nm.bt xs i - 192) + (Nm.bt xs (i + 1) - 128)) = 2
    · rw [if_pos hg]; exact .inl ⟨rfl, hg⟩
    · rw [if_neg hg]; exact .inr ⟨rfl, hg⟩
  · rw [if_neg (fun h => t1 h.1)]; exact .inr ⟨rfl, fun h => t1 h.1⟩

theorem Nm.parts2 {xs : List Int} (i : Nat) (c1 : 224 ≤ Nm.bt xs i ∧ Nm.bt xs i < 240) :
    Nm.refN (xs.length - i) (Nm.bt xs i) (Nm.bt xs (i + 1)) (Nm.bt xs (i + 2)) (Nm.bt xs (i + 3)) = some (Nm.acc xs i 224 2, 2 + 1) ∧ Nm.good xs i 224 2 ∨ Nm.refN (xs.length - i) (Nm.bt xs i) (Nm.bt xs (i + 1)) (Nm.bt xs (i + 2)) (Nm.bt xs (i + 3)) = none ∧ ¬ Nm.good xs i 224 2 := by
  have ha : Nm.acc xs i 224 2 = 64 * (64 * (Nm.bt xs i - 224) + Nm.bt xs (i + 1) % 64) + Nm.bt xs (i + 2) % 64 := by rw [show (2 : Nat) = 0 + 1 + 1 from rfl, Nm.acc_succ, Nm.acc_succ, Nm.acc_zero]
  rw [Nm.good2, Nm.tok_tl, Nm.tok_tl]
  unfold Nm.refN
  rw [if_neg (by omega), if_neg (by omega), if_pos c1]
  by_cases t1 : Nm.tl (xs.length - i) 1 (Nm.bt xs (i + 1))
  · by_cases t2 : Nm.tl (xs.length - i) 2 (Nm.bt xs (i + 2))
    · rw [ha, Nm.low t1, Nm.low t2]
      by_cases hg : Nm.tl (xs.length - i) 1 (Nm.bt xs (i + 1)) ∧ Nm.tl (xs.length - i) 2 (Nm.bt xs (i + 2)) ∧ Nm.runeOk (64 * (64 * (Nm.bt xs i - 224) + (Nm.bt xs (i + 1) - 128)) + (Nm.bt xs (i + 2) - 128)) ∧ Nm.oneLen (64 * (64 * (Nm.bt xs i - 224) + (Nm.bt xs (i + 1) - 128)) + (Nm.bt xs (i + 2) - 128)) = 3
      · rw [if_pos hg]; exact .inl ⟨rfl, hg⟩
      · rw [if_neg hg]; exact .inr ⟨rfl, hg⟩
    · rw [if_neg (fun h => t2 h.2.1)]; exact .inr ⟨rfl, fun h => t2 h.2.1⟩
  · rw [if_neg (fun h => t1 h.1)]; exact .inr ⟨rfl, fun h => t1 h.1⟩

theorem Nm.parts3 {xs : List Int} (i : Nat) (c1 : 240 ≤ Nm.bt xs i ∧ Nm.bt xs i < 248) :
    Nm.refN (xs.length - i) (Nm.bt xs i) (Nm.bt xs (i + 1)) (Nm.bt xs (i + 2)) (Nm.bt xs (i + 3)) = some (Nm.acc xs i 240 3, 3 + 1) ∧ Nm.good xs i 240 3 ∨ Nm.refN (xs.length - i) (Nm.bt xs i) (Nm.bt xs (i + 1)) (Nm.bt xs (i + 2)) (Nm.bt xs (i + 3)) = none ∧ ¬ Nm.good xs i 240 3 := by
  have ha : Nm.acc xs i 240 3 = 64 * (64 * (64 * (Nm.bt xs i - 240) + Nm.bt xs (i + 1) % 64) + Nm.bt xs (i + 2) % 64) + Nm.bt xs (i + 3) % 64 := by rw [show (3 : Nat) = 0 + 1 + 1 + 1 from rfl, Nm.acc_succ, Nm.acc_succ, Nm.acc_succ, Nm.acc_zero]
  rw [Nm.good3, Nm.tok_tl, Nm.tok_tl, Nm.tok_tl]
  unfold Nm.refN
  rw [if_neg (by omega), if_neg (by omega), if_neg (by omega), if_pos c1]
  by_cases t1 : Nm.tl (xs.length - i) 1 (Nm.bt xs (i + 1))
  · by_cases t2 : Nm.tl (xs.length - i) 2 (Nm.bt xs (i + 2))
    · by_cases t3 : Nm.tl (xs.length - i) 3 (Nm.bt xs (i + 3))
      · rw [ha, Nm.low t1, Nm.low t2, Nm.low t3]
        by_cases hg : Nm.tl (xs.length - i) 1 (Nm.bt xs (i + 1)) ∧ Nm.tl (xs.length - i) 2 (Nm.bt xs (i + 2)) ∧ Nm.tl (xs.length - i) 3 (Nm.bt xs (i + 3)) ∧ Nm.runeOk (64 * (64 * (64 * (Nm.bt xs i - 240) + (Nm.bt xs (i + 1) - 128)) + (Nm.bt xs (i + 2) - 128)) + (Nm.bt xs (i + 3) - 128)) ∧ Nm.oneLen (64 * (64 * (64 * (Nm.bt xs i - 240) + (Nm.bt xs (i + 1) - 128)) + (Nm.bt xs (i + 2) - 128)) + (Nm.bt xs (i + 3) - 128)) = 4
        · rw [if_pos hg]; exact .inl ⟨rfl, hg⟩
        · rw [if_neg hg]; exact .inr ⟨rfl, hg⟩
      · rw [if_neg (fun h => t3 h.2.2.1)]; exact .inr ⟨rfl, fun h => t3 h.2.2.1⟩
    · rw [if_neg (fun h => t2 h.2.1)]; exact .inr ⟨rfl, fun h => t2 h.2.1⟩
  · rw [if_neg (fun h => t1 h.1)]; exact .inr ⟨rfl, fun h => t1 h.1⟩

/-- No first byte. -/
theorem refAt_none (v : Value) (xs : List Int) (i : Nat) (w : World) (hv : Sees .u8 w v xs) (hb : Byt xs) (hi : i < xs.length)
    (hf : ∀ w, Calls Tryd.prog 34 #[.int .u8 (Nm.bt xs i : Int)] w fun e w' => e = .returned (.tuple #[.int .i64 0, .int .i64 0, .bool false]) ∧ w' = w) :
    Calls Tryd.prog 25 #[v, .int .i64 (i : Int)] w fun e w' => e = .returned (.tuple #[.int .i64 0, .int .i64 0, .bool false]) ∧ Below w.heap.size w w' := by
  obtain ⟨A, cap, rfl, hc1, hc2, hcells⟩ := hv
  obtain ⟨b, off, rfl, hcell⟩ := hcells (by intro e; subst e; simp at hi)
  have hx := hcell i hi
  rw [Nm.bt_get hb hi] at hx
  clear hcell hcells
  have HF := Lib.hid hf; clear hf
  obtain ⟨c, hc⟩ : ∃ c, c = Nm.bt xs i := ⟨_, rfl⟩
  rw [← hc] at hx
  have HC := Lib.hid hc; clear hc
  go_enter Tryd.func25, Tryd.ntmps25
  go_wp2_with fail
  rw [HC.out]
  refine (HF.out _).mono ?_
  rintro _ w1 ⟨rfl, hw1⟩
  obtain rfl := hw1.symm
  go_wp2_with fail
  go_returns
  exact ⟨rfl, Below.refl _ _⟩

theorem refAt (v : Value) (xs : List Int) (i : Nat) (w : World) (hv : Sees .u8 w v xs) (hb : Byt xs) (hi : i < xs.length) (hm : xs.length ≤ 140737488351232) :
    Calls Tryd.prog 25 #[v, .int .i64 (i : Int)] w fun e w' => (∃ a b ok, e = .returned (.tuple #[.int .i64 a, .int .i64 b, .bool ok]) ∧ Nm.AtTells xs i a b ok) ∧ Below w.heap.size w w' := by
  have hlt := Nm.bt_lt hb i
  have hnone : Nm.refN (xs.length - i) (Nm.bt xs i) (Nm.bt xs (i + 1)) (Nm.bt xs (i + 2)) (Nm.bt xs (i + 3)) = none → Nm.bad xs i := by
    intro h
    rw [Nm.ref_dec hb] at h
    by_cases hbad : Nm.bad xs i
    · exact hbad
    · rw [if_neg hbad] at h; cases h
  by_cases c0 : Nm.bt xs i < 128
  · refine (refAt_run v xs i 0 0 w hv hb hi hm (by omega) (by omega) (fun w => by simpa using refFirst_a (Nm.bt xs i) w c0)).mono ?_
    rintro e w' ⟨⟨a, b, ok, he, h1, h2⟩, hbel⟩
    refine ⟨⟨a, b, ok, he, Nm.tells hb i 0 0 a b ok (.inl ⟨?_, Nm.good0 xs i c0⟩) h1 h2⟩, hbel⟩
    unfold Nm.refN; rw [if_pos c0, Nm.acc_zero]; simp
  · by_cases c1 : 192 ≤ Nm.bt xs i ∧ Nm.bt xs i < 224
    · refine (refAt_run v xs i 192 1 w hv hb hi hm (by omega) c1.1 (fun w => by simpa using refFirst_b (Nm.bt xs i) w c1.1 c1.2)).mono ?_
      rintro e w' ⟨⟨a, b, ok, he, h1, h2⟩, hbel⟩
      exact ⟨⟨a, b, ok, he, Nm.tells hb i 192 1 a b ok (Nm.parts1 i c1) h1 h2⟩, hbel⟩
    · by_cases c2 : 224 ≤ Nm.bt xs i ∧ Nm.bt xs i < 240
      · refine (refAt_run v xs i 224 2 w hv hb hi hm (by omega) c2.1 (fun w => by simpa using refFirst_c (Nm.bt xs i) w c2.1 c2.2)).mono ?_
        rintro e w' ⟨⟨a, b, ok, he, h1, h2⟩, hbel⟩
        exact ⟨⟨a, b, ok, he, Nm.tells hb i 224 2 a b ok (Nm.parts2 i c2) h1 h2⟩, hbel⟩
      · by_cases c3 : 240 ≤ Nm.bt xs i ∧ Nm.bt xs i < 248
        · refine (refAt_run v xs i 240 3 w hv hb hi hm (by omega) c3.1 (fun w => by simpa using refFirst_d (Nm.bt xs i) w c3.1 c3.2)).mono ?_
          rintro e w' ⟨⟨a, b, ok, he, h1, h2⟩, hbel⟩
          exact ⟨⟨a, b, ok, he, Nm.tells hb i 240 3 a b ok (Nm.parts3 i c3) h1 h2⟩, hbel⟩
        · have hn : Nm.refN (xs.length - i) (Nm.bt xs i) (Nm.bt xs (i + 1)) (Nm.bt xs (i + 2)) (Nm.bt xs (i + 3)) = none := by unfold Nm.refN; rw [if_neg c0, if_neg c1, if_neg c2, if_neg c3]
          have hf : ∀ w, Calls Tryd.prog 34 #[.int .u8 (Nm.bt xs i : Int)] w fun e w' => e = .returned (.tuple #[.int .i64 0, .int .i64 0, .bool false]) ∧ w' = w := by
            intro w
            by_cases h : Nm.bt xs i < 192
            · exact refFirst_e (Nm.bt xs i) w (by omega) h
            · exact refFirst_f (Nm.bt xs i) w (by omega)
          refine (refAt_none v xs i w hv hb hi hf).mono ?_
          rintro e w' ⟨he, hbel⟩
          exact ⟨⟨0, 0, false, he, .inl ⟨hnone hn, rfl⟩⟩, hbel⟩

end Go.Proofs.YtdlfmchpaohoaaaDoor
