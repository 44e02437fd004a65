/- gimletref02.first, tail, Rune, one: contracts (printed by wip/gen_nmref1.py). -/
import Derived.Test.YtdlfmchpaohoaaaDoorNmPlain
import Derived.Test.YtdlfmchpaohoaaaDoorBase
import Derived.Test.YtdlfmchpaohoaaaDoorProg
namespace Go.Proofs.YtdlfmchpaohoaaaDoor
open Go.RowKit

/-- The bytes of a rune. -/
def Nm.one (n : Nat) : List Int :=
  if n < 128 then [(n : Int)] else if n < 2048 then [192 + (n : Int) / 64, 128 + (n : Int) % 64] else if n < 65536 then [224 + (n : Int) / 4096, 128 + (n : Int) / 64 % 64, 128 + (n : Int) % 64]
  else [240 + (n : Int) / 262144, 128 + (n : Int) / 4096 % 64, 128 + (n : Int) / 64 % 64, 128 + (n : Int) % 64]

theorem Nm.one_len (n : Nat) : (Nm.one n).length = Nm.oneLen n := by
  unfold Nm.one Nm.oneLen
  (repeat' split) <;> simp

theorem Nm.one_byt (n : Nat) (h : n < 2097152) : Byt (Nm.one n) := by
  intro x hx
  unfold Nm.one at hx
  split at hx
  · simp at hx; omega
  · split at hx
    · simp at hx; omega
    · split at hx
      · simp at hx; omega
      · simp at hx; omega

theorem refFirst_a (c : Nat) (w : World) (h : c < 128) :
    Calls Tryd.prog 34 #[.int .u8 (c : Int)] w fun e w' => e = .returned (.tuple #[.int .i64 (c : Int), .int .i64 0, .bool true]) ∧ w' = w := by
  have h1 : (c : Int) < 128 := by omega
  go_enter Tryd.func34, Tryd.ntmps34
  go_wp2
  go_returns
  exact ⟨rfl, rfl⟩

theorem refFirst_b (c : Nat) (w : World) (h : 192 ≤ c) (h2 : c < 224) :
    Calls Tryd.prog 34 #[.int .u8 (c : Int)] w fun e w' => e = .returned (.tuple #[.int .i64 ((c : Int) - 192), .int .i64 1, .bool true]) ∧ w' = w := by
  have h1 : ¬ (c : Int) < 128 := by omega
  have h3 : (192 : Int) ≤ c := by omega
  have h4 : (c : Int) < 224 := by omega
  go_enter Tryd.func34, Tryd.ntmps34
  go_wp2
  go_returns
  exact ⟨rfl, rfl⟩

theorem refFirst_c (c : Nat) (w : World) (h : 224 ≤ c) (h2 : c < 240) :
    Calls Tryd.prog 34 #[.int .u8 (c : Int)] w fun e w' => e = .returned (.tuple #[.int .i64 ((c : Int) - 224), .int .i64 2, .bool true]) ∧ w' = w := by
  have h1 : ¬ (c : Int) < 128 := by omega
  have h3 : (192 : Int) ≤ c := by omega
  have h4 : ¬ (c : Int) < 224 := by omega
  have h5 : (224 : Int) ≤ c := by omega
  have h6 : (c : Int) < 240 := by omega
  go_enter Tryd.func34, Tryd.ntmps34
  go_wp2
  go_returns
  exact ⟨rfl, rfl⟩

theorem refFirst_d (c : Nat) (w : World) (h : 240 ≤ c) (h2 : c < 248) :
    Calls Tryd.prog 34 #[.int .u8 (c : Int)] w fun e w' => e = .returned (.tuple #[.int .i64 ((c : Int) - 240), .int .i64 3, .bool true]) ∧ w' = w := by
  have h1 : ¬ (c : Int) < 128 := by omega
  have h3 : (192 : Int) ≤ c := by omega
  have h4 : ¬ (c : Int) < 224 := by omega
  have h5 : (224 : Int) ≤ c := by omega
  have h6 : ¬ (c : Int) < 240 := by omega
  have h7 : (240 : Int) ≤ c := by omega
  have h8 : (c : Int) < 248 := by omega
  go_enter Tryd.func34, Tryd.ntmps34
  go_wp2
  go_returns
  exact ⟨rfl, rfl⟩

theorem refFirst_e (c : Nat) (w : World) (h : 128 ≤ c) (h2 : c < 192) :
    Calls Tryd.prog 34 #[.int .u8 (c : Int)] w fun e w' => e = .returned (.tuple #[.int .i64 0, .int .i64 0, .bool false]) ∧ w' = w := by
  have h1 : ¬ (c : Int) < 128 := by omega
  have h3 : ¬ (192 : Int) ≤ c := by omega
  have h5 : ¬ (224 : Int) ≤ c := by omega
  have h7 : ¬ (240 : Int) ≤ c := by omega
  go_enter Tryd.func34, Tryd.ntmps34
  go_wp2
  go_returns
  exact ⟨rfl, rfl⟩

theorem refFirst_f (c : Nat) (w : World) (h : 248 ≤ c) :
    Calls Tryd.prog 34 #[.int .u8 (c : Int)] w fun e w' => e = .returned (.tuple #[.int .i64 0, .int .i64 0, .bool false]) ∧ w' = w := by
  have h1 : ¬ (c : Int) < 128 := by omega
  have h3 : (192 : Int) ≤ c := by omega
  have h4 : ¬ (c : Int) < 224 := by omega
  have h5 : (224 : Int) ≤ c := by omega
  have h6 : ¬ (c : Int) < 240 := by omega
  have h7 : (240 : Int) ≤ c := by omega
  have h8 : ¬ (c : Int) < 248 := by omega
  go_enter Tryd.func34, Tryd.ntmps34
  go_wp2
  go_returns
  exact ⟨rfl, rfl⟩

theorem refTail_ok (v : Value) (xs : List Int) (a : Nat) (w : World) (hv : Sees .u8 w v xs) (hb : Byt xs) (ha : a < xs.length) (h1 : 128 ≤ Nm.bt xs a) (h2 : Nm.bt xs a < 192) :
    Calls Tryd.prog 35 #[v, .int .i64 (a : Int)] w fun e w' => e = .returned (.tuple #[.int .i64 ((Nm.bt xs a : Int) - 128), .bool true]) ∧ w' = w := by
  obtain ⟨A, cap, rfl, hc1, hc2, hcells⟩ := hv
  obtain ⟨b, off, rfl, hcell⟩ := hcells (by intro e; subst e; simp at ha)
  have hx := hcell a ha
  rw [Nm.bt_get hb ha] at hx
  obtain ⟨c, hc⟩ : ∃ c, c = Nm.bt xs a := ⟨_, rfl⟩
  rw [← hc] at h1 h2 hx ⊢
  clear hcell hcells hc
  have k1 : ¬ (c : Int) < 128 := by omega
  have k2 : ¬ (192 : Int) ≤ c := by omega
  go_enter Tryd.func35, Tryd.ntmps35
  go_wp2
  go_returns
  exact ⟨rfl, rfl⟩

theorem refTail_bad (v : Value) (xs : List Int) (a : Nat) (w : World) (hv : Sees .u8 w v xs) (hb : Byt xs) (h : ¬ (a < xs.length ∧ 128 ≤ Nm.bt xs a ∧ Nm.bt xs a < 192)) :
    Calls Tryd.prog 35 #[v, .int .i64 (a : Int)] w fun e w' => e = .returned (.tuple #[.int .i64 0, .bool false]) ∧ w' = w := by
  obtain ⟨A, cap, rfl, hc1, hc2, hcells⟩ := hv
  by_cases ha : a < xs.length
  · obtain ⟨b, off, rfl, hcell⟩ := hcells (by intro e; subst e; simp at ha)
    have hx := hcell a ha
    rw [Nm.bt_get hb ha] at hx
    obtain ⟨c, hc⟩ : ∃ c, c = Nm.bt xs a := ⟨_, rfl⟩
    rw [← hc] at h hx
    clear hcell hcells hc
    by_cases h1 : c < 128
    · have k1 : (c : Int) < 128 := by omega
      clear h
      go_enter Tryd.func35, Tryd.ntmps35
      go_wp2
      go_returns
      exact ⟨rfl, rfl⟩
    · have k1 : ¬ (c : Int) < 128 := by omega
      have k2 : (192 : Int) ≤ c := by omega
      clear h
      go_enter Tryd.func35, Tryd.ntmps35
      go_wp2
      go_returns
      exact ⟨rfl, rfl⟩
  · have k : (xs.length : Int) ≤ a := by omega
    clear h hcells
    go_enter Tryd.func35, Tryd.ntmps35
    go_wp2
    go_returns
    exact ⟨rfl, rfl⟩

/-- May a number be a rune? -/
def Nm.isRune (n : Int) : Bool := decide (0 ≤ n ∧ n ≤ 1114111 ∧ (n < 55296 ∨ 57343 < n))

theorem refRune (n : Int) (w : World) : Calls Tryd.prog 31 #[.int .i64 n] w fun e w' => e = .returned (.bool (Nm.isRune n)) ∧ w' = w := by
  by_cases h0 : 0 ≤ n
  · by_cases h1 : n ≤ 1114111
    · by_cases h2 : n < 55296
      · have hr : Nm.isRune n = true := by unfold Nm.isRune; simp; omega
        rw [hr]
        go_enter Tryd.func31, Tryd.ntmps31
        go_wp2
        go_returns
        exact ⟨rfl, rfl⟩
      · by_cases h3 : 57343 < n
        · have hr : Nm.isRune n = true := by unfold Nm.isRune; simp; omega
          rw [hr]
          go_enter Tryd.func31, Tryd.ntmps31
          go_wp2
          go_returns
          exact ⟨rfl, rfl⟩
        · have hr : Nm.isRune n = false := by unfold Nm.isRune; simp; omega
          rw [hr]
          go_enter Tryd.func31, Tryd.ntmps31
          go_wp2
          go_returns
          exact ⟨rfl, rfl⟩
    · have hr : Nm.isRune n = false := by unfold Nm.isRune; simp; omega
      rw [hr]
      go_enter Tryd.func31, Tryd.ntmps31
      go_wp2
      go_returns
      exact ⟨rfl, rfl⟩
  · have hr : Nm.isRune n = false := by unfold Nm.isRune; simp; omega
    rw [hr]
    go_enter Tryd.func31, Tryd.ntmps31
    go_wp2
    go_returns
    exact ⟨rfl, rfl⟩

set_option maxHeartbeats 1000000 in
theorem refOne (n : Nat) (w : World) (hn : n < 2097152) : Calls Tryd.prog 32 #[.int .i64 (n : Int)] w fun e w' => (∃ v, e = .returned v ∧ Sees .u8 w' v (Nm.one n)) ∧ Below w.heap.size w w' := by
  by_cases h1 : n < 128
  · have k1 : (n : Int) < 128 := by omega
    have x1 : IntKind.u8.wrap (n : Int) = (n : Int) := IntWalk.u8_in _ (by omega)
    have hr : Nm.one n = [(n : Int)] := by unfold Nm.one; rw [if_pos h1]
    rw [hr]
    go_enter Tryd.func32, Tryd.ntmps32
    go_wp2
    go_returns
    exact ⟨⟨_, rfl, Sees.lit .u8 w 5 [(n : Int)] 1 (by simp) (by simp [maxLen])⟩, (Below.refl _ _).alloc (Nat.le_refl _) _⟩
  · have k1 : ¬ (n : Int) < 128 := by omega
    have x1 : IntKind.u8.wrap (128 + (n : Int) % 64) = 128 + (n : Int) % 64 := IntWalk.u8_in _ (by omega)
    by_cases h2 : n < 2048
    · have k2 : (n : Int) < 2048 := by omega
      have x2 : IntKind.u8.wrap (192 + (n : Int) / 64) = 192 + (n : Int) / 64 := IntWalk.u8_in _ (by omega)
      have hr : Nm.one n = [192 + (n : Int) / 64, 128 + (n : Int) % 64] := by unfold Nm.one; rw [if_neg h1, if_pos h2]
      rw [hr]
      go_enter Tryd.func32, Tryd.ntmps32
      go_wp2
      go_returns
      exact ⟨⟨_, rfl, Sees.lit .u8 w 5 [192 + (n : Int) / 64, 128 + (n : Int) % 64] 2 (by simp) (by simp [maxLen])⟩, (Below.refl _ _).alloc (Nat.le_refl _) _⟩
    · have k2 : ¬ (n : Int) < 2048 := by omega
      have x2 : IntKind.u8.wrap (128 + (n : Int) / 64 % 64) = 128 + (n : Int) / 64 % 64 := IntWalk.u8_in _ (by omega)
      by_cases h3 : n < 65536
      · have k3 : (n : Int) < 65536 := by omega
        have x3 : IntKind.u8.wrap (224 + (n : Int) / 4096) = 224 + (n : Int) / 4096 := IntWalk.u8_in _ (by omega)
        have hr : Nm.one n = [224 + (n : Int) / 4096, 128 + (n : Int) / 64 % 64, 128 + (n : Int) % 64] := by unfold Nm.one; rw [if_neg h1, if_neg h2, if_pos h3]
        rw [hr]
        go_enter Tryd.func32, Tryd.ntmps32
        go_wp2
        go_returns
        exact ⟨⟨_, rfl, Sees.lit .u8 w 5 [224 + (n : Int) / 4096, 128 + (n : Int) / 64 % 64, 128 + (n : Int) % 64] 3 (by simp) (by simp [maxLen])⟩, (Below.refl _ _).alloc (Nat.le_refl _) _⟩
      · have k3 : ¬ (n : Int) < 65536 := by omega
        have x3 : IntKind.u8.wrap (240 + (n : Int) / 262144) = 240 + (n : Int) / 262144 := IntWalk.u8_in _ (by omega)
        have x4 : IntKind.u8.wrap (128 + (n : Int) / 4096 % 64) = 128 + (n : Int) / 4096 % 64 := IntWalk.u8_in _ (by omega)
        have hr : Nm.one n = [240 + (n : Int) / 262144, 128 + (n : Int) / 4096 % 64, 128 + (n : Int) / 64 % 64, 128 + (n : Int) % 64] := by unfold Nm.one; rw [if_neg h1, if_neg h2, if_neg h3]
        rw [hr]
        go_enter Tryd.func32, Tryd.ntmps32
        go_wp2
        go_returns
        exact ⟨⟨_, rfl, Sees.lit .u8 w 5 [240 + (n : Int) / 262144, 128 + (n : Int) / 4096 % 64, 128 + (n : Int) / 64 % 64, 128 + (n : Int) % 64] 4 (by simp) (by simp [maxLen])⟩, (Below.refl _ _).alloc (Nat.le_refl _) _⟩

end Go.Proofs.YtdlfmchpaohoaaaDoor
