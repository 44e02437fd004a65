/- Layer 1 in plain Lean: the bytes of a number, unsigned and signed, and what is read back. No program stands here. -/
namespace Go.Proofs.YtdlfmchpaohoaaaDoor.Leb

/-- The bytes of a number from 0 on; the first argument bounds how many follow. -/
def putU : Nat → Int → List Int
  | 0, n => [n]
  | f + 1, n => if n < 128 then [n] else (n % 128 + 128) :: putU f (n / 128)

/-- The bytes of a number that may be less than 0. -/
def putS : Nat → Int → List Int
  | 0, n => [n % 128]
  | f + 1, n => if -64 ≤ n ∧ n ≤ 63 then [n % 128] else (n % 128 + 128) :: putS f (n / 128)

theorem putU_ne (f : Nat) (n : Int) : putU f n ≠ [] := by
  cases f <;> simp [putU]; split <;> simp

theorem putS_ne (f : Nat) (n : Int) : putS f n ≠ [] := by
  cases f <;> simp [putS]; split <;> simp

theorem putU_len (f : Nat) (n : Int) : (putU f n).length ≤ f + 1 := by
  induction f generalizing n with
  | zero => simp [putU]
  | succ f ih => simp only [putU]; split <;> simp; exact ih _

theorem putS_len (f : Nat) (n : Int) : (putS f n).length ≤ f + 1 := by
  induction f generalizing n with
  | zero => simp [putS]
  | succ f ih => simp only [putS]; split <;> simp; exact ih _

theorem putU_byte (f : Nat) (n : Int) (h0 : 0 ≤ n) (h1 : n < 128 * 2 ^ (7 * f)) : ∀ x ∈ putU f n, 0 ≤ x ∧ x ≤ 255 := by
  induction f generalizing n with
  | zero => intro x hx; simp [putU] at hx; subst hx; simp at h1; omega
  | succ f ih =>
    intro x hx
    simp only [putU] at hx
    split at hx
    · simp at hx; subst hx; omega
    · simp only [List.mem_cons] at hx
      rcases hx with rfl | hx
      · omega
      · refine ih (n / 128) (by omega) ?_ x hx
        rw [show 7 * (f + 1) = 7 * f + 7 from by omega, Int.pow_add] at h1
        generalize (2 : Int) ^ (7 * f) = p at *
        have : (2 : Int) ^ 7 = 128 := rfl
        rw [this] at h1
        omega

theorem putU_byte4 (n : Int) (h0 : 0 ≤ n) (h1 : n < 4294967296) : ∀ x ∈ putU 4 n, 0 ≤ x ∧ x ≤ 255 := putU_byte 4 n h0 (by omega)

theorem putS_byte (f : Nat) (n : Int) : ∀ x ∈ putS f n, 0 ≤ x ∧ x ≤ 255 := by
  induction f generalizing n with
  | zero => intro x hx; simp [putS] at hx; subst hx; omega
  | succ f ih =>
    intro x hx
    simp only [putS] at hx
    split at hx
    · simp at hx; subst hx; omega
    · simp only [List.mem_cons] at hx
      rcases hx with rfl | hx
      · omega
      · exact ih _ x hx

/-- A loop's state: so many bytes are laid, so much is left. -/
def AtU (n : Int) (acc : List Int) (m : Int) : Prop := ∃ f : Nat, 0 ≤ m ∧ m < 128 * 2 ^ (7 * f) ∧ m ≤ n ∧ acc.length + f = 4 ∧ acc ++ putU f m = putU 4 n

theorem AtU.start {n : Int} (h0 : 0 ≤ n) (h1 : n < 4294967296) : AtU n [] n := ⟨4, h0, by omega, Int.le_refl _, rfl, rfl⟩

theorem AtU.bd {n m : Int} {acc : List Int} (h : AtU n acc m) : 0 ≤ m ∧ m ≤ n ∧ acc.length ≤ 4 := by
  obtain ⟨f, h0, _, h2, h3, _⟩ := h; omega

theorem AtU.step {n m : Int} {acc : List Int} (h : AtU n acc m) (hm : 128 ≤ m) : AtU n (acc ++ [m % 128 + 128]) (m / 128) := by
  obtain ⟨f, h0, h1, h2, h3, h4⟩ := h
  cases f with
  | zero => simp at h1; omega
  | succ f =>
    refine ⟨f, by omega, ?_, by omega, by simp; omega, ?_⟩
    · rw [show 7 * (f + 1) = 7 * f + 7 from by omega, Int.pow_add] at h1
      generalize (2 : Int) ^ (7 * f) = p at *
      have : (2 : Int) ^ 7 = 128 := rfl
      rw [this] at h1
      omega
    · rw [putU, if_neg (by omega)] at h4
      simpa using h4

theorem AtU.done {n m : Int} {acc : List Int} (h : AtU n acc m) (hm : m < 128) : acc ++ [m] = putU 4 n := by
  obtain ⟨f, h0, h1, h2, h3, h4⟩ := h
  cases f with
  | zero => exact h4
  | succ f => rw [putU, if_pos hm] at h4; exact h4

/-- A loop's state, signed. -/
def AtS (n : Int) (acc : List Int) (m : Int) : Prop := ∃ f : Nat, -64 * 2 ^ (7 * f) ≤ m ∧ m < 64 * 2 ^ (7 * f) ∧ -2147483648 ≤ m ∧ m ≤ 2147483647 ∧ acc.length + f = 4 ∧ acc ++ putS f m = putS 4 n

theorem AtS.start {n : Int} (h0 : -2147483648 ≤ n) (h1 : n ≤ 2147483647) : AtS n [] n := ⟨4, by omega, by omega, h0, h1, rfl, rfl⟩

theorem AtS.bd {n m : Int} {acc : List Int} (h : AtS n acc m) : -2147483648 ≤ m ∧ m ≤ 2147483647 ∧ acc.length ≤ 4 := by
  obtain ⟨f, _, _, h2, h3, h4, _⟩ := h; omega

theorem AtS.step {n m : Int} {acc : List Int} (h : AtS n acc m) (hm : ¬ (-64 ≤ m ∧ m ≤ 63)) : AtS n (acc ++ [m % 128 + 128]) (m / 128) := by
  obtain ⟨f, h0, h1, h2, h3, h4, h5⟩ := h
  cases f with
  | zero => simp at h0 h1; omega
  | succ f =>
    refine ⟨f, ?_, ?_, by omega, by omega, by simp; omega, ?_⟩
    · rw [show 7 * (f + 1) = 7 * f + 7 from by omega, Int.pow_add] at h0
      generalize (2 : Int) ^ (7 * f) = p at *
      have : (2 : Int) ^ 7 = 128 := rfl
      rw [this] at h0
      omega
    · rw [show 7 * (f + 1) = 7 * f + 7 from by omega, Int.pow_add] at h1
      generalize (2 : Int) ^ (7 * f) = p at *
      have : (2 : Int) ^ 7 = 128 := rfl
      rw [this] at h1
      omega
    · rw [putS, if_neg hm] at h5
      simpa using h5

theorem AtS.done {n m : Int} {acc : List Int} (h : AtS n acc m) (hm : -64 ≤ m ∧ m ≤ 63) : acc ++ [m % 128] = putS 4 n := by
  obtain ⟨f, h0, h1, h2, h3, h4, h5⟩ := h
  cases f with
  | zero => exact h5
  | succ f => rw [putS, if_pos hm] at h5; exact h5

end Go.Proofs.YtdlfmchpaohoaaaDoor.Leb
