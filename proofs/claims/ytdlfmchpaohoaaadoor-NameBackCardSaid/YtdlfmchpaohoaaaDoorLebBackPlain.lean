/- What is put is got: in plain Lean. -/
import Derived.Test.YtdlfmchpaohoaaaDoorLebGetNum
namespace Go.Proofs.YtdlfmchpaohoaaaDoor.Leb

theorem rd_putU (last : Int → Bool) (f : Nat) (n : Int) (rest : List Int) (p : Int) (h0 : 0 ≤ n) (h1 : n < 128 * 128 ^ f) (hl : last (n / 128 ^ f) = true) :
    ∃ l, rd last f (putU f n ++ rest) p = (some l, p + (putU f n).length) ∧ val l = n := by
  induction f generalizing n p with
  | zero =>
    simp only [Int.pow_zero, Int.mul_one] at h1
    simp only [Int.pow_zero, Int.ediv_one] at hl
    exact ⟨[n], by simp [putU, rd, h1, hl], by simp [val]⟩
  | succ f ih =>
    by_cases hn : n < 128
    · exact ⟨[n], by simp [putU, rd, hn], by simp [val]⟩
    · rw [Int.pow_succ, Int.mul_comm (128 ^ f) 128] at h1 hl
      have hq : n / 128 / 128 ^ f = n / (128 * 128 ^ f) := Int.ediv_ediv_of_nonneg (by omega)
      obtain ⟨l, hr, hv⟩ := ih (n / 128) (p + 1) (by omega) (by generalize (128 : Int) ^ f = k at *; omega) (by rw [hq]; exact hl)
      refine ⟨n % 128 :: l, ?_, by simp only [val, hv]; omega⟩
      simp only [putU, if_neg hn, List.cons_append, rd, if_neg (show ¬ n % 128 + 128 < 128 by omega), hr, Option.map_some, List.length_cons]
      rw [show (n % 128 + 128) % 128 = n % 128 by omega, show p + 1 + ((putU f (n / 128)).length : Int) = p + (((putU f (n / 128)).length + 1 : Nat) : Int) by omega]

theorem sval_cons (c : Int) {l : List Int} (h : l ≠ []) : sval (c :: l) = c + 128 * sval l := by
  have e : (c :: l).getLastD 0 = l.getLastD 0 := by
    cases l with
    | nil => exact absurd rfl h
    | cons y l => simp
  unfold sval
  rw [e]
  simp only [val, List.length_cons, Int.pow_succ]
  rw [Int.mul_comm (128 ^ l.length) 128]
  split <;> omega

theorem rd_putS (last : Int → Bool) (f : Nat) (n : Int) (rest : List Int) (p : Int) (h0 : -64 * 128 ^ f ≤ n) (h1 : n < 64 * 128 ^ f) (hl : last (n / 128 ^ f % 128) = true) :
    ∃ l, rd last f (putS f n ++ rest) p = (some l, p + (putS f n).length) ∧ sval l = n ∧ l ≠ [] := by
  induction f generalizing n p with
  | zero =>
    simp only [Int.pow_zero, Int.mul_one] at h0 h1
    simp only [Int.pow_zero, Int.ediv_one] at hl
    refine ⟨[n % 128], ?_, ?_, by simp⟩
    · simp only [putS, List.cons_append, List.nil_append, rd, if_pos (And.intro (show n % 128 < 128 by omega) hl)]; rfl
    · simp only [sval, val, List.getLastD_cons, List.getLastD_nil, List.length_cons, List.length_nil, Nat.zero_add, Int.pow_one]; split <;> omega
  | succ f ih =>
    by_cases hn : -64 ≤ n ∧ n ≤ 63
    · refine ⟨[n % 128], ?_, ?_, by simp⟩
      · simp only [putS, if_pos hn, List.cons_append, List.nil_append, rd, if_pos (show n % 128 < 128 by omega)]; rfl
      · simp only [sval, val, List.getLastD_cons, List.getLastD_nil, List.length_cons, List.length_nil, Nat.zero_add, Int.pow_one]; split <;> omega
    · rw [Int.pow_succ, Int.mul_comm (128 ^ f) 128] at h0 h1 hl
      have hq : n / 128 / 128 ^ f = n / (128 * 128 ^ f) := Int.ediv_ediv_of_nonneg (by omega)
      obtain ⟨l, hr, hv, hne⟩ := ih (n / 128) (p + 1) (by generalize (128 : Int) ^ f = k at *; omega) (by generalize (128 : Int) ^ f = k at *; omega) (by rw [hq]; exact hl)
      refine ⟨n % 128 :: l, ?_, by rw [sval_cons _ hne, hv]; omega, by simp⟩
      simp only [putS, if_neg hn, List.cons_append, rd, if_neg (show ¬ n % 128 + 128 < 128 by omega), hr, Option.map_some, List.length_cons]
      rw [show (n % 128 + 128) % 128 = n % 128 by omega, show p + 1 + ((putS f (n / 128)).length : Int) = p + (((putS f (n / 128)).length + 1 : Nat) : Int) by omega]

theorem getU_put (n : Int) (h0 : 0 ≤ n) (h1 : n < 4294967296) (ahead behind : List Int) :
    getU (ahead ++ putU 4 n ++ behind) ahead.length = (n, (ahead.length : Int) + (putU 4 n).length, 0, 0) := by
  obtain ⟨l, hr, hv⟩ := rd_putU lastU 4 n behind ahead.length h0 (by omega) (by simp [lastU]; omega)
  unfold getU
  rw [if_neg (by simp; omega), Int.toNat_natCast, List.append_assoc, List.drop_left, hr]
  simp [tell, hv]

theorem getS_put (n : Int) (h0 : -2147483648 ≤ n) (h1 : n ≤ 2147483647) (ahead behind : List Int) :
    getS (ahead ++ putS 4 n ++ behind) ahead.length = (n, (ahead.length : Int) + (putS 4 n).length, 0, 0) := by
  obtain ⟨l, hr, hv, _⟩ := rd_putS lastS 4 n behind ahead.length (by omega) (by omega) (by simp [lastS]; omega)
  unfold getS
  rw [if_neg (by simp; omega), Int.toNat_natCast, List.append_assoc, List.drop_left, hr]
  simp [tell, hv]

end Go.Proofs.YtdlfmchpaohoaaaDoor.Leb
