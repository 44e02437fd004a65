/- Whatever bytes are got, the same number is put in no more: in plain Lean. -/
import Derived.Test.YtdlfmchpaohoaaaDoorLebBackPlain
namespace Go.Proofs.YtdlfmchpaohoaaaDoor.Leb

theorem putU_short (f : Nat) : ∀ (k : Nat) (n : Int), 0 ≤ n → n < 128 * 128 ^ k → (putU f n).length ≤ k + 1 := by
  induction f with
  | zero => intro k n _ _; simp [putU]
  | succ f ih =>
    intro k n h0 h1
    by_cases hn : n < 128
    · simp [putU, hn]
    · cases k with
      | zero => simp at h1; omega
      | succ k =>
        rw [Int.pow_succ, Int.mul_comm (128 ^ k) 128] at h1
        have := ih k (n / 128) (by omega) (by generalize (128 : Int) ^ k = p at *; omega)
        simp only [putU, if_neg hn, List.length_cons]; omega

theorem putS_short (f : Nat) : ∀ (k : Nat) (n : Int), -64 * 128 ^ k ≤ n → n < 64 * 128 ^ k → (putS f n).length ≤ k + 1 := by
  induction f with
  | zero => intro k n _ _; simp [putS]
  | succ f ih =>
    intro k n h0 h1
    by_cases hn : -64 ≤ n ∧ n ≤ 63
    · simp [putS, hn]
    · cases k with
      | zero => simp at h0 h1; omega
      | succ k =>
        rw [Int.pow_succ, Int.mul_comm (128 ^ k) 128] at h0 h1
        have := ih k (n / 128) (by generalize (128 : Int) ^ k = p at *; omega) (by generalize (128 : Int) ^ k = p at *; omega)
        simp only [putS, if_neg hn, List.length_cons]; omega

theorem putU_pos (f : Nat) (n : Int) : 1 ≤ (putU f n).length := List.length_pos_iff.2 (putU_ne f n)
theorem putS_pos (f : Nat) (n : Int) : 1 ≤ (putS f n).length := List.length_pos_iff.2 (putS_ne f n)

theorem getU_cases (bs : List Int) (at_ : Int) (hb : ∀ c ∈ bs, 0 ≤ c ∧ c ≤ 255) :
    (∃ x q, getU bs at_ = (x, q, 0, 0) ∧ 0 ≤ x ∧ x < 4294967296 ∧ 0 ≤ at_ ∧ at_ ≤ bs.length ∧ at_ + (putU 4 x).length ≤ q ∧ q ≤ at_ + 5 ∧ q ≤ bs.length) ∨
    ∃ e p, getU bs at_ = (0, 0, e, p) ∧ (e = 4 ∧ 0 ≤ p ∧ p ≤ bs.length ∨ e = 5 ∧ p = 0) := by
  unfold getU
  by_cases h : at_ < 0 ∨ (bs.length : Int) < at_
  · rw [if_pos h]; exact .inr ⟨5, 0, rfl, .inr ⟨rfl, rfl⟩⟩
  · rw [if_neg h]
    obtain ⟨a, rfl⟩ := Int.eq_ofNat_of_zero_le (show 0 ≤ at_ by omega)
    rw [Int.toNat_natCast]
    have hd : ∀ c ∈ bs.drop a, 0 ≤ c ∧ c ≤ 255 := fun c hc => hb c (List.mem_of_mem_drop hc)
    generalize hr : rd lastU 4 (bs.drop a) a = r
    obtain ⟨_ | l, q⟩ := r
    · exact .inr ⟨4, q, rfl, .inl ⟨rfl, rd_none_place hr, by have := rd_none_le hr; simp at this; omega⟩⟩
    · obtain ⟨i1, i2, i3, i4, i5, i6⟩ := rd_parts hd hr
      have hbd := rdU_bound hd hr
      obtain ⟨k, hk⟩ : ∃ k, l.length = k + 1 := ⟨l.length - 1, by omega⟩
      have hv := val_lt i1
      rw [hk, Int.pow_succ, Int.mul_comm (128 ^ k) 128] at hv
      have hs := putU_short 4 k (val l) hbd.1 hv
      rw [List.length_drop] at i5
      refine .inl ⟨val l, q, rfl, hbd.1, hbd.2, by omega, by omega, by omega, by omega, by omega⟩
where
  rd_none_place {last : Int → Bool} {f : Nat} {r : List Int} {a : Nat} {q : Int} (h : rd last f r a = (none, q)) : 0 ≤ q := by
    have := le_of h; omega
  le_of {last : Int → Bool} {f : Nat} {r : List Int} {p q : Int} (h : rd last f r p = (none, q)) : p ≤ q ∧ q ≤ p + r.length := by
    induction f generalizing r p q with
    | zero =>
      cases r with
      | nil => simp [rd] at h; subst h; simp
      | cons c r =>
        simp only [rd] at h
        split at h
        · simp at h
        · simp at h; subst h; simp; omega
    | succ f ih =>
      cases r with
      | nil => simp [rd] at h; subst h; simp
      | cons c r =>
        simp only [rd] at h
        split at h
        · simp at h
        · simp only [Prod.mk.injEq, Option.map_eq_none_iff] at h
          have := ih (Prod.ext h.1 h.2)
          simp only [List.length_cons]; omega
  rd_none_le {last : Int → Bool} {f : Nat} {r : List Int} {a : Nat} {q : Int} (h : rd last f r a = (none, q)) : q ≤ a + r.length := by
    have := le_of h; omega

theorem sval_range {l : List Int} (h : Parts l) (h5 : l.length ≤ 5) {k : Nat} (hk : l.length = k + 1) : -64 * 128 ^ k ≤ sval l ∧ sval l < 64 * 128 ^ k := by
  obtain ⟨c0, c1, c2, c3, c4, b0, b1, b2, b3, b4, hl⟩ := parts_bound h h5 (by omega)
  obtain rfl : k = l.length - 1 := by omega
  clear hk
  rcases hl with rfl | rfl | rfl | rfl | rfl
  all_goals
    simp only [sval, val, List.getLastD_cons, List.getLastD_nil, List.length_cons, List.length_nil, Nat.zero_add, Nat.reduceAdd, Int.reducePow, Nat.reduceSub]
    split <;> omega

theorem getS_cases (bs : List Int) (at_ : Int) (hb : ∀ c ∈ bs, 0 ≤ c ∧ c ≤ 255) :
    (∃ x q, getS bs at_ = (x, q, 0, 0) ∧ -2147483648 ≤ x ∧ x ≤ 2147483647 ∧ 0 ≤ at_ ∧ at_ ≤ bs.length ∧ at_ + (putS 4 x).length ≤ q ∧ q ≤ at_ + 5 ∧ q ≤ bs.length) ∨
    ∃ e p, getS bs at_ = (0, 0, e, p) ∧ (e = 4 ∧ 0 ≤ p ∧ p ≤ bs.length ∨ e = 5 ∧ p = 0) := by
  unfold getS
  by_cases h : at_ < 0 ∨ (bs.length : Int) < at_
  · rw [if_pos h]; exact .inr ⟨5, 0, rfl, .inr ⟨rfl, rfl⟩⟩
  · rw [if_neg h]
    obtain ⟨a, rfl⟩ := Int.eq_ofNat_of_zero_le (show 0 ≤ at_ by omega)
    rw [Int.toNat_natCast]
    have hd : ∀ c ∈ bs.drop a, 0 ≤ c ∧ c ≤ 255 := fun c hc => hb c (List.mem_of_mem_drop hc)
    generalize hr : rd lastS 4 (bs.drop a) a = r
    obtain ⟨_ | l, q⟩ := r
    · exact .inr ⟨4, q, rfl, .inl ⟨rfl, getU_cases.rd_none_place hr, by have := getU_cases.rd_none_le hr; simp at this; omega⟩⟩
    · obtain ⟨i1, i2, i3, i4, i5, i6⟩ := rd_parts hd hr
      have hbd := rdS_bound hd hr
      obtain ⟨k, hk⟩ : ∃ k, l.length = k + 1 := ⟨l.length - 1, by omega⟩
      have hv := sval_range i1 i3 hk
      have hs := putS_short 4 k (sval l) hv.1 hv.2
      rw [List.length_drop] at i5
      refine .inl ⟨sval l, q, rfl, hbd.1, hbd.2, by omega, by omega, by omega, by omega, by omega⟩

end Go.Proofs.YtdlfmchpaohoaaaDoor.Leb
