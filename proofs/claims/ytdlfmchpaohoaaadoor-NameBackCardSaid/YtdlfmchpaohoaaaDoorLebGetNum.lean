/- Numbers that bytes are read as fit 32 bits; the sign is extended by two shifts. No program stands here. -/
import Derived.Test.YtdlfmchpaohoaaaDoorLebGetPlain
namespace Go.Proofs.YtdlfmchpaohoaaaDoor.Leb

theorem parts_bound {l : List Int} (h : Parts l) (h5 : l.length ≤ 5) (h1 : 1 ≤ l.length) :
    ∃ c0 c1 c2 c3 c4 : Int, (0 ≤ c0 ∧ c0 < 128) ∧ (0 ≤ c1 ∧ c1 < 128) ∧ (0 ≤ c2 ∧ c2 < 128) ∧ (0 ≤ c3 ∧ c3 < 128) ∧ (0 ≤ c4 ∧ c4 < 128) ∧
      (l = [c0] ∨ l = [c0, c1] ∨ l = [c0, c1, c2] ∨ l = [c0, c1, c2, c3] ∨ l = [c0, c1, c2, c3, c4]) := by
  match l, h1, h5 with
  | [c0], _, _ => exact ⟨c0, 0, 0, 0, 0, h c0 (by simp), by omega, by omega, by omega, by omega, .inl rfl⟩
  | [c0, c1], _, _ => exact ⟨c0, c1, 0, 0, 0, h c0 (by simp), h c1 (by simp), by omega, by omega, by omega, .inr (.inl rfl)⟩
  | [c0, c1, c2], _, _ => exact ⟨c0, c1, c2, 0, 0, h c0 (by simp), h c1 (by simp), h c2 (by simp), by omega, by omega, .inr (.inr (.inl rfl))⟩
  | [c0, c1, c2, c3], _, _ => exact ⟨c0, c1, c2, c3, 0, h c0 (by simp), h c1 (by simp), h c2 (by simp), h c3 (by simp), by omega, .inr (.inr (.inr (.inl rfl)))⟩
  | [c0, c1, c2, c3, c4], _, _ => exact ⟨c0, c1, c2, c3, c4, h c0 (by simp), h c1 (by simp), h c2 (by simp), h c3 (by simp), h c4 (by simp), .inr (.inr (.inr (.inr rfl)))⟩
  | _ :: _ :: _ :: _ :: _ :: _ :: _, _, h => simp at h

theorem rdU_bound {r : List Int} {p q : Int} {l : List Int} (hb : ∀ c ∈ r, 0 ≤ c ∧ c ≤ 255) (h : rd lastU 4 r p = (some l, q)) : 0 ≤ val l ∧ val l < 4294967296 := by
  obtain ⟨i1, i2, i3, i4, i5, i6⟩ := rd_parts hb h
  obtain ⟨c0, c1, c2, c3, c4, b0, b1, b2, b3, b4, hl⟩ := parts_bound i1 i3 i2
  rcases hl with rfl | rfl | rfl | rfl | rfl
  · simp [val]; omega
  · simp [val]; omega
  · simp [val]; omega
  · simp [val]; omega
  · have := i6 rfl
    simp [lastU] at this
    simp [val]; omega

/-- What two shifts make of a number of so many bits. -/
def ext (m : Nat) (v : Int) : Int := if 2 ^ (m - 1) ≤ v then v - 2 ^ m else v

theorem sval_ext {l : List Int} (h : Parts l) (h5 : l.length ≤ 5) (h1 : 1 ≤ l.length) : sval l = ext (7 * l.length) (val l) := by
  obtain ⟨c0, c1, c2, c3, c4, b0, b1, b2, b3, b4, hl⟩ := parts_bound h h5 h1
  rcases hl with rfl | rfl | rfl | rfl | rfl
  all_goals
    simp only [sval, ext, val, List.getLastD_cons, List.getLastD_nil, List.length_cons, List.length_nil, Nat.zero_add, Nat.reduceAdd, Nat.reduceMul, Nat.reduceSub, Int.reducePow]
    split <;> split <;> omega

theorem rdS_bound {r : List Int} {p q : Int} {l : List Int} (hb : ∀ c ∈ r, 0 ≤ c ∧ c ≤ 255) (h : rd lastS 4 r p = (some l, q)) : -2147483648 ≤ sval l ∧ sval l ≤ 2147483647 := by
  obtain ⟨i1, i2, i3, i4, i5, i6⟩ := rd_parts hb h
  obtain ⟨c0, c1, c2, c3, c4, b0, b1, b2, b3, b4, hl⟩ := parts_bound i1 i3 i2
  rcases hl with rfl | rfl | rfl | rfl | rfl
  case inr.inr.inr.inr =>
    have := i6 rfl
    simp only [lastS, List.getLastD_cons, List.getLastD_nil, decide_eq_true_eq] at this
    simp only [sval, val, List.getLastD_cons, List.getLastD_nil, List.length_cons, List.length_nil, Nat.zero_add, Nat.reduceAdd, Int.reducePow]
    split <;> omega
  all_goals
    simp only [sval, val, List.getLastD_cons, List.getLastD_nil, List.length_cons, List.length_nil, Nat.zero_add, Nat.reduceAdd, Int.reducePow]
    split <;> omega

end Go.Proofs.YtdlfmchpaohoaaaDoor.Leb
