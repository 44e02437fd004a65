/- The references of layer 1 beside the plain definition: what is read without the look at the last part. -/
import Derived.Test.YtdlfmchpaohoaaaDoorLebGetNum
namespace Go.Proofs.YtdlfmchpaohoaaaDoor.Leb

theorem rd_last (last : Int → Bool) (f : Nat) (r : List Int) (p : Int) :
    rd last f r p = match rd (fun _ => true) f r p with
      | (some l, q) => if l.length = f + 1 ∧ last (l.getLastD 0) = false then (none, q - 1) else (some l, q)
      | (none, q) => (none, q) := by
  induction f generalizing r p with
  | zero =>
    cases r with
    | nil => simp [rd]
    | cons c r =>
      by_cases hc : c < 128
      · by_cases hl : last c = true
        · simp [rd, hc, hl]
        · simp only [Bool.not_eq_true] at hl
          simp [rd, hc, hl]
      · simp [rd, hc]
  | succ f ih =>
    cases r with
    | nil => simp [rd]
    | cons c r =>
      by_cases hc : c < 128
      · simp [rd, hc]
      · simp only [rd, if_neg hc]
        rw [ih]
        generalize rd (fun _ => true) f r (p + 1) = s
        obtain ⟨_ | l, q⟩ := s
        · simp
        · simp only [Option.map_some]
          have e : l.length = f + 1 → ((c % 128) :: l).getLastD 0 = l.getLastD 0 := fun h => by
            cases l with
            | nil => simp at h
            | cons y l => simp
          by_cases h : l.length = f + 1 ∧ last (l.getLastD 0) = false
          · rw [if_pos h, if_pos ⟨by simp [h.1], by rw [e h.1]; exact h.2⟩]; simp
          · rw [if_neg h, if_neg (by rintro ⟨h1, h2⟩; simp at h1; exact h ⟨h1, by rw [← e h1]; exact h2⟩)]; simp

/-- What is read, with the last part looked at. -/
theorem getU_of (bs : List Int) (a : Nat) (ha : a ≤ bs.length) : getU bs a = tell val (match rd (fun _ => true) 4 (bs.drop a) a with
      | (some l, q) => if l.length = 5 ∧ 15 < l.getLastD 0 then (none, q - 1) else (some l, q)
      | (none, q) => (none, q)) := by
  unfold getU
  rw [if_neg (by omega), Int.toNat_natCast, rd_last]
  congr 1
  generalize rd (fun _ => true) 4 (bs.drop a) a = s
  obtain ⟨_ | l, q⟩ := s
  · rfl
  · simp only [lastU, Nat.reduceAdd, decide_eq_false_iff_not, Int.not_le]

theorem last4 {l : List Int} (h : l.length = 5) : l.getLastD 0 = l[4] := by
  match l, h with
  | [a, b, c, d, e], _ => rfl

theorem val_fits {l : List Int} (h : Parts l) (h5 : l.length ≤ 5) (h1 : 1 ≤ l.length) (hn : ¬ (l.length = 5 ∧ 15 < l.getLastD 0)) : 0 ≤ val l ∧ val l < 4294967296 := by
  obtain ⟨c0, c1, c2, c3, c4, b0, b1, b2, b3, b4, hl⟩ := parts_bound h h5 h1
  rcases hl with rfl | rfl | rfl | rfl | rfl
  · simp [val]; omega
  · simp [val]; omega
  · simp [val]; omega
  · simp [val]; omega
  · simp at hn
    simp [val]; omega

end Go.Proofs.YtdlfmchpaohoaaaDoor.Leb
