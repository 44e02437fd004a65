/- Layer 4 in plain Lean: what bytes of types are read as. -/
import Derived.Test.YtdlfmchpaohoaaaLebShortPlain
namespace Go.Proofs.Ytdlfmchpaohoaaa.Kind

/-- So many bytes 127 from a place on: (0, 0), or the fault and its place. -/
def run (bs : List Int) : Nat → Nat → Int × Int
  | 0, _ => (0, 0)
  | n + 1, p => match bs[p]? with
    | none => (4, bs.length)
    | some c => if c = 127 then run bs n (p + 1) else (140, p)

/-- So many words, at most a bound: how many, the place behind, the fault and its place. -/
def words (bs : List Int) (a most : Int) : Int × Int × Int × Int :=
  if (Leb.getU bs a).2.2.1 ≠ 0 then (0, 0, (Leb.getU bs a).2.2) else
  if most < (Leb.getU bs a).1 then (0, 0, 141, a) else
  if (run bs (Leb.getU bs a).1.toNat (Leb.getU bs a).2.1.toNat).1 ≠ 0 then (0, 0, run bs (Leb.getU bs a).1.toNat (Leb.getU bs a).2.1.toNat) else
  ((Leb.getU bs a).1, (Leb.getU bs a).2.1 + (Leb.getU bs a).1, 0, 0)

theorem run_end {bs : List Int} {n p : Nat} (h : bs.length ≤ p) : run bs (n + 1) p = (4, (bs.length : Int)) := by
  simp only [run, List.getElem?_eq_none h]
theorem run_hit {bs : List Int} {n p : Nat} (h : p < bs.length) (hc : bs[p] = 127) : run bs (n + 1) p = run bs n (p + 1) := by
  simp only [run, List.getElem?_eq_getElem h, if_pos hc]
theorem run_miss {bs : List Int} {n p : Nat} (h : p < bs.length) (hc : ¬ bs[p] = 127) : run bs (n + 1) p = (140, (p : Int)) := by
  simp only [run, List.getElem?_eq_getElem h, if_neg hc]

/-- Where all of them are there they lie within. -/
theorem run_fits {bs : List Int} {n p : Nat} (hp : p ≤ bs.length) (h : (run bs n p).1 = 0) : p + n ≤ bs.length := by
  induction n generalizing p with
  | zero => omega
  | succ n ih =>
    by_cases hl : p < bs.length
    · by_cases hc : bs[p] = 127
      · rw [run_hit hl hc] at h
        have := ih (by omega) h; omega
      · rw [run_miss hl hc] at h; simp at h
    · rw [run_end (by omega)] at h; simp at h

/-- A function's type, of the bytes from a place on within them: its parameters, its results, the place behind, the fault and its place. -/
def get (bs : List Int) (a : Nat) : Int × Int × Int × Int × Int :=
  match bs[a]? with
  | none => (0, 0, 0, 4, bs.length)
  | some c => if c ≠ 96 then (0, 0, 0, 140, a) else
    match words bs ((a + 1 : Nat) : Int) 255 with
    | (x, q, e, p) => if e ≠ 0 then (0, 0, 0, e, p) else
      match words bs q 1 with
      | (y, r, e', p') => if e' ≠ 0 then (0, 0, 0, e', p') else (x, y, r, 0, 0)

/-- Where words are read they lie within. -/
theorem words_fits {bs : List Int} {a most : Int} (hb : ∀ c ∈ bs, 0 ≤ c ∧ c ≤ 255) (h : (words bs a most).2.2.1 = 0) :
    0 ≤ (words bs a most).1 ∧ (words bs a most).1 ≤ most ∧ a < (words bs a most).2.1 ∧ 0 ≤ a ∧ (words bs a most).2.1 ≤ bs.length := by
  rcases Leb.getU_cases bs a hb with ⟨x, q, hg, x0, x1, a0, a1, q0, q1, q2⟩ | ⟨e0, p0, hg, he⟩
  · have hp := Leb.putU_pos 4 x
    unfold words at h ⊢
    rw [hg] at h ⊢
    simp only [ne_eq, not_true_eq_false, if_false] at h ⊢
    by_cases hm : most < x
    · rw [if_pos hm] at h; simp at h
    · rw [if_neg hm] at h ⊢
      by_cases hr : (run bs x.toNat q.toNat).1 = 0
      · simp only [hr, not_true_eq_false, if_false]
        have := run_fits (by omega) hr
        omega
      · simp only [hr, not_false_eq_true, if_true] at h
  · unfold words at h
    rw [hg] at h
    have : ¬ e0 = 0 := by omega
    simp only [ne_eq, this, not_false_eq_true, if_true] at h

theorem words_cases (bs : List Int) (a most : Int) (hb : ∀ c ∈ bs, 0 ≤ c ∧ c ≤ 255) :
    (∃ x q : Nat, words bs a most = ((x : Int), (q : Int), 0, 0) ∧ (x : Int) ≤ most ∧ a < q ∧ 0 ≤ a ∧ q ≤ bs.length) ∨
    ∃ e p, words bs a most = (0, 0, e, p) ∧ ¬ e = 0 := by
  by_cases h : (words bs a most).2.2.1 = 0
  · obtain ⟨h1, h2, h3, h4, h5⟩ := words_fits hb h
    obtain ⟨x, hx⟩ := Int.eq_ofNat_of_zero_le h1
    obtain ⟨q, hq⟩ := Int.eq_ofNat_of_zero_le (show 0 ≤ (words bs a most).2.1 by omega)
    refine .inl ⟨x, q, ?_, by omega, by omega, h4, by omega⟩
    have h6 : (words bs a most).2.2.2 = 0 := by
      unfold words at h ⊢
      split
      · rename_i h0; rw [if_pos h0] at h; exact absurd h h0
      · rename_i h0; rw [if_neg h0] at h
        split
        · rename_i h0; rw [if_pos h0] at h; simp at h
        · rename_i h0; rw [if_neg h0] at h
          split
          · rename_i h0; rw [if_pos h0] at h; exact absurd h h0
          · rfl
    exact Prod.ext hx (Prod.ext hq (Prod.ext h h6))
  · refine .inr ⟨(words bs a most).2.2.1, (words bs a most).2.2.2, ?_, h⟩
    unfold words at h ⊢
    split
    · rfl
    · rename_i h0; rw [if_neg h0] at h
      split
      · rfl
      · rename_i h0; rw [if_neg h0] at h
        split
        · rfl
        · rename_i h0; rw [if_neg h0] at h; simp at h

/-- A number between two bounds: the number, the place behind, the fault and its place. -/
def num (bs : List Int) (a least most : Int) : Int × Int × Int × Int :=
  match Leb.getU bs a with
  | (x, q, e, p) => if e ≠ 0 then (0, 0, e, p) else if x < least ∨ most < x then (0, 0, 141, a) else (x, q, 0, 0)

theorem num_cases (bs : List Int) (a least most : Int) (hb : ∀ c ∈ bs, 0 ≤ c ∧ c ≤ 255) :
    (∃ x q : Nat, num bs a least most = ((x : Int), (q : Int), 0, 0) ∧ Leb.getU bs a = ((x : Int), (q : Int), 0, 0) ∧ least ≤ x ∧ (x : Int) ≤ most ∧ x < 4294967296 ∧ a < q ∧ 0 ≤ a ∧ q ≤ bs.length) ∨
    ∃ e p, num bs a least most = (0, 0, e, p) ∧ ¬ e = 0 ∧ (Leb.getU bs a = (0, 0, e, p) ∨ ∃ x q : Int, Leb.getU bs a = (x, q, 0, 0) ∧ (x < least ∨ most < x) ∧ e = 141 ∧ p = a) := by
  rcases Leb.getU_cases bs a hb with ⟨x, q, hg, x0, x1, a0, a1, q0, q1, q2⟩ | ⟨e0, p0, hg, he⟩
  · have hp := Leb.putU_pos 4 x
    by_cases hr : x < least ∨ most < x
    · exact .inr ⟨141, a, by unfold num; simp only [hg]; simp [hr], by decide, .inr ⟨x, q, hg, hr, rfl, rfl⟩⟩
    · obtain ⟨n, rfl⟩ := Int.eq_ofNat_of_zero_le x0
      obtain ⟨q, rfl⟩ := Int.eq_ofNat_of_zero_le (show 0 ≤ q by omega)
      exact .inl ⟨n, q, by unfold num; simp only [hg]; simp [hr], hg, by omega, by omega, by omega, by omega, a0, by omega⟩
  · have h0 : ¬ e0 = 0 := by omega
    exact .inr ⟨e0, p0, by unfold num; simp only [hg]; simp [h0], h0, .inl hg⟩

/-- Limits, of the bytes from a place on within them: at least, at most, whether capped (1 or 0), the place behind, the fault and its place. -/
def limits (bs : List Int) (a : Nat) (most : Int) : Int × Int × Int × Int × Int × Int :=
  match bs[a]? with
  | none => (0, 0, 0, 0, 4, bs.length)
  | some c => if c ≠ 0 ∧ c ≠ 1 then (0, 0, 0, 0, 140, a) else
    match num bs ((a + 1 : Nat) : Int) 0 most with
    | (x, q, e, p) => if e ≠ 0 then (0, 0, 0, 0, e, p) else
      if c = 0 then (x, 0, 0, q, 0, 0) else
      match num bs q x most with
      | (y, r, e', p') => if e' ≠ 0 then (0, 0, 0, 0, e', p') else (x, y, 1, r, 0, 0)

end Go.Proofs.Ytdlfmchpaohoaaa.Kind
