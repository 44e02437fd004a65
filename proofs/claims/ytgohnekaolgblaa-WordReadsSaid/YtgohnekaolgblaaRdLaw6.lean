/- Sizes: how many words a tree has, told by its values and bytes; how many things a tree that was read has: plain. -/
import Derived.Test.YtgohnekaolgblaaWordApart
namespace Go.Proofs.Ytgohnekaolgblaa
open Go.RowKit

theorem Tr.size_vals (t : Tr) : ∀ m : Int, 0 ≤ m → t.vals m ≤ m → (t.size : Int) + 1 ≤ 2 * t.vals m := by
  induction t using Tr.ind
  rename_i k n0 s l ih
  intro m hm
  have hl : ∀ (l' : List Tr), (∀ t ∈ l', t ∈ l) → ∀ n : Int, 1 ≤ n → n ≤ m + 1 → Tr.valsL l' m n ≤ m → n ≤ m ∧ 2 * n + Tr.sizes l' + l'.length ≤ 2 * Tr.valsL l' m n := by
    intro l'
    induction l' with
    | nil => intro _ n h1 h2 h3; simp only [Tr.valsL, Tr.sizes, List.length_nil] at h3 ⊢; omega
    | cons t l' ih' =>
      intro hs n h1 h2 h3
      simp only [Tr.valsL, Tr.sizes, List.length_cons] at h3 ⊢
      by_cases hn : n ≤ m
      · rw [if_pos hn] at h3 ⊢
        have ht := Tr.vals_le t (m - n) (by omega)
        have hi := ih t (hs t (by simp)) (m - n) (by omega)
        have h := ih' (fun t ht => hs t (by simp [ht])) (n + t.vals (m - n)) (by omega) (by omega) h3
        have h4 := hi (by omega)
        omega
      · rw [if_neg hn] at h3
        omega
  intro hv
  simp only [Tr.vals] at hv ⊢
  have h := hl l (fun _ h => h) (1 + min (s.size : Int) m) (by omega) (by omega) hv
  simp only [Tr.size]
  split
  · omega
  · split <;> omega

theorem Wd.read_count {ls : List Int} {a u : Int} {t : Tr} (hlr : ∀ x ∈ ls, 0 ≤ x ∧ x < 4294967296) (hu : 0 ≤ u ∧ u < 4294967296) (h : Wd.read ls a u = (t, 0)) : t.count ≤ 16384 := by
  unfold Wd.read at h
  split at h
  · simp at h
  split at h
  · simp at h
  split at h
  · simp at h
  rename_i t' n m hrd
  split at h
  · rename_i hn
    simp only [Prod.mk.injEq, and_true] at h
    subst h
    have T := Wd.rd_told ls a hlr 200 u 0 0 t' n m hu (Nat.zero_le _) hrd
    have hb := Wd.rd_bound ls a 200 u 0 0 t' n m (Nat.zero_le _) hrd
    have e4 := T.em
    omega
  · simp at h

end Go.Proofs.Ytgohnekaolgblaa
