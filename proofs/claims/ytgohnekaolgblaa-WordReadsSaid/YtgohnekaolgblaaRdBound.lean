/- Reading words: heads that are; where reading ends: plain. -/
import Derived.Test.YtgohnekaolgblaaRdPlain
namespace Go.Proofs.Ytgohnekaolgblaa
open Go.RowKit

theorem Wd.unhead_ok {h k n s : Int} (e : Wd.unhead h = (k, n, s, true)) : Wd.headOk k n s ∧ Wd.head k n s = (h, 0) := by
  unfold Wd.unhead at e
  split at e
  · rename_i hh
    simp only [Prod.mk.injEq, and_true] at e
    obtain ⟨rfl, rfl, rfl⟩ := e
    refine ⟨?_, hh⟩
    by_cases hok : Wd.headOk (h / 2 % 4) (h / 65536) (h / 8 % 8192)
    · exact hok
    · rw [Wd.head_no hok] at hh
      have := congrArg Prod.snd hh
      simp at this
  · simp at e
theorem Wd.unhead_words {h k n s : Int} (e : Wd.unhead h = (k, n, s, true)) : Wd.words h = (if k = 2 then 1 + (s + 3) / 4 else 1 + s, true) := by
  unfold Wd.words
  rw [e]
  by_cases hk : k = 2 <;> simp [hk]
theorem Wd.unhead_not {h k n s : Int} (e : Wd.unhead h = (k, n, s, false)) : Wd.words h = (0, false) := by
  unfold Wd.words
  rw [e]
  rfl

theorem Wd.rdAcc_bound {N : Nat} {f : Int → Nat → Nat → Option (Tr × Nat × Nat)} (hf : ∀ u n m t n' m', n ≤ N → f u n m = some (t, n', m') → n' ≤ N ∧ m' ≤ 16384) :
    ∀ (us : List Int) (acc : List Tr) (n m : Nat) (ts : List Tr) (n' m' : Nat), n ≤ N → m ≤ 16384 → Wd.rdAcc f us acc n m = some (ts, n', m') → n' ≤ N ∧ m' ≤ 16384 := by
  intro us
  induction us with
  | nil =>
    intro acc n m ts n' m' hn hm h
    simp only [Wd.rdAcc, Option.some.injEq, Prod.mk.injEq] at h
    obtain ⟨_, rfl, rfl⟩ := h
    exact ⟨hn, hm⟩
  | cons u us ih =>
    intro acc n m ts n' m' hn hm h
    simp only [Wd.rdAcc] at h
    split at h
    · cases h
    · rename_i t1 n1 m1 h1
      have hb := hf u n m t1 n1 m1 hn h1
      exact ih _ _ _ _ _ _ hb.1 hb.2 h

theorem Wd.rd_bound (ls : List Int) (a : Int) : ∀ (g : Nat) (u : Int) (n m : Nat) (t : Tr) (n' m' : Nat), n ≤ ls.length → Wd.rd ls a g u n m = some (t, n', m') → n' ≤ ls.length ∧ m' ≤ 16384 := by
  intro g
  induction g with
  | zero => intro u n m t n' m' _ h; simp [Wd.rd] at h
  | succ g ih =>
    intro u n m t n' m' hn h
    simp only [Wd.rd] at h
    split at h
    · cases h
    · rename_i hm
      split at h
      · simp only [Option.some.injEq, Prod.mk.injEq] at h
        obtain ⟨_, rfl, rfl⟩ := h
        exact ⟨hn, by omega⟩
      · split at h
        · cases h
        · split at h
          · cases h
          · unfold Wd.rdBody at h
            split at h
            · cases h
            · rename_i hw
              split at h
              · unfold Wd.rdText at h
                split at h
                · simp only [Option.some.injEq, Prod.mk.injEq] at h
                  obtain ⟨_, rfl, rfl⟩ := h
                  exact ⟨by omega, by omega⟩
                · cases h
              · split at h
                · cases h
                · rename_i ts1 n1 m1 h1
                  simp only [Option.some.injEq, Prod.mk.injEq] at h
                  obtain ⟨_, rfl, rfl⟩ := h
                  exact Wd.rdAcc_bound ih _ _ _ _ _ _ _ (by omega) (by omega) h1

end Go.Proofs.Ytgohnekaolgblaa
