/- Words are read just if they are those of the value that is told: plain, by levels. -/
import Derived.Test.YtgohnekaolgblaaRdLaw3
namespace Go.Proofs.Ytgohnekaolgblaa
open Go.RowKit

theorem Wd.rd_told (ls : List Int) (a : Int) (hlr : ∀ x ∈ ls, 0 ≤ x ∧ x < 4294967296) : ∀ (g : Nat) (u : Int) (next many : Nat) (t : Tr) (nx m : Nat), (0 ≤ u ∧ u < 4294967296) → next ≤ ls.length → Wd.rd ls a g u next many = some (t, nx, m) → Told ls a g u next many t nx m := by
  intro g
  induction g with
  | zero => intro u next many t nx m _ _ h; simp [Wd.rd] at h
  | succ g ih =>
    intro u next many t nx m hu hn h
    simp only [Wd.rd] at h
    split at h
    · cases h
    rename_i hm
    split at h
    · rename_i hof
      simp only [Option.some.injEq, Prod.mk.injEq] at h
      obtain ⟨rfl, rfl, rfl⟩ := h
      obtain ⟨h1, h2, h3⟩ := Wd.of_back u (Wd.of u).1 hu (by rw [← hof])
      refine ⟨?_, ?_, by simp [Tr.deep, Tr.deeps], ?_, ?_, by simp [Tr.count, Tr.counts], ?_, ?_⟩
      · simp [Tr.fine, Tr.fines, Wd.may, h2, h3]
      · rw [Tr.plain, if_neg (by decide)]; rfl
      · show u = if _ then _ else _
        rw [if_pos (.inl rfl)]; exact h1.symm
      · rw [Tr.size, if_pos (.inl rfl)]; omega
      · exact hn
      · rw [Tr.size, if_pos (.inl rfl), Tr.words, if_pos (.inl rfl)]; rfl
    · split at h
      · cases h
      rename_i hof hua
      have hua : u = (a + 4 * (next : Int)) % 4294967296 := by simpa using hua
      split at h
      · cases h
      rename_i hd hget
      obtain ⟨hlt, hge⟩ := List.getElem?_eq_some_iff.1 hget
      have hhr := hlr hd (List.mem_of_getElem? hget)
      unfold Wd.rdBody at h
      rcases hun : Wd.unhead hd with ⟨k, n, s, is⟩
      rw [hun] at h
      simp only at h
      split at h
      · cases h
      rename_i hok3
      have his : is = true := by cases is <;> simp_all
      subst his
      obtain ⟨hok, hhd⟩ := Wd.unhead_ok hun
      have hwo := Wd.unhead_words hun
      rw [hwo] at h hok3
      have hs0 := hok.2.2.2.2.2.1
      have hs1 := hok.2.2.2.2.2.2
      obtain ⟨sn, rfl⟩ := Int.eq_ofNat_of_zero_le hs0
      obtain ⟨wn, hwn⟩ : ∃ wn : Nat, wn = (if k = 2 then 1 + ((sn : Int) + 3) / 4 else 1 + (sn : Int)).toNat := ⟨_, rfl⟩
      simp only [← hwn] at h hok3
      have hfit : next + wn ≤ ls.length := by omega
      have hnz : ¬ (k = 0 ∧ (sn : Int) = 0) := fun e => hok3 (.inr (.inr e))
      have hw1 : 1 ≤ wn := by rw [hwn]; split <;> omega
      have hdrop : ls.drop next = hd :: ls.drop (next + 1) := by rw [List.drop_eq_getElem_cons hlt, hge]
      obtain ⟨own, hown⟩ : ∃ own, own = (ls.drop (next + 1)).take (wn - 1) := ⟨_, rfl⟩
      rw [← hown] at h
      have hol : own.length = wn - 1 := by rw [hown, List.length_take, List.length_drop]; omega
      have hor : ∀ x ∈ own, 0 ≤ x ∧ x < 4294967296 := fun x hx => hlr x (by rw [hown] at hx; exact List.mem_of_mem_drop (List.mem_of_mem_take hx))
      by_cases hk2 : k = 2
      · subst hk2
        rw [if_pos rfl] at h hwn
        have hn0 : n = 0 := hok.2.2.2.2.1 rfl
        subst hn0
        have hs : sn ≤ 4096 := by unfold Wd.most at hs1; rw [if_pos rfl] at hs1; omega
        unfold Wd.rdText at h
        split at h
        · rename_i hz
          simp only [Option.some.injEq, Prod.mk.injEq, Int.toNat_natCast] at h hz
          obtain ⟨rfl, rfl, rfl⟩ := h
          have hbt : Byt ((Wd.bys own).take sn) := fun x hx => Wd.bys_byt own x (List.mem_of_mem_take hx)
          have hsz : (str ((Wd.bys own).take sn)).size = sn := by rw [str_size, List.length_take, Wd.bys_length]; omega
          have hts : (Tr.mk 2 0 (str ((Wd.bys own).take sn)) []).size = wn := by
            rw [Tr.size, if_neg (by decide), if_pos rfl, hsz]; omega
          refine ⟨?_, ?_, by simp [Tr.deep, Tr.deeps], ?_, by rw [hts], by simp [Tr.count, Tr.counts], hfit, ?_⟩
          · simp [Tr.fine, Tr.fines, Wd.may, hsz, hs]
          · rw [Tr.plain, if_neg (by decide)]; rfl
          · show u = if _ then _ else _
            rw [if_neg (by simp [Tr.k])]; exact hua
          · rw [hts, Tr.words, if_neg (by decide), if_pos rfl, hsz, hhd, byt_str _ hbt, show (sn + 3) / 4 = own.length by omega, Wd.tw_bys own hor sn hz, hdrop, hown, show wn = (wn - 1) + 1 by omega, List.take_succ_cons]
            rfl
        · cases h
      · rw [if_neg hk2] at h hwn
        have hk01 : k = 0 ∨ k = 1 := by have := hok.1; have := hok.2.1; omega
        have hs : sn ≤ 1024 := by unfold Wd.most at hs1; rw [if_neg hk2] at hs1; omega
        split at h
        · cases h
        rename_i ts n1 m1 hacc
        simp only [Option.some.injEq, Prod.mk.injEq] at h
        obtain ⟨rfl, rfl, rfl⟩ := h
        obtain ⟨l, h1, h2, h3, h4, h5, h6, h7, h8, h9, h10⟩ := Wd.rdAcc_told ls a g ih own [] (next + wn) (many + 1) ts n1 m1 u wn hor hfit (by rw [hua]; omega) hacc
        rw [List.nil_append] at h1
        subst h1
        have hll : ts.length = sn := by omega
        obtain ⟨K, hK⟩ : ∃ K, K = (if k = 1 then (4 : Int) else 3) := ⟨_, rfl⟩
        rw [← hK]
        have hK34 : (K = 3 ∧ k = 0) ∨ (K = 4 ∧ k = 1) := by rcases hk01 with rfl | rfl <;> simp [hK]
        have hnn : ¬ (K = 1 ∨ (K = 3 ∧ ts.length = 0)) := by
          rintro (e | ⟨e, e'⟩)
          · omega
          · exact hnz ⟨by omega, by omega⟩
        have hK2 : ¬ K = 2 := by omega
        have hts : (Tr.mk K n ⟨#[]⟩ ts).size = wn + Tr.sizes ts := by
          rw [Tr.size, if_neg hnn, if_neg hK2]; omega
        have hrange := hok.2.2.1
        have hrange' := hok.2.2.2.1
        refine ⟨?_, ?_, by simp only [Tr.deep]; omega, ?_, by rw [hts]; omega, by simp only [Tr.count]; omega, h9, ?_⟩
        · have hmay : Wd.may K n ⟨#[]⟩ ts.length = true := by
            unfold Wd.may
            rw [if_neg (by omega), if_neg hK2, if_pos (by omega)]
            have e1 : (⟨#[]⟩ : ByteArray).toList = [] := by rw [ByteArray.toList_eq]
            simp [hrange, hrange', e1]
            omega
          simp [Tr.fine, hmay, h3]
        · rw [Tr.plain, if_neg (fun e => hnn (.inr e)), h4]
        · show u = if K = 1 ∨ (K = 3 ∧ ts.length = 0) then Wd.odd n else _
          rw [if_neg hnn]; exact hua
        · rw [hts, Tr.words, if_neg hnn, if_neg hK2, ← hua, hdrop]
          have hkk : (if K = 4 then (1 : Int) else 0) = k := by rcases hK34 with ⟨rfl, rfl⟩ | ⟨rfl, rfl⟩ <;> rfl
          rw [hkk, hll, hhd, show wn + Tr.sizes ts = ((wn - 1) + Tr.sizes ts) + 1 by omega, List.take_succ_cons, List.take_add, ← hown, List.drop_drop, show next + 1 + (wn - 1) = next + wn by omega, h10, show 1 + sn = wn by omega, ← h6]

end Go.Proofs.Ytgohnekaolgblaa
