/- Two values have the same words just if they are the same, plain. -/
import Derived.Test.YtgohnekaolgblaaRdLaw4
import Derived.Test.YtgohnekaolgblaaTrSame
import Derived.Test.YtgohnekaolgblaaRdRead
namespace Go.Proofs.Ytgohnekaolgblaa
open Go.RowKit

theorem Tr.word_range (t : Tr) (a : Int) (ha : 0 ≤ a ∧ a < 4294967296) : 0 ≤ t.word a ∧ t.word a < 4294967296 := by
  unfold Tr.word
  split
  · unfold Wd.odd; omega
  · exact ha
theorem Tr.owns_range (a : Int) (p : Nat) (l : List Tr) : ∀ x ∈ Tr.owns a p l, 0 ≤ x ∧ x < 4294967296 := by
  induction l generalizing p with
  | nil => intro x hx; cases hx
  | cons t l ih =>
    intro x hx
    rcases List.mem_cons.1 hx with rfl | hx
    · exact Tr.word_range _ _ (by omega)
    · exact ih _ x hx
theorem Wd.tw_range (bs : List Int) (hb : Byt bs) (m : Nat) : ∀ x ∈ Wd.tw bs m, 0 ≤ x ∧ x < 4294967296 := by
  intro x hx
  obtain ⟨j, _, rfl⟩ := List.mem_map.1 hx
  have h := Wd.wv_lt ((bs.drop (4 * j)).take 4) (fun n hn => hb n (List.mem_of_mem_drop (List.mem_of_mem_take hn)))
  refine ⟨h.1, Int.lt_of_lt_of_le h.2 ?_⟩
  have hl : ((bs.drop (4 * j)).take 4).length ≤ 4 := by simp; omega
  generalize ((bs.drop (4 * j)).take 4).length = k at hl
  rcases (show k = 0 ∨ k = 1 ∨ k = 2 ∨ k = 3 ∨ k = 4 by omega) with rfl | rfl | rfl | rfl | rfl <;> decide
theorem Tr.words_range (t : Tr) : t.fine = true → ∀ a, ∀ x ∈ t.words a, 0 ≤ x ∧ x < 4294967296 := by
  induction t using Tr.ind
  rename_i k n s l ih
  intro hf a x hx
  simp only [Tr.fine, Bool.and_eq_true] at hf
  obtain ⟨hmay, hfs⟩ := hf
  rw [Tr.words] at hx
  split at hx
  · cases hx
  rename_i hk
  split at hx
  · rename_i hk2
    subst hk2
    have hs : s.size ≤ 4096 := by unfold Wd.may at hmay; simp at hmay; omega
    rcases List.mem_cons.1 hx with rfl | hx
    · exact Wd.head_range (Wd.head_text s.size hs)
    · exact Wd.tw_range _ (Wd.byt_byt s) _ x hx
  · rename_i hk2
    have h34 : 0 ≤ n ∧ n ≤ 65535 ∧ l.length ≤ 1024 := by
      have h1 : k ≠ 1 := fun e => hk (.inl e)
      unfold Wd.may at hmay
      simp only [h1, hk2, if_false] at hmay
      split at hmay
      · simp at hmay; omega
      · cases hmay
    rcases List.mem_cons.1 hx with rfl | hx
    · exact Wd.head_range (Wd.head_thing _ n l.length (by split <;> omega) h34.1 h34.2.1 h34.2.2)
    · rcases List.mem_append.1 hx with hx | hx
      · exact Tr.owns_range a _ l x hx
      · have hm : ∀ (l' : List Tr) p, (∀ t ∈ l', t ∈ l) → Tr.fines l' = true → ∀ x ∈ Tr.mores a p l', 0 ≤ x ∧ x < 4294967296 := by
          intro l'
          induction l' with
          | nil => intro p _ _ x hx; cases hx
          | cons t l' ih' =>
            intro p hs hf' x hx
            simp only [Tr.fines, Bool.and_eq_true] at hf'
            simp only [Tr.mores] at hx
            rcases List.mem_append.1 hx with hx | hx
            · exact ih t (hs t (by simp)) hf'.1 _ x hx
            · exact ih' _ (fun t ht => hs t (by simp [ht])) hf'.2 x hx
        exact hm l _ (fun _ h => h) hfs x hx

theorem Wd.at0 (a : Int) (h0 : 0 ≤ a) (h1 : a < 4294967296) : (a + 4 * ((0 : Nat) : Int)) % 4294967296 = a := by omega

/-- What is laid, read from its beginning. -/
theorem Wd.rd_whole (t : Tr) (a : Int) (h0 : 0 ≤ a) (hp : Wd.place a) (hc : Wd.chk t = 0) : Wd.rd (t.words a) a 200 (t.word a) 0 0 = some (t.plain, t.size, t.count) := by
  obtain ⟨h1, h2, h3⟩ := Wd.chk_ok hc
  have ha := Wd.at0 a h0 (by have := hp.2.2; omega)
  have h := Wd.rd_words (t.words a) a hp.2.1 t 200 [] [] 0 h3 h2 (by omega) (by rw [List.length_nil, ha]; simp)
  rw [List.length_nil, ha] at h
  simpa using h
/-- What is told of what is laid: the value, with numbers for things without fields. -/
theorem Wd.lay_plain (t : Tr) (a : Int) (h0 : 0 ≤ a) (hp : Wd.place a) (hc : Wd.chk t = 0) : t.words a = t.plain.words a ∧ t.word a = t.plain.word a ∧ t.plain.plain = t.plain ∧ Wd.chk t.plain = 0 := by
  have hw := Wd.rd_whole t a h0 hp hc
  obtain ⟨h1, h2, h3⟩ := Wd.chk_ok hc
  have hr := hp.2.2
  have ha := Wd.at0 a h0 (by omega)
  have T := Wd.rd_told (t.words a) a (Tr.words_range t h3 a) 200 _ _ _ _ _ _ (Tr.word_range t a (by omega)) (Nat.zero_le _) hw
  have e1 := T.ewords
  have e2 := T.eword
  have e3 := T.enx
  have e4 := T.em
  rw [ha] at e1 e2
  rw [List.drop_zero, List.take_of_length_le (by rw [Tr.words_length]; omega)] at e1
  refine ⟨e1, e2, T.hplain, ?_⟩
  unfold Wd.chk
  have := T.hdeep
  rw [if_neg (by omega), T.hfine]
  rfl
/-- Two values have the same words just if they are the same, with numbers for things without fields. -/
theorem Wd.apart (t u : Tr) (a : Int) (h0 : 0 ≤ a) (hp : Wd.place a) (ht : Wd.chk t = 0) (hu : Wd.chk u = 0) : (decide (t.words a = u.words a) && (t.word a == u.word a)) = t.plain.same u.plain := by
  obtain ⟨t1, t2, _, _⟩ := Wd.lay_plain t a h0 hp ht
  obtain ⟨u1, u2, _, _⟩ := Wd.lay_plain u a h0 hp hu
  by_cases h : t.plain = u.plain
  · rw [(Tr.same_iff _ _).2 h, t1, t2, u1, u2, h]
    simp
  · have hs : t.plain.same u.plain = false := by
      cases hs : t.plain.same u.plain
      · rfl
      · exact absurd ((Tr.same_iff _ _).1 hs) h
    rw [hs]
    simp only [Bool.and_eq_false_iff, decide_eq_false_iff_not, beq_eq_false_iff_ne]
    by_cases hw : t.words a = u.words a
    · refine .inr fun hx => h ?_
      have r1 := Wd.rd_whole t a h0 hp ht
      have r2 := Wd.rd_whole u a h0 hp hu
      rw [hw, hx, r2] at r1
      simp only [Option.some.injEq, Prod.mk.injEq] at r1
      exact r1.1.symm
    · exact .inl hw
/-- What is laid is read. -/
theorem Wd.read_lay (t : Tr) (a : Int) (h0 : 0 ≤ a) (hp : Wd.place a) (hc : Wd.chk t = 0) (hl : t.size ≤ 1048576) : Wd.read (t.words a) a (t.word a) = (t.plain, 0) := by
  unfold Wd.read
  rw [if_neg (by simpa using hp), if_neg (by rw [Tr.words_length]; omega), Wd.rd_whole t a h0 hp hc]
  simp [Tr.words_length]
/-- What is read is laid. -/
theorem Wd.lay_read (ls : List Int) (a u : Int) (t : Tr) (h0 : 0 ≤ a) (hlr : ∀ x ∈ ls, 0 ≤ x ∧ x < 4294967296) (hu : 0 ≤ u ∧ u < 4294967296) (h : Wd.read ls a u = (t, 0)) : Wd.lay t a = (ls, u, 0) ∧ t.plain = t := by
  unfold Wd.read at h
  split at h
  · simp at h
  rename_i hp
  split at h
  · simp at h
  split at h
  · simp at h
  rename_i t' n m hrd
  split at h
  · rename_i hn
    simp only [Prod.mk.injEq, and_true] at h
    subst h
    have hp' : Wd.place a := by simpa using hp
    have hr := hp'.2.2
    have ha := Wd.at0 a h0 (by omega)
    have T := Wd.rd_told ls a hlr 200 u 0 0 t' n m hu (Nat.zero_le _) hrd
    have hb := Wd.rd_bound ls a 200 u 0 0 t' n m (Nat.zero_le _) hrd
    have e1 := T.ewords
    have e2 := T.eword
    have e3 := T.enx
    have e4 := T.em
    have hd := T.hdeep
    rw [ha] at e1 e2
    rw [List.drop_zero, List.take_of_length_le (by omega)] at e1
    have hc : Wd.chk t' = 0 := by
      unfold Wd.chk
      rw [if_neg (by omega), T.hfine]
      rfl
    unfold Wd.lay
    rw [if_neg hp, if_neg (by rw [hc]; simp), ← e1, ← e2]
    exact ⟨rfl, T.hplain⟩
  · simp at h

end Go.Proofs.Ytgohnekaolgblaa
