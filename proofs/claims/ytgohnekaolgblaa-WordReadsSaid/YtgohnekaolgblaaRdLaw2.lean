/- What is laid of a value is read as it was: plain. -/
import Derived.Test.YtgohnekaolgblaaRdLaw
namespace Go.Proofs.Ytgohnekaolgblaa
open Go.RowKit

theorem Tr.size_num {t : Tr} (h : t.k = 1 ∨ (t.k = 3 ∧ t.l.length = 0)) : t.size = 0 := by
  obtain ⟨k, n, s, l⟩ := t
  simp only [Tr.k, Tr.l] at h
  rw [Tr.size, if_pos h]

/-- The fields are read, one behind the other. -/
theorem Wd.rdAcc_words (ls : List Int) (a0 : Int) (g : Nat) (l : List Tr)
    (IH : ∀ t ∈ l, ∀ (pre post : List Int) (many : Nat), t.fine = true → t.deep ≤ g → many + t.count ≤ 16384 → ls = pre ++ t.words ((a0 + 4 * pre.length) % 4294967296) ++ post → Wd.rd ls a0 g (t.word ((a0 + 4 * pre.length) % 4294967296)) pre.length many = some (t.plain, pre.length + t.size, many + t.count)) :
    ∀ (acc : List Tr) (pre post : List Int) (a : Int) (p : Nat) (many : Nat), Tr.fines l = true → Tr.deeps l ≤ g → many + Tr.counts l ≤ 16384 → (a + 4 * (p : Int)) % 4294967296 = (a0 + 4 * pre.length) % 4294967296 → ls = pre ++ Tr.mores a p l ++ post →
      Wd.rdAcc (fun u n m => Wd.rd ls a0 g u n m) (Tr.owns a p l) acc pre.length many = some (acc ++ Tr.plains l, pre.length + Tr.sizes l, many + Tr.counts l) := by
  induction l with
  | nil =>
    intro acc pre post a p many _ _ _ _ _
    simp [Tr.owns, Wd.rdAcc, Tr.plains, Tr.sizes, Tr.counts]
  | cons t l ih =>
    intro acc pre post a p many hf hd hc ha hls
    simp only [Tr.fines, Bool.and_eq_true] at hf
    simp only [Tr.deeps] at hd
    simp only [Tr.counts] at hc
    simp only [Tr.mores] at hls
    simp only [Tr.owns, Wd.rdAcc]
    have h1 := IH t (by simp) pre (Tr.mores a (p + t.size) l ++ post) many hf.1 (by omega) (by omega) (by rw [hls, ha]; simp only [List.append_assoc])
    rw [ha, h1]
    simp only
    have hlen : (pre ++ t.words ((a + 4 * (p : Int)) % 4294967296)).length = pre.length + t.size := by rw [List.length_append, Tr.words_length]
    have h2 := ih (fun t ht => IH t (by simp [ht])) (acc ++ [t.plain]) (pre ++ t.words ((a + 4 * (p : Int)) % 4294967296)) post a (p + t.size) (many + t.count) hf.2 (by omega) (by omega) (by rw [hlen]; omega) (by rw [hls]; simp only [List.append_assoc])
    rw [hlen] at h2
    rw [h2]
    simp only [Tr.plains, Tr.sizes, Tr.counts, List.append_assoc, List.cons_append, List.nil_append, Nat.add_assoc]

theorem Wd.rd_words (ls : List Int) (a0 : Int) (h0 : a0 % 4 = 0) (t : Tr) : ∀ (g : Nat) (pre post : List Int) (many : Nat), t.fine = true → t.deep ≤ g → many + t.count ≤ 16384 → ls = pre ++ t.words ((a0 + 4 * pre.length) % 4294967296) ++ post →
    Wd.rd ls a0 g (t.word ((a0 + 4 * pre.length) % 4294967296)) pre.length many = some (t.plain, pre.length + t.size, many + t.count) := by
  induction t using Tr.ind
  rename_i k n s l ih
  intro g pre post many hf hd hc hls
  simp only [Tr.deep] at hd
  obtain ⟨g, rfl⟩ : ∃ g', g = g' + 1 := ⟨g - 1, by omega⟩
  simp only [Tr.count] at hc
  simp only [Tr.fine, Bool.and_eq_true] at hf
  obtain ⟨hmay, hfs⟩ := hf
  obtain ⟨a, ha⟩ : ∃ a, a = (a0 + 4 * (pre.length : Int)) % 4294967296 := ⟨_, rfl⟩
  rw [← ha] at hls ⊢
  have hwd : ∀ b, (Tr.mk k n s l).word b = if k = 1 ∨ (k = 3 ∧ l.length = 0) then Wd.odd n else b := fun _ => rfl
  rw [hwd, Wd.rd, if_neg (by omega)]
  by_cases hk : k = 1 ∨ (k = 3 ∧ l.length = 0)
  · rw [if_pos hk]
    have hn : (-1073741824 ≤ n ∧ n ≤ 1073741823) ∧ l.length = 0 ∧ (k = 1 → s = ⟨#[]⟩) := by
      unfold Wd.may at hmay
      rcases hk with rfl | ⟨rfl, hl⟩
      · simp at hmay
        exact ⟨by omega, by simp [hmay.2.2.2], fun _ => empty_of_toList hmay.2.2.1⟩
      · simp at hmay
        exact ⟨by omega, hl, fun e => by omega⟩
    obtain ⟨hn, hl, hse⟩ := hn
    obtain rfl := List.length_eq_zero_iff.1 hl
    rw [Wd.of_odd n hn, if_pos rfl]
    have hp : (Tr.mk k n s []).plain = .mk 1 n ⟨#[]⟩ [] := by
      rcases hk with rfl | ⟨rfl, _⟩
      · rw [Tr.plain, if_neg (by decide), hse rfl]; rfl
      · rw [Tr.plain, if_pos ⟨rfl, rfl⟩]
    rw [hp, Tr.size, if_pos hk]
    simp [Tr.count, Tr.counts]
  · rw [if_neg hk]
    rw [Wd.of_place a (by omega), if_neg (by simp), if_neg (by simpa using ha)]
    rw [Tr.words, if_neg hk] at hls
    have hget : ∀ (h : Int) (W : List Int), ls = pre ++ (h :: W) ++ post → ls[pre.length]? = some h ∧ ls.drop (pre.length + 1) = W ++ post := by
      intro h W e
      subst e
      refine ⟨by simp, ?_⟩
      rw [List.append_assoc, List.cons_append, List.drop_append, List.drop_eq_nil_of_le (by omega), show pre.length + 1 - pre.length = 1 by omega]
      rfl
    by_cases hk2 : k = 2
    · subst hk2
      rw [if_pos rfl] at hls
      have hs : s.size ≤ 4096 ∧ n = 0 ∧ l.length = 0 := by unfold Wd.may at hmay; simp at hmay; exact ⟨by omega, hmay.1, by simp [hmay.2.2]⟩
      obtain ⟨hs, rfl, hl⟩ := hs
      obtain rfl := List.length_eq_zero_iff.1 hl
      obtain ⟨g1, g2⟩ := hget _ _ hls
      have hok := Wd.head_text s.size hs
      rw [g1]
      simp only
      unfold Wd.rdBody
      rw [Wd.unhead_head hok, Wd.words_head hok, if_pos rfl]
      have hlen := congrArg List.length hls
      simp only [List.length_append, List.length_cons, Wd.tw_length] at hlen
      have hwn : (1 + ((s.size : Int) + 3) / 4).toNat = 1 + (s.size + 3) / 4 := by omega
      simp only [hwn]
      rw [if_neg (by simp; omega), if_pos trivial, g2, show 1 + (s.size + 3) / 4 - 1 = (s.size + 3) / 4 by omega, List.take_append_of_le_length (by rw [Wd.tw_length]; exact Nat.le_refl _), List.take_of_length_le (by rw [Wd.tw_length]; exact Nat.le_refl _)]
      unfold Wd.rdText
      have hbl : (Wd.byt s).length = s.size := Wd.byt_length s
      rw [Wd.bys_tw _ (Wd.byt_byt s) _ (by omega), Int.toNat_natCast, List.take_append_of_le_length (by omega), List.take_of_length_le (by omega), List.drop_append_of_le_length (by omega), List.drop_eq_nil_of_le (by omega), str_byt]
      rw [if_pos (by simp)]
      have hp : (Tr.mk 2 0 s []).plain = .mk 2 0 s [] := by rw [Tr.plain, if_neg (by decide)]; rfl
      rw [hp, Tr.size, if_neg (by decide), if_pos rfl]
      simp [Tr.count, Tr.counts]
    · rw [if_neg hk2] at hls
      have h34 : (k = 3 ∨ k = 4) ∧ 0 ≤ n ∧ n ≤ 65535 ∧ l.length ≤ 1024 ∧ s = ⟨#[]⟩ := by
        have h1 : k ≠ 1 := fun e => hk (.inl e)
        unfold Wd.may at hmay
        simp only [h1, hk2, if_false] at hmay
        split at hmay
        · simp at hmay; exact ⟨by assumption, hmay.1, hmay.2.1, hmay.2.2.2, empty_of_toList hmay.2.2.1⟩
        · cases hmay
      obtain ⟨hk34, hn0, hn1, hll, rfl⟩ := h34
      obtain ⟨g1, g2⟩ := hget _ _ hls
      have hok : Wd.headOk (if k = 4 then 1 else 0) n l.length := Wd.head_thing _ n l.length (by split <;> omega) hn0 hn1 hll
      rw [g1]
      simp only
      unfold Wd.rdBody
      rw [Wd.unhead_head hok, Wd.words_head hok, if_neg (show ¬ (if k = 4 then (1 : Int) else 0) = 2 by split <;> decide)]
      have hlen := congrArg List.length hls
      simp only [List.length_append, List.length_cons, Tr.owns_length, Tr.mores_length] at hlen
      have hwn : (1 + (l.length : Int)).toNat = 1 + l.length := by omega
      simp only [hwn]
      have hne : ¬ ((if k = 4 then (1 : Int) else 0) = 0 ∧ (l.length : Int) = 0) := by
        rintro ⟨h1, h2⟩
        split at h1
        · cases h1
        · exact hk (.inr ⟨by omega, by omega⟩)
      rw [if_neg (by
        rintro (h | h | h)
        · cases h
        · omega
        · exact hne h), if_neg (show ¬ (if k = 4 then (1 : Int) else 0) = 2 by split <;> decide), g2, show 1 + l.length - 1 = l.length by omega, List.append_assoc, List.take_append_of_le_length (by rw [Tr.owns_length]; exact Nat.le_refl _), List.take_of_length_le (by rw [Tr.owns_length]; exact Nat.le_refl _)]
      have hpl : (pre ++ ((Wd.head (if k = 4 then 1 else 0) n l.length).1 :: Tr.owns a (1 + l.length) l)).length = pre.length + (1 + l.length) := by
        simp only [List.length_append, List.length_cons, Tr.owns_length]; omega
      have hacc := Wd.rdAcc_words ls a0 g l (fun t ht pre post many => ih t ht g pre post many) [] (pre ++ ((Wd.head (if k = 4 then 1 else 0) n l.length).1 :: Tr.owns a (1 + l.length) l)) post a (1 + l.length) (many + 1) hfs (by omega) (by omega) (by rw [hpl, ha]; omega) (by rw [hls]; simp only [List.append_assoc, List.cons_append])
      rw [hpl] at hacc
      rw [hacc]
      have hp : (Tr.mk k n ⟨#[]⟩ l).plain = .mk k n ⟨#[]⟩ (Tr.plains l) := by rw [Tr.plain, if_neg (fun e => hk (.inr e))]
      rw [hp, Tr.size, if_neg hk, if_neg hk2]
      simp only [List.nil_append, Tr.count]
      have hkk : (if (if k = 4 then (1 : Int) else 0) = 1 then (4 : Int) else 3) = k := by rcases hk34 with rfl | rfl <;> rfl
      rw [hkk]
      congr 3 <;> omega

end Go.Proofs.Ytgohnekaolgblaa
