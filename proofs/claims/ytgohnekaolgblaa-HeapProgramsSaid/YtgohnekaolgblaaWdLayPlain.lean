/- The words of a text, byte by byte; heads and what they say: plain. -/
import Derived.Test.YtgohnekaolgblaaTrNum
namespace Go.Proofs.Ytgohnekaolgblaa
open Go.RowKit

theorem Wd.wv_append (l : List Int) (b : Int) : Wd.wv (l ++ [b]) = Wd.wv l + b * 256 ^ l.length := by
  induction l with
  | nil => simp [Wd.wv]
  | cons x l ih =>
    simp only [List.cons_append, Wd.wv, ih, List.length_cons, Int.pow_succ, Int.mul_add]
    rw [show b * (256 ^ l.length * 256) = 256 * (b * 256 ^ l.length) by rw [Int.mul_comm (256 ^ l.length) 256, Int.mul_left_comm]]
    omega
theorem Wd.wv_lt (l : List Int) (h : Byt l) : 0 ≤ Wd.wv l ∧ Wd.wv l < 256 ^ l.length := by
  induction l with
  | nil => simp [Wd.wv]
  | cons x l ih =>
    have h1 := h x (by simp)
    have h2 := ih (fun n hn => h n (by simp [hn]))
    simp only [Wd.wv, List.length_cons, Int.pow_succ]
    omega
theorem Wd.tw_nil (m : Nat) : Wd.tw [] m = List.replicate m 0 := by
  apply List.ext_getElem?
  intro i
  by_cases hi : i < m <;> simp [Wd.tw, Wd.wv, hi]
theorem Wd.byt_byt (s : ByteArray) : Byt (Wd.byt s) := by
  intro n hn
  obtain ⟨b, _, rfl⟩ := List.mem_map.1 hn
  have := b.toNat_lt
  omega
theorem Wd.byt_length (s : ByteArray) : (Wd.byt s).length = s.size := by unfold Wd.byt; rw [List.length_map]; rfl

theorem Wd.tw_get (bs : List Int) (m j : Nat) (h : j < m) : (Wd.tw bs m)[j]? = some (Wd.wv ((bs.drop (4 * j)).take 4)) := by simp [Wd.tw, h]
/-- One more byte. -/
theorem Wd.tw_step (bs : List Int) (m i : Nat) (hi : i < bs.length) (_hm : i / 4 < m) :
    Wd.tw (bs.take (i + 1)) m = (Wd.tw (bs.take i) m).set (i / 4) (Wd.wv (((bs.take i).drop (4 * (i / 4))).take 4) + bs[i] * 256 ^ (i % 4)) := by
  apply List.ext_getElem?
  intro j
  by_cases hj : j < m
  · rw [Wd.tw_get _ _ _ hj]
    by_cases he : j = i / 4
    · subst he
      rw [List.getElem?_set_self (by simp [Wd.tw_length, hj]), Option.some.injEq, List.take_add_one (l := bs), List.getElem?_eq_getElem hi, Option.toList_some, List.drop_append_of_le_length (by simp; omega)]
      have hl : ((bs.take i).drop (4 * (i / 4))).length = i % 4 := by simp; omega
      generalize (bs.take i).drop (4 * (i / 4)) = L at hl ⊢
      rw [List.take_of_length_le (by simp only [List.length_append, hl, List.length_singleton]; omega), Wd.wv_append, hl, List.take_of_length_le (l := L) (by rw [hl]; omega)]
    · rw [List.getElem?_set_ne (by omega), Wd.tw_get _ _ _ hj, Option.some.injEq]
      congr 1
      rw [List.drop_take, List.drop_take, List.take_take, List.take_take]
      congr 1
      omega
  · rw [List.getElem?_eq_none (by simp [Wd.tw_length]; omega), List.getElem?_eq_none (by simp [Wd.tw_length]; omega)]
theorem Wd.pow_mod (i : Nat) : (256 : Int) ^ (i % 4) = if i % 4 = 0 then 1 else if i % 4 = 1 then 256 else if i % 4 = 2 then 65536 else 16777216 := by
  have : i % 4 < 4 := Nat.mod_lt _ (by decide)
  rcases (show i % 4 = 0 ∨ i % 4 = 1 ∨ i % 4 = 2 ∨ i % 4 = 3 by omega) with h | h | h | h <;> simp [h]

theorem Wd.unhead_head {k n s : Int} (h : Wd.headOk k n s) : Wd.unhead (Wd.head k n s).1 = (k, n, s, true) := by
  have hd := Wd.head_yes h
  have hm : s ≤ 4096 := by
    have := h.2.2.2.2.2.2
    unfold Wd.most at this
    split at this <;> omega
  obtain ⟨h0, h1, h2, h3, h4, h5, h6⟩ := h
  rw [hd]
  have e1 : (1 + 2 * k + 8 * s + 65536 * n) / 2 % 4 = k := by omega
  have e2 : (1 + 2 * k + 8 * s + 65536 * n) / 65536 = n := by omega
  have e3 : (1 + 2 * k + 8 * s + 65536 * n) / 8 % 8192 = s := by omega
  rw [Wd.unhead_yes (by rw [e1, e2, e3, hd]), e1, e2, e3]
theorem Wd.head_range {k n s : Int} (h : Wd.headOk k n s) : 0 ≤ (Wd.head k n s).1 ∧ (Wd.head k n s).1 < 4294967296 := by
  have hd := Wd.head_yes h
  have hm : s ≤ 4096 := by
    have := h.2.2.2.2.2.2
    unfold Wd.most at this
    split at this <;> omega
  obtain ⟨h0, h1, h2, h3, h4, h5, h6⟩ := h
  rw [hd]
  simp only
  omega
theorem Wd.words_head {k n s : Int} (h : Wd.headOk k n s) : Wd.words (Wd.head k n s).1 = (if k = 2 then 1 + (s + 3) / 4 else 1 + s, true) := by
  unfold Wd.words
  rw [Wd.unhead_head h]
  by_cases hk : k = 2 <;> simp [hk]
theorem Wd.head_text (s : Nat) (h : s ≤ 4096) : Wd.headOk 2 0 s := ⟨by omega, by omega, by omega, by omega, fun _ => rfl, by omega, by unfold Wd.most; simp; omega⟩
theorem Wd.head_thing (k n : Int) (c : Nat) (hk : k = 0 ∨ k = 1) (h0 : 0 ≤ n) (h1 : n ≤ 65535) (h : c ≤ 1024) : Wd.headOk k n c := ⟨by omega, by omega, by omega, by omega, fun e => by omega, by omega, by unfold Wd.most; rw [if_neg (by omega)]; omega⟩

end Go.Proofs.Ytgohnekaolgblaa
