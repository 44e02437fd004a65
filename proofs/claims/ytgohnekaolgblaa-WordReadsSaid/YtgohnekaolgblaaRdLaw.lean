/- What is laid of a value is read as it was: plain. -/
import Derived.Test.YtgohnekaolgblaaRdBound
import Derived.Test.YtgohnekaolgblaaTrCopy
namespace Go.Proofs.Ytgohnekaolgblaa
open Go.RowKit

theorem Wd.of_odd (n : Int) (h : -1073741824 ≤ n ∧ n ≤ 1073741823) : Wd.of (Wd.odd n) = (n, true) := by
  unfold Wd.of Wd.odd
  rw [if_neg (by omega)]
  split
  · congr 1; omega
  · congr 1; omega
theorem Wd.of_place (u : Int) (h : u % 2 = 0) : Wd.of u = (0, false) := by unfold Wd.of; rw [if_pos h]

theorem str_byt (s : ByteArray) : str (Wd.byt s) = s := by
  obtain ⟨⟨l⟩⟩ := s
  simp only [str, Wd.byt, List.map_map, ByteArray.mk.injEq]
  congr 1
  conv => rhs; rw [← List.map_id l]
  refine List.map_congr_left fun b _ => ?_
  simp
theorem empty_of_toList {s : ByteArray} (h : s.toList = []) : s = ⟨#[]⟩ := by
  rw [ByteArray.toList_eq] at h
  obtain ⟨⟨l⟩⟩ := s
  simp only at h
  rw [h]

/-- The bytes of a word that holds some. -/
theorem Wd.wv_byte (l : List Int) (hl : Byt l) (h4 : l.length ≤ 4) (j : Nat) (hj : j < 4) : Wd.wv l / 256 ^ j % 256 = l.getD j 0 := by
  match l, h4 with
  | [], _ => rcases (show j = 0 ∨ j = 1 ∨ j = 2 ∨ j = 3 by omega) with rfl | rfl | rfl | rfl <;> simp [Wd.wv]
  | [a], _ =>
    have h1 := hl a (by simp)
    rcases (show j = 0 ∨ j = 1 ∨ j = 2 ∨ j = 3 by omega) with rfl | rfl | rfl | rfl <;> simp [Wd.wv] <;> omega
  | [a, b], _ =>
    have h1 := hl a (by simp)
    have h2 := hl b (by simp)
    rcases (show j = 0 ∨ j = 1 ∨ j = 2 ∨ j = 3 by omega) with rfl | rfl | rfl | rfl <;> simp [Wd.wv] <;> omega
  | [a, b, c], _ =>
    have h1 := hl a (by simp)
    have h2 := hl b (by simp)
    have h3 := hl c (by simp)
    rcases (show j = 0 ∨ j = 1 ∨ j = 2 ∨ j = 3 by omega) with rfl | rfl | rfl | rfl <;> simp [Wd.wv] <;> omega
  | [a, b, c, d], _ =>
    have h1 := hl a (by simp)
    have h2 := hl b (by simp)
    have h3 := hl c (by simp)
    have h4 := hl d (by simp)
    rcases (show j = 0 ∨ j = 1 ∨ j = 2 ∨ j = 3 by omega) with rfl | rfl | rfl | rfl <;> simp [Wd.wv] <;> omega
  | a :: b :: c :: d :: e :: l, h4 => simp at h4

theorem Wd.bys_tw (bs : List Int) (hb : Byt bs) (m : Nat) (hm : bs.length ≤ 4 * m) : Wd.bys (Wd.tw bs m) = bs ++ List.replicate (4 * m - bs.length) 0 := by
  apply List.ext_getElem?
  intro i
  by_cases hi : i < 4 * m
  · have hl : i < 4 * (Wd.tw bs m).length := by rw [Wd.tw_length]; exact hi
    rw [Wd.bys_get _ _ hl]
    have hg : (Wd.tw bs m)[i / 4]'(by omega) = Wd.wv ((bs.drop (4 * (i / 4))).take 4) := by
      apply Option.some.inj
      rw [← List.getElem?_eq_getElem, Wd.tw_get _ _ _ (by omega)]
    rw [hg, Wd.wv_byte _ (fun n hn => hb n (List.mem_of_mem_drop (List.mem_of_mem_take hn))) (by simp; omega) _ (Nat.mod_lt _ (by decide))]
    congr 1
    by_cases hib : i < bs.length
    · rw [List.getElem?_append_left hib, List.getElem?_eq_getElem hib]
      congr 1
      rw [List.getD_eq_getElem?_getD, List.getElem?_take, if_pos (Nat.mod_lt _ (by decide)), List.getElem?_drop, show 4 * (i / 4) + i % 4 = i by omega, List.getElem?_eq_getElem hib]
      rfl
    · rw [List.getElem?_append_right (by omega), List.getElem?_replicate, if_pos (by omega)]
      congr 1
      rw [List.getD_eq_getElem?_getD, List.getElem?_take, if_pos (Nat.mod_lt _ (by decide)), List.getElem?_drop, show 4 * (i / 4) + i % 4 = i by omega, List.getElem?_eq_none (by omega)]
      rfl
  · rw [List.getElem?_eq_none (by rw [Wd.bys_length, Wd.tw_length]; omega), List.getElem?_eq_none (by simp; omega)]

end Go.Proofs.Ytgohnekaolgblaa
