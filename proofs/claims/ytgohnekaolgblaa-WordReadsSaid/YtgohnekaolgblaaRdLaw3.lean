/- Words are read just if they are those of the value that is told: plain. -/
import Derived.Test.YtgohnekaolgblaaRdLaw2
namespace Go.Proofs.Ytgohnekaolgblaa
open Go.RowKit

theorem Wd.wv_pad (l : List Int) (z : Nat) : Wd.wv (l ++ List.replicate z 0) = Wd.wv l := by
  induction l with
  | nil =>
    induction z with
    | zero => rfl
    | succ z ih => simp only [List.nil_append, List.replicate_succ, Wd.wv] at ih ⊢; rw [ih]; rfl
  | cons x l ih => simp only [List.cons_append, Wd.wv, ih]
theorem Wd.bys_drop (l : List Int) (j : Nat) : (Wd.bys l).drop (4 * j) = Wd.bys (l.drop j) := by
  induction j generalizing l with
  | zero => simp
  | succ j ih =>
    cases l with
    | nil => simp [Wd.bys]
    | cons x l =>
      rw [List.drop_succ_cons, ← ih l, show 4 * (j + 1) = 4 * j + 4 by omega]
      simp only [Wd.bys, Wd.b4]
      rfl
theorem Wd.wv_b4 (x : Int) (h : 0 ≤ x ∧ x < 4294967296) : Wd.wv (Wd.b4 x) = x := by
  simp only [Wd.b4, Wd.wv]
  omega
theorem Wd.tw_bys (own : List Int) (hr : ∀ x ∈ own, 0 ≤ x ∧ x < 4294967296) (size : Nat) (hz : ((Wd.bys own).drop size).all (fun x => x == 0) = true) : Wd.tw ((Wd.bys own).take size) own.length = own := by
  have hrep : (Wd.bys own).drop size = List.replicate ((Wd.bys own).drop size).length 0 := by
    apply List.eq_replicate_of_mem
    intro x hx
    simpa using List.all_eq_true.1 hz x hx
  apply List.ext_getElem?
  intro j
  by_cases hj : j < own.length
  · rw [Wd.tw_get _ _ _ hj, List.getElem?_eq_getElem hj]
    congr 1
    have h1 : Wd.wv (((Wd.bys own).drop (4 * j)).take 4) = own[j] := by
      rw [Wd.bys_drop, List.drop_eq_getElem_cons hj]
      simp only [Wd.bys]
      rw [List.take_append_of_le_length (by simp [Wd.b4]), List.take_of_length_le (by simp [Wd.b4]), Wd.wv_b4 _ (hr _ (List.getElem_mem hj))]
    rw [← h1]
    conv => rhs; rw [← List.take_append_drop size (Wd.bys own), hrep]
    rw [List.drop_append, List.take_append, List.drop_replicate, List.take_replicate, Wd.wv_pad]
  · rw [List.getElem?_eq_none (by rw [Wd.tw_length]; omega), List.getElem?_eq_none (by omega)]

theorem byt_str (xs : List Int) (h : Byt xs) : Wd.byt (str xs) = xs := by
  simp only [Wd.byt, str, List.map_map]
  conv => rhs; rw [← List.map_id xs]
  refine List.map_congr_left fun x hx => ?_
  have := h x hx
  simp only [Function.comp, id]
  rw [byte_back this]
  omega

theorem Wd.of_back (u n : Int) (hu : 0 ≤ u ∧ u < 4294967296) (h : Wd.of u = (n, true)) : Wd.odd n = u ∧ -1073741824 ≤ n ∧ n ≤ 1073741823 := by
  unfold Wd.of at h
  split at h
  · cases h
  · simp only [Prod.mk.injEq, and_true] at h
    unfold Wd.odd
    split at h <;> omega

/-- What is told of words. -/
structure Told (ls : List Int) (a : Int) (g : Nat) (u : Int) (next many : Nat) (t : Tr) (nx m : Nat) : Prop where
  hfine : t.fine = true
  hplain : t.plain = t
  hdeep : t.deep ≤ g
  eword : u = t.word ((a + 4 * (next : Int)) % 4294967296)
  enx : nx = next + t.size
  em : m = many + t.count
  le : nx ≤ ls.length
  ewords : (ls.drop next).take t.size = t.words ((a + 4 * (next : Int)) % 4294967296)

/-- .. and of more, one behind the other. -/
theorem Wd.rdAcc_told (ls : List Int) (a : Int) (g : Nat) (IH : ∀ (u : Int) (next many : Nat) (t : Tr) (nx m : Nat), (0 ≤ u ∧ u < 4294967296) → next ≤ ls.length → Wd.rd ls a g u next many = some (t, nx, m) → Told ls a g u next many t nx m) :
    ∀ (us : List Int) (acc : List Tr) (next many : Nat) (ts : List Tr) (nx m : Nat) (a' : Int) (p : Nat), (∀ x ∈ us, 0 ≤ x ∧ x < 4294967296) → next ≤ ls.length → (a' + 4 * (p : Int)) % 4294967296 = (a + 4 * (next : Int)) % 4294967296 → Wd.rdAcc (fun u n m => Wd.rd ls a g u n m) us acc next many = some (ts, nx, m) →
      ∃ l, ts = acc ++ l ∧ l.length = us.length ∧ Tr.fines l = true ∧ Tr.plains l = l ∧ Tr.deeps l ≤ g ∧ us = Tr.owns a' p l ∧ nx = next + Tr.sizes l ∧ m = many + Tr.counts l ∧ nx ≤ ls.length ∧ (ls.drop next).take (Tr.sizes l) = Tr.mores a' p l := by
  intro us
  induction us with
  | nil =>
    intro acc next many ts nx m a' p _ hn _ h
    simp only [Wd.rdAcc, Option.some.injEq, Prod.mk.injEq] at h
    obtain ⟨rfl, rfl, rfl⟩ := h
    exact ⟨[], by simp, rfl, rfl, rfl, by simp [Tr.deeps], rfl, by simp [Tr.sizes], by simp [Tr.counts], hn, by simp [Tr.sizes, Tr.mores]⟩
  | cons u us ih =>
    intro acc next many ts nx m a' p hu hn ha h
    simp only [Wd.rdAcc] at h
    split at h
    · cases h
    · rename_i t n1 m1 h1
      have T := IH u next many t n1 m1 (hu u (by simp)) hn h1
      have hn1 := T.enx
      obtain ⟨l, h2, h3, h4, h5, h6, h7, h8, h9, h10, h11⟩ := ih (acc ++ [t]) n1 m1 ts nx m a' (p + t.size) (fun x hx => hu x (by simp [hx])) T.le (by rw [hn1]; omega) h
      refine ⟨t :: l, by rw [h2]; simp, by simp [h3], by simp [Tr.fines, T.hfine, h4], by simp [Tr.plains, T.hplain, h5], ?_, ?_, ?_, ?_, h10, ?_⟩
      · simp only [Tr.deeps]; have := T.hdeep; omega
      · simp only [Tr.owns]; rw [← h7, ha, ← T.eword]
      · simp only [Tr.sizes]; omega
      · simp only [Tr.counts]; have := T.em; omega
      · simp only [Tr.sizes, Tr.mores]
        rw [List.take_add, T.ewords, ha, List.drop_drop, ← h11, hn1]

end Go.Proofs.Ytgohnekaolgblaa
