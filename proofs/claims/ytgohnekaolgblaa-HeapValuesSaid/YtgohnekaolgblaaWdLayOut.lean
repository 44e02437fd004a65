/- What stands laid of a thing while its fields are laid: plain. -/
import Derived.Test.YtgohnekaolgblaaWdLayAt
namespace Go.Proofs.Ytgohnekaolgblaa
open Go.RowKit

/-- What is laid behind i fields of l. -/
def Wd.out (xs : List Int) (hd a : Int) (l : List Tr) (i : Nat) : List Int :=
  xs ++ hd :: (Tr.owns a (1 + l.length) (l.take i) ++ (List.replicate (l.length - i) 0 ++ Tr.mores a (1 + l.length) (l.take i)))

theorem Wd.out_zero (xs : List Int) (hd a : Int) (l : List Tr) : Wd.out xs hd a l 0 = xs ++ [hd] ++ List.replicate l.length 0 := by
  simp [Wd.out, Tr.owns, Tr.mores]
theorem Wd.out_all (xs : List Int) (hd a : Int) (l : List Tr) : Wd.out xs hd a l l.length = xs ++ hd :: (Tr.owns a (1 + l.length) l ++ Tr.mores a (1 + l.length) l) := by
  simp [Wd.out, List.take_length]
theorem Wd.out_length (xs : List Int) (hd a : Int) (l : List Tr) (i : Nat) (hi : i ≤ l.length) : (Wd.out xs hd a l i).length = xs.length + 1 + l.length + Tr.sizes (l.take i) := by
  simp only [Wd.out, List.length_append, List.length_cons, Tr.owns_length, Tr.mores_length, List.length_replicate, List.length_take]
  omega
theorem Wd.out_step (xs : List Int) (hd a : Int) (l : List Tr) (i : Nat) (hi : i < l.length) (b : Int) (hb : b = (a + 4 * ((1 + l.length + Tr.sizes (l.take i) : Nat) : Int)) % 4294967296) :
    (Wd.out xs hd a l i ++ l[i].words b).set (xs.length + 1 + i) (l[i].word b) = Wd.out xs hd a l (i + 1) := by
  subst hb
  unfold Wd.out
  rw [Tr.owns_take _ _ _ _ hi, Tr.mores_take _ _ _ _ hi, show l.length - i = (l.length - (i + 1)) + 1 by omega, List.replicate_succ]
  rw [List.append_assoc, List.set_append_right _ _ (by omega), show xs.length + 1 + i - xs.length = i + 1 by omega, List.cons_append, List.set_cons_succ, List.append_assoc,
    List.set_append_right _ _ (by rw [Tr.owns_length, List.length_take]; omega), Tr.owns_length, List.length_take, show i - min i l.length = 0 by omega]
  simp only [List.cons_append, List.set_cons_zero, List.append_assoc, List.nil_append]

end Go.Proofs.Ytgohnekaolgblaa
