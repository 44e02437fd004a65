/- Which value words are: plain. -/
import Derived.Test.YtgohnekaolgblaaWdLayPlain
namespace Go.Proofs.Ytgohnekaolgblaa
open Go.RowKit

def Wd.b4 (x : Int) : List Int := [x % 256, x / 256 % 256, x / 65536 % 256, x / 16777216 % 256]
/-- The bytes of words. -/
def Wd.bys : List Int → List Int
  | [] => []
  | x :: l => Wd.b4 x ++ Wd.bys l
/-- Trees of words, one behind the other. -/
def Wd.rdAcc (f : Int → Nat → Nat → Option (Tr × Nat × Nat)) : List Int → List Tr → Nat → Nat → Option (List Tr × Nat × Nat)
  | [], acc, n, m => some (acc, n, m)
  | u :: us, acc, n, m => match f u n m with
    | none => none
    | some (t, n', m') => Wd.rdAcc f us (acc ++ [t]) n' m'
/-- A text of words. -/
def Wd.rdText (own : List Int) (size next many : Nat) : Option (Tr × Nat × Nat) :=
  if ((Wd.bys own).drop size).all (fun x => x == 0) then some (.mk 2 0 (str ((Wd.bys own).take size)) [], next, many) else none
/-- What stands behind a head. -/
def Wd.rdBody (f : Int → Nat → Nat → Option (Tr × Nat × Nat)) (ls : List Int) (next many : Nat) (h : Int) : Option (Tr × Nat × Nat) :=
  if (Wd.unhead h).2.2.2 = false ∨ ls.length < next + (Wd.words h).1.toNat ∨ ((Wd.unhead h).1 = 0 ∧ (Wd.unhead h).2.2.1 = 0) then none
  else if (Wd.unhead h).1 = 2 then Wd.rdText ((ls.drop (next + 1)).take ((Wd.words h).1.toNat - 1)) (Wd.unhead h).2.2.1.toNat (next + (Wd.words h).1.toNat) many
  else match Wd.rdAcc f ((ls.drop (next + 1)).take ((Wd.words h).1.toNat - 1)) [] (next + (Wd.words h).1.toNat) many with
    | none => none
    | some (ts, n, m) => some (.mk (if (Wd.unhead h).1 = 1 then 4 else 3) (Wd.unhead h).2.1 ⟨#[]⟩ ts, n, m)
/-- The value of a word, whose words are laid from a place on; so many levels are left. -/
def Wd.rd (ls : List Int) (a : Int) : Nat → Int → Nat → Nat → Option (Tr × Nat × Nat)
  | 0, _, _, _ => none
  | g + 1, u, next, many =>
    if 16384 ≤ many then none
    else if (Wd.of u).2 = true then some (.mk 1 (Wd.of u).1 ⟨#[]⟩ [], next, many + 1)
    else if u ≠ (a + 4 * next) % 4294967296 then none
    else match ls[next]? with
      | none => none
      | some h => Wd.rdBody (fun u n m => Wd.rd ls a g u n m) ls next (many + 1) h

theorem Wd.bys_length (l : List Int) : (Wd.bys l).length = 4 * l.length := by
  induction l with
  | nil => rfl
  | cons x l ih => simp only [Wd.bys, Wd.b4, List.length_append, List.length_cons, List.length_nil, ih]; omega
theorem Wd.bys_get (l : List Int) (i : Nat) (h : i < 4 * l.length) : (Wd.bys l)[i]? = some ((l[i / 4]'(by omega)) / 256 ^ (i % 4) % 256) := by
  induction l generalizing i with
  | nil => simp at h
  | cons x l ih =>
    by_cases hi : i < 4
    · rcases (show i = 0 ∨ i = 1 ∨ i = 2 ∨ i = 3 by omega) with rfl | rfl | rfl | rfl <;> simp [Wd.bys, Wd.b4]
    · obtain ⟨j, rfl⟩ : ∃ j, i = j + 4 := ⟨i - 4, by omega⟩
      simp only [List.length_cons] at h
      have e1 : (j + 4) / 4 = j / 4 + 1 := by omega
      have e2 : (j + 4) % 4 = j % 4 := by omega
      simp only [Wd.bys, e1, e2, List.getElem_cons_succ]
      rw [List.getElem?_append_right (by simp [Wd.b4]), show (Wd.b4 x).length = 4 from rfl, Nat.add_sub_cancel]
      exact ih j (by omega)
theorem Wd.bys_byt (l : List Int) : Byt (Wd.bys l) := by
  induction l with
  | nil => intro n hn; cases hn
  | cons x l ih =>
    refine Byt.append ?_ ih
    intro n hn
    simp only [Wd.b4, List.mem_cons, List.not_mem_nil, or_false] at hn
    rcases hn with rfl | rfl | rfl | rfl <;> omega

end Go.Proofs.Ytgohnekaolgblaa
