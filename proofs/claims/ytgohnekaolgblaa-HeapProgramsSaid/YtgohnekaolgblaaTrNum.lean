/- Trees: how many, how deep, which may be; their words; reading words: plain. -/
import Derived.Test.YtgohnekaolgblaaWdMay
import Derived.Test.YtgohnekaolgblaaWdUn
namespace Go.Proofs.Ytgohnekaolgblaa
open Go.RowKit

/-- The cells of trees that lie one behind the other, by what they hold. -/
theorem Tr.ats_cells {S : Nat → Nat → Prop} {w : World} {b : Nat} {l : List Tr} {off : Nat} (h : Tr.ats S w l b off) (i : Nat) (hi : i < l.length) :
    ∃ A cap, w.cell? ⟨b, off + i * 4, none⟩ = some (.int .i64 l[i].k) ∧ w.cell? ⟨b, off + i * 4 + 1, none⟩ = some (.int .i64 l[i].n) ∧ w.cell? ⟨b, off + i * 4 + 2, none⟩ = some (.string l[i].s) ∧ w.cell? ⟨b, off + i * 4 + 3, none⟩ = some (.slice A l[i].l.length cap) ∧ l[i].l.length ≤ cap ∧ cap ≤ maxLen ∧ Tr.at S w l[i] (.agg #[.int .i64 l[i].k, .int .i64 l[i].n, .string l[i].s, .slice A l[i].l.length cap]) := by
  obtain ⟨v0, v1, v2, v3, c0, c1, c2, c3, ht⟩ := Tr.ats_get h i hi
  obtain ⟨A, cap, he, h1, h2, _⟩ := Tr.at_agg ht
  have he' := he
  simp only [Value.agg.injEq, Array.mk.injEq, List.cons.injEq, and_true] at he
  obtain ⟨rfl, rfl, rfl, rfl⟩ := he
  exact ⟨A, cap, c0, c1, c2, c3, h1, h2, ht⟩

mutual
def Tr.count : Tr → Nat
  | .mk _ _ _ l => Tr.counts l + 1
def Tr.counts : List Tr → Nat
  | [] => 0
  | t :: l => t.count + Tr.counts l
end
mutual
def Tr.deep : Tr → Nat
  | .mk _ _ _ l => Tr.deeps l + 1
def Tr.deeps : List Tr → Nat
  | [] => 0
  | t :: l => max t.deep (Tr.deeps l)
end
mutual
def Tr.fine : Tr → Bool
  | .mk k n s l => Wd.may k n s l.length && Tr.fines l
def Tr.fines : List Tr → Bool
  | [] => true
  | t :: l => t.fine && Tr.fines l
end

theorem Tr.counts_take (l : List Tr) (i : Nat) (h : i < l.length) : Tr.counts (l.take (i + 1)) = Tr.counts (l.take i) + l[i].count := by
  induction l generalizing i with
  | nil => simp at h
  | cons x l ih =>
    cases i with
    | zero => simp [Tr.counts]
    | succ i =>
      simp only [List.take_succ_cons, Tr.counts, List.getElem_cons_succ]
      rw [ih i (by simpa using h)]; omega
theorem Tr.deeps_take (l : List Tr) (i : Nat) (h : i < l.length) : Tr.deeps (l.take (i + 1)) = max (Tr.deeps (l.take i)) l[i].deep := by
  induction l generalizing i with
  | nil => simp at h
  | cons x l ih =>
    cases i with
    | zero => simp [Tr.deeps]
    | succ i =>
      simp only [List.take_succ_cons, Tr.deeps, List.getElem_cons_succ]
      rw [ih i (by simpa using h)]; omega
theorem Tr.fines_take (l : List Tr) (i : Nat) (h : i < l.length) : Tr.fines (l.take (i + 1)) = (Tr.fines (l.take i) && l[i].fine) := by
  induction l generalizing i with
  | nil => simp at h
  | cons x l ih =>
    cases i with
    | zero => simp [Tr.fines]
    | succ i =>
      simp only [List.take_succ_cons, Tr.fines, List.getElem_cons_succ]
      rw [ih i (by simpa using h), Bool.and_assoc]
theorem Tr.counts_le (l : List Tr) (i : Nat) : Tr.counts (l.take i) ≤ Tr.counts l := by
  induction l generalizing i with
  | nil => simp
  | cons x l ih =>
    cases i with
    | zero => simp [Tr.counts]
    | succ i =>
      simp only [List.take_succ_cons, Tr.counts]
      have := ih i; omega
theorem Tr.deeps_le (l : List Tr) (i : Nat) : Tr.deeps (l.take i) ≤ Tr.deeps l := by
  induction l generalizing i with
  | nil => simp
  | cons x l ih =>
    cases i with
    | zero => simp [Tr.deeps]
    | succ i =>
      simp only [List.take_succ_cons, Tr.deeps]
      have := ih i; omega


/-- The number of bytes. -/
def Wd.wv : List Int → Int
  | [] => 0
  | b :: l => b + 256 * Wd.wv l
/-- So many words of bytes, noughts behind. -/
def Wd.tw (bs : List Int) (m : Nat) : List Int := (List.range m).map fun j => Wd.wv ((bs.drop (4 * j)).take 4)
/-- A text's bytes. -/
def Wd.byt (s : ByteArray) : List Int := s.data.toList.map fun b => (b.toNat : Int)

mutual
/-- How many words a tree has. -/
def Tr.size : Tr → Nat
  | .mk k _ s l => if k = 1 ∨ (k = 3 ∧ l.length = 0) then 0 else if k = 2 then 1 + (s.size + 3) / 4 else 1 + l.length + Tr.sizes l
def Tr.sizes : List Tr → Nat
  | [] => 0
  | t :: l => t.size + Tr.sizes l
end
/-- A tree's own word. -/
def Tr.word (a : Int) (t : Tr) : Int := if t.k = 1 ∨ (t.k = 3 ∧ t.l.length = 0) then Wd.odd t.n else a
/-- The words of trees that stand so many words behind an address. -/
def Tr.owns (a : Int) : Nat → List Tr → List Int
  | _, [] => []
  | p, t :: l => t.word ((a + 4 * p) % 4294967296) :: Tr.owns a (p + t.size) l
mutual
/-- What is laid of a tree. -/
def Tr.words (a : Int) : Tr → List Int
  | .mk k n s l => if k = 1 ∨ (k = 3 ∧ l.length = 0) then [] else if k = 2 then (Wd.head 2 0 s.size).1 :: Wd.tw (Wd.byt s) ((s.size + 3) / 4)
    else (Wd.head (if k = 4 then 1 else 0) n l.length).1 :: (Tr.owns a (1 + l.length) l ++ Tr.mores a (1 + l.length) l)
def Tr.mores (a : Int) : Nat → List Tr → List Int
  | _, [] => []
  | p, t :: l => t.words ((a + 4 * p) % 4294967296) ++ Tr.mores a (p + t.size) l
end

theorem Tr.owns_length (a : Int) (p : Nat) (l : List Tr) : (Tr.owns a p l).length = l.length := by
  induction l generalizing p with
  | nil => rfl
  | cons t l ih => simp [Tr.owns, ih]
theorem Wd.tw_length (bs : List Int) (m : Nat) : (Wd.tw bs m).length = m := by simp [Wd.tw]
theorem Tr.words_length (t : Tr) : ∀ a, (t.words a).length = t.size := by
  induction t using Tr.ind
  rename_i k n s l ih
  intro a
  have hm : ∀ l' p, (∀ t ∈ l', t ∈ l) → (Tr.mores a p l').length = Tr.sizes l' := by
    intro l'
    induction l' with
    | nil => intro p _; rfl
    | cons t l' ih' =>
      intro p hs
      simp only [Tr.mores, Tr.sizes, List.length_append]
      rw [ih t (hs t (by simp)), ih' _ (fun x hx => hs x (by simp [hx]))]
  simp only [Tr.words, Tr.size]
  split
  · rfl
  · split
    · simp only [List.length_cons, Wd.tw_length]; omega
    · simp only [List.length_cons, List.length_append, Tr.owns_length, hm l _ (fun _ h => h)]; omega
theorem Tr.mores_length (a : Int) (p : Nat) (l : List Tr) : (Tr.mores a p l).length = Tr.sizes l := by
  induction l generalizing p with
  | nil => rfl
  | cons t l ih => simp only [Tr.mores, Tr.sizes, List.length_append, Tr.words_length, ih]
theorem Tr.sizes_take (l : List Tr) (i : Nat) (h : i < l.length) : Tr.sizes (l.take (i + 1)) = Tr.sizes (l.take i) + l[i].size := by
  induction l generalizing i with
  | nil => simp at h
  | cons x l ih =>
    cases i with
    | zero => simp [Tr.sizes]
    | succ i =>
      simp only [List.take_succ_cons, Tr.sizes, List.getElem_cons_succ]
      rw [ih i (by simpa using h)]; omega
theorem Tr.owns_take (a : Int) (p : Nat) (l : List Tr) (i : Nat) (h : i < l.length) : Tr.owns a p (l.take (i + 1)) = Tr.owns a p (l.take i) ++ [l[i].word ((a + 4 * (p + Tr.sizes (l.take i) : Nat)) % 4294967296)] := by
  induction l generalizing i p with
  | nil => simp at h
  | cons x l ih =>
    cases i with
    | zero => simp [Tr.owns, Tr.sizes]
    | succ i =>
      simp only [List.take_succ_cons, Tr.owns, Tr.sizes, List.getElem_cons_succ, List.cons_append]
      rw [ih _ i (by simpa using h)]
      simp only [Nat.add_assoc]
theorem Tr.mores_take (a : Int) (p : Nat) (l : List Tr) (i : Nat) (h : i < l.length) : Tr.mores a p (l.take (i + 1)) = Tr.mores a p (l.take i) ++ l[i].words ((a + 4 * (p + Tr.sizes (l.take i) : Nat)) % 4294967296) := by
  induction l generalizing i p with
  | nil => simp at h
  | cons x l ih =>
    cases i with
    | zero => simp [Tr.mores, Tr.sizes]
    | succ i =>
      simp only [List.take_succ_cons, Tr.mores, Tr.sizes, List.getElem_cons_succ, List.append_assoc]
      rw [ih _ i (by simpa using h)]
      simp only [Nat.add_assoc]
theorem Tr.sizes_le (l : List Tr) (i : Nat) : Tr.sizes (l.take i) ≤ Tr.sizes l := by
  induction l generalizing i with
  | nil => simp
  | cons x l ih =>
    cases i with
    | zero => simp [Tr.sizes]
    | succ i =>
      simp only [List.take_succ_cons, Tr.sizes]
      have := ih i; omega
/-- A tree that may be has not many words. -/
theorem Tr.size_le (t : Tr) : t.fine = true → t.size ≤ 1026 * t.count := by
  induction t using Tr.ind
  rename_i k n s l ih
  intro hf
  simp only [Tr.fine, Bool.and_eq_true] at hf
  have hs : ∀ l', (∀ t ∈ l', t ∈ l) → Tr.fines l' = true → Tr.sizes l' ≤ 1026 * Tr.counts l' := by
    intro l'
    induction l' with
    | nil => intro _ _; simp [Tr.sizes]
    | cons t l' ih' =>
      intro hm hf'
      simp only [Tr.fines, Bool.and_eq_true] at hf'
      simp only [Tr.sizes, Tr.counts]
      have h1 := ih t (hm t (by simp)) hf'.1
      have h2 := ih' (fun x hx => hm x (by simp [hx])) hf'.2
      omega
  have h2 := hs l (fun _ h => h) hf.2
  have h1 := hf.1
  simp only [Tr.size, Tr.count]
  unfold Wd.may at h1
  split
  · omega
  · rename_i hk
    split
    · subst k; simp at h1; omega
    · rename_i hk2
      have : l.length ≤ 1024 := by
        have e1 : k ≠ 1 := fun e => hk (.inl e)
        simp only [e1, hk2, if_false] at h1
        split at h1
        · simp at h1; exact h1.2.2.2
        · cases h1
      omega

end Go.Proofs.Ytgohnekaolgblaa
