/- What is moved, told word for word: plain. -/
import Derived.Test.YtgohnekaolgblaaHpG
namespace Go.Proofs.Ytgohnekaolgblaa

/-! ### the order -/
def Hp.vis (a : Int) (o : List Nat) (w : Int) : List Nat := if Hp.isAdr a w = true ∧ Hp.whole a w = true then (if Hp.idx a w ∈ o then o else o ++ [Hp.idx a w]) else o
def Hp.visAll (a : Int) (ws : List Int) (o : List Nat) : List Nat := ws.foldl (Hp.vis a) o
def Hp.ord (ls : List Int) (a : Int) : Nat → Nat → List Nat → List Nat
  | 0, _, o => o
  | g + 1, k, o => match o[k]? with
    | none => o
    | some i => Hp.ord ls a g (k + 1) (Hp.visAll a (Hp.fields ls i) o)
theorem Hp.word_ord (ls : List Int) (a to : Int) (o : List Nat) (out : List Int) (w : Int) : (Hp.word ls a to o out w).2.1 = Hp.vis a o w := by
  unfold Hp.word Hp.vis
  by_cases h : Hp.isAdr a w = true ∧ Hp.whole a w = true
  · rw [if_pos h, if_pos h]
    cases hp : Hp.pos ls o 0 (Hp.idx a w) with
    | some n =>
      simp only
      rw [if_pos]
      exact Decidable.byContradiction fun hn => by rw [(Hp.pos_none ls _ o 0).2 hn] at hp; cases hp
    | none =>
      simp only
      rw [if_neg ((Hp.pos_none ls _ o 0).1 hp)]
  · rw [if_neg h, if_neg h]
theorem Hp.roots_ord (ls : List Int) (a to : Int) : ∀ (ws : List Int) (o : List Nat) (out : List Int), (Hp.roots ls a to ws o out).2.1 = Hp.visAll a ws o := by
  intro ws
  induction ws with
  | nil => intro o out; rfl
  | cons w ws ih => intro o out; rw [Hp.roots]; simp only; rw [ih, Hp.word_ord]; rfl
theorem Hp.fill_ord (ls : List Int) (a to : Int) : ∀ (ws : List Int) (p : Nat) (o : List Nat) (out : List Int), (Hp.fill ls a to ws p o out).1 = Hp.visAll a ws o := by
  intro ws
  induction ws with
  | nil => intro p o out; rfl
  | cons w ws ih => intro p o out; exact (ih _ _ _).trans (by rw [Hp.word_ord]; rfl)
theorem Hp.scan_ord (ls : List Int) (a to : Int) : ∀ (g k : Nat) (o : List Nat) (out : List Int), (Hp.scan ls a to g k o out).1 = Hp.ord ls a g k o := by
  intro g
  induction g with
  | zero => intro k o out; rfl
  | succ g ih =>
    intro k o out
    rw [Hp.scan, Hp.ord]
    cases o[k]? with
    | none => rfl
    | some i => exact (ih _ _ _).trans (by rw [Hp.fill_ord])
theorem Hp.vis_pre (a : Int) (o : List Nat) (w : Int) : o <+: Hp.vis a o w := by
  unfold Hp.vis
  split
  · split
    · exact List.prefix_refl _
    · exact List.prefix_append _ _
  · exact List.prefix_refl _
theorem Hp.visAll_pre (a : Int) : ∀ (ws : List Int) (o : List Nat), o <+: Hp.visAll a ws o := by
  intro ws
  induction ws with
  | nil => intro o; exact List.prefix_refl _
  | cons w ws ih => intro o; exact (Hp.vis_pre a o w).trans (ih _)
theorem Hp.ord_pre (ls : List Int) (a : Int) : ∀ (g k : Nat) (o : List Nat), o <+: Hp.ord ls a g k o := by
  intro g
  induction g with
  | zero => intro k o; exact List.prefix_refl _
  | succ g ih =>
    intro k o
    rw [Hp.ord]
    cases o[k]? with
    | none => exact List.prefix_refl _
    | some i => exact (Hp.visAll_pre a _ o).trans (ih _ _)

/-! ### places -/
def Hp.q (ls : List Int) (o : List Nat) (k : Nat) : Nat := Hp.sum ls (o.take k)
theorem Hp.q_succ (ls : List Int) (o : List Nat) (k : Nat) (h : k < o.length) : Hp.q ls o (k + 1) = Hp.q ls o k + Hp.wnAt ls o[k] := by
  unfold Hp.q
  rw [List.take_add_one, List.getElem?_eq_getElem h]
  exact Hp.sum_snoc ls _ _
theorem Hp.q_mono (ls : List Int) (o : List Nat) (k j : Nat) (h : k < j) (hj : j ≤ o.length) : Hp.q ls o k + Hp.wnAt ls (o[k]'(by omega)) ≤ Hp.q ls o j := by
  induction j with
  | zero => omega
  | succ j ih =>
    rw [Hp.q_succ ls o j (by omega)]
    by_cases hk : k = j
    · subst hk; exact Nat.le_refl _
    · have := ih (by omega) (by omega)
      omega
theorem Hp.q_all (ls : List Int) (o : List Nat) : Hp.q ls o o.length = Hp.sum ls o := by unfold Hp.q; rw [List.take_length]
theorem Hp.q_inj {ls : List Int} {o : List Nat} {k k' j j' : Nat} (hk : k < o.length) (hk' : k' < o.length) (hj : j < Hp.wnAt ls o[k]) (hj' : j' < Hp.wnAt ls o[k']) (h : Hp.q ls o k + j = Hp.q ls o k' + j') : k = k' ∧ j = j' := by
  rcases Nat.lt_trichotomy k k' with h1 | h1 | h1
  · have := Hp.q_mono ls o k k' h1 (by omega); omega
  · subst h1; exact ⟨rfl, by omega⟩
  · have := Hp.q_mono ls o k' k h1 (by omega); omega
theorem Hp.q_pre {ls : List Int} {o o' : List Nat} (h : o <+: o') (k : Nat) (hk : k ≤ o.length) : Hp.q ls o' k = Hp.q ls o k := by
  obtain ⟨t, rfl⟩ := h
  unfold Hp.q
  rw [List.take_append_of_le_length hk]
theorem Hp.pos_q (ls : List Int) : ∀ (o : List Nat) (acc k : Nat) (hk : k < o.length), o.Nodup → Hp.pos ls o acc o[k] = some (acc + Hp.q ls o k) := by
  intro o
  induction o with
  | nil => intro acc k hk; cases hk
  | cons j r ih =>
    intro acc k hk hn
    rw [List.nodup_cons] at hn
    cases k with
    | zero => simp [Hp.pos, Hp.q, Hp.sum]
    | succ k =>
      simp only [List.getElem_cons_succ]
      rw [Hp.pos, if_neg (fun e => hn.1 (by rw [e]; exact List.getElem_mem _)), ih _ k (by simpa using hk) hn.2]
      unfold Hp.q
      simp only [List.take_succ_cons, Hp.sum]
      congr 1
      omega
theorem Hp.pos_pre (ls : List Int) (i : Nat) {o o' : List Nat} (h : o <+: o') : ∀ (n : Nat), Hp.pos ls o 0 i = some n → Hp.pos ls o' 0 i = some n := by
  obtain ⟨t, rfl⟩ := h
  have : ∀ (o : List Nat) (acc n : Nat), Hp.pos ls o acc i = some n → Hp.pos ls (o ++ t) acc i = some n := by
    intro o
    induction o with
    | nil => intro acc n h; cases h
    | cons j r ih =>
      intro acc n h
      simp only [List.cons_append, Hp.pos] at h ⊢
      by_cases hj : j = i
      · rw [if_pos hj] at h ⊢; exact h
      · rw [if_neg hj] at h ⊢; exact ih _ _ h
  exact this o 0

/-- A word, behind the move. -/
def Hp.rel (ls : List Int) (a to : Int) (O : List Nat) (w : Int) : Int :=
  if Hp.isAdr a w = true ∧ Hp.whole a w = true then (match Hp.pos ls O 0 (Hp.idx a w) with | some n => to + 4 * n | none => w) else w
theorem Hp.word_rel {ls : List Int} {a to : Int} {o : List Nat} {out : List Int} {w : Int} {O : List Nat} (hl : out.length = Hp.sum ls o) (hp : Hp.vis a o w <+: O) : (Hp.word ls a to o out w).1 = Hp.rel ls a to O w := by
  unfold Hp.word Hp.rel
  unfold Hp.vis at hp
  by_cases h : Hp.isAdr a w = true ∧ Hp.whole a w = true
  · rw [if_pos h, if_pos h]
    rw [if_pos h] at hp
    cases hq : Hp.pos ls o 0 (Hp.idx a w) with
    | some n =>
      have hm : Hp.idx a w ∈ o := Decidable.byContradiction fun hn => by rw [(Hp.pos_none ls _ o 0).2 hn] at hq; cases hq
      rw [if_pos hm] at hp
      rw [Hp.pos_pre ls _ hp n hq]
    | none =>
      have hm := (Hp.pos_none ls _ o 0).1 hq
      rw [if_neg hm] at hp
      have h2 := Hp.pos_snoc ls (Hp.idx a w) (Hp.idx a w) o 0 hq
      rw [if_pos rfl] at h2
      rw [Hp.pos_pre ls _ hp _ h2]
      simp only
      rw [hl]
      simp
  · rw [if_neg h, if_neg h]

end Go.Proofs.Ytgohnekaolgblaa
