/- What is moved is a heap, and is moved as what it was moved from: plain. -/
import Derived.Test.YtgohnekaolgblaaHpLaw2
namespace Go.Proofs.Ytgohnekaolgblaa

def Hp.adr (a w : Int) : Prop := Hp.isAdr a w = true ∧ Hp.whole a w = true
def Hp.ordAll (ls : List Int) (a : Int) (rs : List Int) : List Nat := Hp.ord ls a (ls.length + 1) 0 (Hp.visAll a rs [])

theorem Hp.roots_st {ls : List Int} {hs : List Nat} (hhs : Hp.heads ls = some hs) {a to : Int} {O : List Nat} : ∀ (ws : List Int) (o : List Nat) (out : List Int), Hp.okws (Hp.mem hs) a ws = true → Hp.Inv ls hs o out → Hp.visAll a ws o <+: O → Hp.St ls a to O o 0 0 out →
    (Hp.roots ls a to ws o out).1 = ws.map (Hp.rel ls a to O) ∧ Hp.St ls a to O (Hp.roots ls a to ws o out).2.1 0 0 (Hp.roots ls a to ws o out).2.2 ∧ Hp.Inv ls hs (Hp.roots ls a to ws o out).2.1 (Hp.roots ls a to ws o out).2.2 := by
  intro ws
  induction ws with
  | nil => intro o out _ hi _ hs; exact ⟨rfl, hs, hi⟩
  | cons w ws ih =>
    intro o out hok hi hp hst
    have hok' : Hp.okw (Hp.mem hs) a w = true ∧ Hp.okws (Hp.mem hs) a ws = true := by
      unfold Hp.okws at hok ⊢
      simpa using hok
    have hp2 : Hp.visAll a ws (Hp.vis a o w) <+: O := hp
    have hpre : Hp.vis a o w <+: O := (Hp.visAll_pre a _ _).trans hp2
    obtain ⟨hi2, _, _⟩ := hi.word hhs (to := to) hok'.1
    have h1 := hst.word hhs (.inr ⟨rfl, Nat.zero_le _⟩) hok'.1
    have hrel := Hp.word_rel (to := to) hi.len hpre
    have hord := Hp.word_ord ls a to o out w
    rw [hord] at h1 hi2
    have := ih (Hp.vis a o w) (Hp.word ls a to o out w).2.2 hok'.2 hi2 hp2 h1
    rw [Hp.roots]
    simp only
    rw [hord]
    exact ⟨by rw [List.map_cons, hrel, this.1], this.2.1, this.2.2⟩

theorem Hp.move_desc {ls : List Int} {hs : List Nat} {a : Int} {rs : List Int} (ok : Hp.Ok ls a rs hs) (to : Int) : Hp.Desc ls a to (Hp.ordAll ls a rs) (Hp.move ls a rs to).1 ∧ Hp.Inv ls hs (Hp.ordAll ls a rs) (Hp.move ls a rs to).1 ∧ (Hp.move ls a rs to).2 = rs.map (Hp.rel ls a to (Hp.ordAll ls a rs)) := by
  have h0 : Hp.Inv ls hs [] [] := ⟨List.nodup_nil, fun i h => (by cases h), rfl⟩
  have hst : Hp.St ls a to (Hp.ordAll ls a rs) [] 0 0 [] := ⟨rfl, fun q hq => absurd hq (by simp)⟩
  have hr := Hp.roots_st ok.heads (to := to) (O := Hp.ordAll ls a rs) rs [] [] ok.roots h0 (Hp.ord_pre _ _ _ _ _) hst
  have ho := Hp.roots_ord ls a to rs [] []
  unfold Hp.move
  simp only
  have := Hp.scan_desc ok.heads (to := to) ok.fields (O := Hp.ordAll ls a rs) (ls.length + 1) 0 (Hp.roots ls a to rs [] []).2.1 (Hp.roots ls a to rs [] []).2.2 (by rw [ho]; rfl) (Nat.zero_le _) (by omega) hr.2.2 hr.2.1
  exact ⟨this.1, this.2, hr.1⟩

/-! ### all that is named is moved -/
theorem Hp.vis_mem {a w : Int} (o : List Nat) (h : Hp.adr a w) : Hp.idx a w ∈ Hp.vis a o w := by
  unfold Hp.vis
  rw [if_pos (show Hp.isAdr a w = true ∧ Hp.whole a w = true from h)]
  split
  · assumption
  · simp
theorem Hp.visAll_mem {a : Int} : ∀ (ws : List Int) (o : List Nat) (w : Int), w ∈ ws → Hp.adr a w → Hp.idx a w ∈ Hp.visAll a ws o := by
  intro ws
  induction ws with
  | nil => intro o w h; cases h
  | cons x ws ih =>
    intro o w h ha
    rcases List.mem_cons.1 h with rfl | h
    · exact (Hp.visAll_pre a ws _).mem (Hp.vis_mem o ha)
    · exact ih _ w h ha
theorem Hp.ord_closed {ls : List Int} {a : Int} {O : List Nat} : ∀ (g k : Nat) (o : List Nat), Hp.ord ls a g k o = O → O.length ≤ k + g → ∀ q (hq : q < O.length), k ≤ q → ∀ w ∈ Hp.fields ls O[q], Hp.adr a w → Hp.idx a w ∈ O := by
  intro g
  induction g with
  | zero => intro k o ho hl q hq hk; omega
  | succ g ih =>
    intro k o ho hl q hq hk w hw ha
    rw [Hp.ord] at ho
    cases hok : o[k]? with
    | none =>
      rw [hok] at ho
      simp only at ho
      subst ho
      have := List.getElem?_eq_none_iff.1 hok
      omega
    | some i =>
      rw [hok] at ho
      simp only at ho
      by_cases hqk : q = k
      · subst hqk
        obtain ⟨hko, hie⟩ := List.getElem?_eq_some_iff.1 hok
        have hpre : Hp.visAll a (Hp.fields ls i) o <+: O := by rw [← ho]; exact Hp.ord_pre _ _ _ _ _
        have hoO : o <+: O := (Hp.visAll_pre a _ o).trans hpre
        have e : O[q] = i := by
          obtain ⟨t, ht⟩ := hoO
          have : O[q]? = some i := by rw [← ht, List.getElem?_append_left hko]; exact hok
          rw [List.getElem?_eq_getElem hq] at this
          exact Option.some.inj this
        rw [e] at hw
        exact hpre.mem (Hp.visAll_mem _ o w hw ha)
      · exact ih (k + 1) _ ho (by omega) q hq (by omega) w hw ha
theorem Hp.ord_stable {ls : List Int} {a : Int} {O : List Nat} : ∀ (g k : Nat) (o : List Nat), Hp.ord ls a g k o = O → O.length ≤ k + g → ∀ g', O.length ≤ k + g' → Hp.ord ls a g' k o = O := by
  intro g
  induction g with
  | zero =>
    intro k o ho hl g' _
    rw [Hp.ord] at ho
    subst ho
    cases g' with
    | zero => rfl
    | succ g' => rw [Hp.ord, List.getElem?_eq_none (by omega)]
  | succ g ih =>
    intro k o ho hl g' hl'
    rw [Hp.ord] at ho
    cases hok : o[k]? with
    | none =>
      rw [hok] at ho
      simp only at ho
      subst ho
      cases g' with
      | zero => rfl
      | succ g' => rw [Hp.ord, hok]
    | some i =>
      rw [hok] at ho
      simp only at ho
      obtain ⟨hko, _⟩ := List.getElem?_eq_some_iff.1 hok
      have hle : o.length ≤ O.length := by rw [← ho]; exact ((Hp.visAll_pre a _ o).trans (Hp.ord_pre _ _ _ _ _)).length_le
      cases g' with
      | zero => omega
      | succ g' =>
        rw [Hp.ord, hok]
        exact ih (k + 1) _ ho (by omega) g' (by omega)

theorem Hp.q_cover (ls : List Int) (o : List Nat) (p : Nat) (h : p < Hp.sum ls o) : ∃ (q j : Nat) (hq : q < o.length), j < Hp.wnAt ls o[q] ∧ p = Hp.q ls o q + j := by
  have : ∀ k, k ≤ o.length → p < Hp.q ls o k → ∃ (q j : Nat) (hq : q < o.length), j < Hp.wnAt ls o[q] ∧ p = Hp.q ls o q + j := by
    intro k
    induction k with
    | zero => intro _ h; simp [Hp.q, Hp.sum] at h
    | succ k ih =>
      intro hk hp
      by_cases hc : p < Hp.q ls o k
      · exact ih (by omega) hc
      · rw [Hp.q_succ ls o k (by omega)] at hp
        exact ⟨k, p - Hp.q ls o k, by omega, by omega, by omega⟩
  exact this o.length (Nat.le_refl _) (by rw [Hp.q_all]; exact h)

/-- Even words below one address are below the other one. -/
def Hp.noLow (a to : Int) (ws : List Int) : Prop := ∀ w ∈ ws, w % 2 = 0 → w < a → w < to

end Go.Proofs.Ytgohnekaolgblaa
