/- What is moved is a heap, and is moved as what it was moved from: plain, second part. -/
import Derived.Test.YtgohnekaolgblaaHpLaw3
namespace Go.Proofs.Ytgohnekaolgblaa

theorem Hp.rel_adr {ls : List Int} {a to : Int} {O : List Nat} {w : Int} {n : Nat} (h : Hp.adr a w) (hp : Hp.pos ls O 0 (Hp.idx a w) = some n) : Hp.rel ls a to O w = to + 4 * n := by
  unfold Hp.rel
  rw [if_pos (show Hp.isAdr a w = true ∧ Hp.whole a w = true from h), hp]
theorem Hp.rel_non {ls : List Int} {a to : Int} {O : List Nat} {w : Int} (h : ¬ Hp.adr a w) : Hp.rel ls a to O w = w := by
  unfold Hp.rel
  rw [if_neg (show ¬ (Hp.isAdr a w = true ∧ Hp.whole a w = true) from h)]
theorem Hp.adr_new {to : Int} (ht : Hp.place to) (n : Nat) : Hp.adr to (to + 4 * n) ∧ Hp.idx to (to + 4 * n) = n := by
  obtain ⟨h1, h2, h3⟩ := ht
  refine ⟨⟨?_, ?_⟩, ?_⟩
  · unfold Hp.isAdr
    have e1 : (to + 4 * (n : Int)) % 2 = 0 := by omega
    have e2 : to ≤ to + 4 * (n : Int) := by omega
    simp [e1, e2]
  · unfold Hp.whole
    have e1 : (to + 4 * (n : Int) - to) % 4 = 0 := by omega
    simp [e1]
  · unfold Hp.idx; omega
theorem Hp.okw_non {S : Nat → Bool} {a w : Int} (hok : Hp.okw S a w = true) (h : ¬ Hp.adr a w) : Hp.isAdr a w = false := by
  unfold Hp.okw at hok
  cases hi : Hp.isAdr a w with
  | false => rfl
  | true =>
    rw [hi] at hok
    simp only [Bool.not_true, Bool.false_or, Bool.and_eq_true] at hok
    exact absurd ⟨hi, hok.1⟩ h
theorem Hp.non_new {a to w : Int} (h : Hp.isAdr a w = false) (hlow : w % 2 = 0 → w < a → w < to) : Hp.isAdr to w = false := by
  unfold Hp.isAdr at h ⊢
  by_cases he : w % 2 = 0
  · have : ¬ a ≤ w := by simpa [he] using h
    have := hlow he (by omega)
    have h2 : ¬ to ≤ w := by omega
    simp [he, h2]
  · simp [he]

theorem Hp.sum_append (ls : List Int) (x y : List Nat) : Hp.sum ls (x ++ y) = Hp.sum ls x + Hp.sum ls y := by
  induction x with
  | nil => simp [Hp.sum]
  | cons i x ih => simp only [List.cons_append, Hp.sum, ih]; omega

/-- All that is known of a heap, its order, and what was moved. -/
structure Hp.Mvd (ls : List Int) (a : Int) (hs : List Nat) (to : Int) (O : List Nat) (m : List Int) : Prop where
  heads : Hp.heads ls = some hs
  nodup : O.Nodup
  sub : ∀ i ∈ O, i ∈ hs
  desc : Hp.Desc ls a to O m
  fok : ∀ i ∈ hs, Hp.okws (Hp.mem hs) a (Hp.fields ls i) = true
  closed : ∀ i ∈ O, ∀ w ∈ Hp.fields ls i, Hp.adr a w → Hp.idx a w ∈ O
  low : ∀ i ∈ O, Hp.noLow a to (Hp.fields ls i)
  place : Hp.place to

section
variable {ls : List Int} {a : Int} {hs : List Nat} {to : Int} {O : List Nat} {m : List Int}
def Hp.P (ls : List Int) (O : List Nat) (i : Nat) : Nat := (Hp.pos ls O 0 i).getD 0

theorem Hp.P_q (hn : O.Nodup) (q : Nat) (hq : q < O.length) : Hp.P ls O O[q] = Hp.q ls O q := by
  unfold Hp.P
  rw [Hp.pos_q ls O 0 q hq hn, Nat.zero_add]
  rfl
theorem Hp.P_pos {i : Nat} (h : i ∈ O) : Hp.pos ls O 0 i = some (Hp.P ls O i) := by
  obtain ⟨n, hn⟩ := Hp.pos_mem ls i O h
  unfold Hp.P
  rw [hn]
  rfl
variable (M : Hp.Mvd ls a hs to O m)
include M
theorem Hp.Mvd.head {i : Nat} (h : i ∈ O) : Hp.Head ls i := Hp.heads_head M.heads (M.sub i h)
theorem Hp.Mvd.wn_pos {q : Nat} (hq : q < O.length) : 1 ≤ Hp.wnAt ls O[q] := Hp.wnAt_pos (M.head (List.getElem_mem hq))
theorem Hp.Mvd.inj {i j : Nat} (hi : i ∈ O) (hj : j ∈ O) (h : Hp.P ls O i = Hp.P ls O j) : i = j := by
  obtain ⟨q, hq, rfl⟩ := List.getElem_of_mem hi
  obtain ⟨r, hr, rfl⟩ := List.getElem_of_mem hj
  rw [Hp.P_q M.nodup, Hp.P_q M.nodup] at h
  have := Hp.q_inj (ls := ls) hq hr (j := 0) (j' := 0) (M.wn_pos hq) (M.wn_pos hr) (by omega)
  obtain ⟨rfl, _⟩ := this
  rfl
/-- The head of a thing that was moved. -/
theorem Hp.Mvd.get {q : Nat} (hq : q < O.length) : m[Hp.q ls O q]? = ls[O[q]]? := by
  have h := M.desc.val q hq 0 (M.wn_pos hq)
  rw [Nat.add_zero, Nat.add_zero] at h
  rw [h]
  have hn : ¬ Hp.isField ls O[q] 0 := fun h => by have := h.1; omega
  cases ls[O[q]]? with
  | none => rfl
  | some x => simp only [Option.map_some]; rw [if_neg hn]
theorem Hp.Mvd.wn {q : Nat} (hq : q < O.length) : Hp.wnAt m (Hp.q ls O q) = Hp.wnAt ls O[q] := by
  unfold Hp.wnAt
  rw [M.get hq]
theorem Hp.Mvd.fields {q : Nat} (hq : q < O.length) : Hp.fields m (Hp.q ls O q) = (Hp.fields ls O[q]).map (Hp.rel ls a to O) := by
  have hh := M.head (List.getElem_mem hq)
  have hlt := hh.lt
  have hfit := Hp.fields_fit hh
  have hqf := Hp.q_fits (ls := ls) (o := O) hq (j := Hp.wnAt ls O[q] - 1) (by have := M.wn_pos hq; omega)
  have hml := M.desc.len
  have hfe : Hp.fields ls O[q] = if (Wd.unhead (ls[O[q]]'hlt)).1 = 2 then [] else (ls.drop (O[q] + 1)).take (Hp.sz (ls[O[q]]'hlt)) := by
    unfold Hp.fields
    rw [List.getElem?_eq_getElem hlt]
  have hfm : Hp.fields m (Hp.q ls O q) = if (Wd.unhead (ls[O[q]]'hlt)).1 = 2 then [] else (m.drop (Hp.q ls O q + 1)).take (Hp.sz (ls[O[q]]'hlt)) := by
    unfold Hp.fields
    rw [M.get hq, List.getElem?_eq_getElem hlt]
  by_cases hk : (Wd.unhead (ls[O[q]]'hlt)).1 = 2
  · rw [if_pos hk] at hfe hfm
    rw [hfe, hfm]
    rfl
  · rw [if_neg hk] at hfe hfm
    have hsz : (Hp.fields ls O[q]).length = Hp.sz (ls[O[q]]'hlt) := by
      have h2 := (Wd.words_pos hh.yes).2.2.1 hk
      have h3 := hh.fits
      rw [hfe, List.length_take, List.length_drop]
      omega
    apply List.ext_getElem?
    intro j
    by_cases hj : j < (Hp.fields ls O[q]).length
    · rw [hfm, List.getElem?_take_of_lt (by omega), List.getElem?_drop, List.getElem?_map, List.getElem?_eq_getElem hj]
      have h := M.desc.val q hq (1 + j) (by omega)
      rw [show Hp.q ls O q + (1 + j) = Hp.q ls O q + 1 + j by omega, show O[q] + (1 + j) = O[q] + 1 + j by omega, Hp.fields_get hj] at h
      rw [h]
      simp only [Option.map_some]
      rw [if_pos ⟨by omega, by omega⟩]
    · have hl1 : (Hp.fields m (Hp.q ls O q)).length ≤ j := by rw [hfm, List.length_take]; omega
      have hl2 : ((Hp.fields ls O[q]).map (Hp.rel ls a to O)).length ≤ j := by rw [List.length_map]; omega
      rw [List.getElem?_eq_none hl1, List.getElem?_eq_none hl2]

theorem Hp.Mvd.word_new {w : Int} (h : Hp.adr a w) (hm : Hp.idx a w ∈ O) : Hp.rel ls a to O w = to + 4 * (Hp.P ls O (Hp.idx a w)) ∧ Hp.adr to (Hp.rel ls a to O w) ∧ Hp.idx to (Hp.rel ls a to O w) = Hp.P ls O (Hp.idx a w) := by
  have e := Hp.rel_adr (ls := ls) (to := to) h (Hp.P_pos hm)
  have := Hp.adr_new M.place (Hp.P ls O (Hp.idx a w))
  rw [e]
  exact ⟨rfl, this.1, this.2⟩
omit M in
theorem Hp.word_old {w : Int} (hok : Hp.okw (Hp.mem hs) a w = true) (h : ¬ Hp.adr a w) (hlow : w % 2 = 0 → w < a → w < to) : Hp.rel ls a to O w = w ∧ Hp.isAdr to w = false ∧ ¬ Hp.adr to w := by
  have e := Hp.non_new (Hp.okw_non hok h) hlow
  exact ⟨Hp.rel_non h, e, fun h2 => by have h3 := h2.1; rw [e] at h3; cases h3⟩

theorem Hp.Mvd.vis {o : List Nat} (ho : ∀ i ∈ o, i ∈ O) {w : Int} (hok : Hp.okw (Hp.mem hs) a w = true) (hlow : w % 2 = 0 → w < a → w < to) (hm : Hp.adr a w → Hp.idx a w ∈ O) :
    Hp.vis to (o.map (Hp.P ls O)) (Hp.rel ls a to O w) = (Hp.vis a o w).map (Hp.P ls O) ∧ ∀ i ∈ Hp.vis a o w, i ∈ O := by
  by_cases h : Hp.adr a w
  · obtain ⟨e1, e2, e3⟩ := M.word_new h (hm h)
    unfold Hp.vis
    rw [if_pos (show Hp.isAdr to (Hp.rel ls a to O w) = true ∧ Hp.whole to (Hp.rel ls a to O w) = true from e2), if_pos (show Hp.isAdr a w = true ∧ Hp.whole a w = true from h), e3]
    by_cases hi : Hp.idx a w ∈ o
    · rw [if_pos (List.mem_map_of_mem hi), if_pos hi]
      exact ⟨rfl, ho⟩
    · rw [if_neg, if_neg hi]
      · refine ⟨by simp, fun i h' => ?_⟩
        rcases List.mem_append.1 h' with h' | h'
        · exact ho i h'
        · simp only [List.mem_singleton] at h'; subst h'; exact hm h
      · intro h'
        obtain ⟨j, hj, e⟩ := List.mem_map.1 h'
        exact hi (M.inj (ho j hj) (hm h) e ▸ hj)
  · obtain ⟨e1, _, e3⟩ := Hp.word_old hok h hlow
    unfold Hp.vis
    rw [e1, if_neg (show ¬ (Hp.isAdr to w = true ∧ Hp.whole to w = true) from e3), if_neg (show ¬ (Hp.isAdr a w = true ∧ Hp.whole a w = true) from h)]
    exact ⟨rfl, ho⟩
theorem Hp.Mvd.visAll : ∀ (ws : List Int) (o : List Nat), (∀ i ∈ o, i ∈ O) → Hp.okws (Hp.mem hs) a ws = true → Hp.noLow a to ws → (∀ w ∈ ws, Hp.adr a w → Hp.idx a w ∈ O) →
    Hp.visAll to (ws.map (Hp.rel ls a to O)) (o.map (Hp.P ls O)) = (Hp.visAll a ws o).map (Hp.P ls O) ∧ ∀ i ∈ Hp.visAll a ws o, i ∈ O := by
  intro ws
  induction ws with
  | nil => intro o ho _ _ _; exact ⟨rfl, ho⟩
  | cons w ws ih =>
    intro o ho hok hlow hm
    have hok' : Hp.okw (Hp.mem hs) a w = true ∧ Hp.okws (Hp.mem hs) a ws = true := by
      unfold Hp.okws at hok ⊢
      simpa using hok
    obtain ⟨e1, e2⟩ := M.vis ho hok'.1 (hlow w (by simp)) (hm w (by simp))
    have := ih (Hp.vis a o w) e2 hok'.2 (fun x hx => hlow x (by simp [hx])) (fun x hx => hm x (by simp [hx]))
    unfold Hp.visAll at this ⊢
    simp only [List.map_cons, List.foldl_cons]
    rw [e1]
    exact this
theorem Hp.Mvd.ord : ∀ (g k : Nat) (o : List Nat), (∀ i ∈ o, i ∈ O) → Hp.ord ls a g k o = O → Hp.ord m to g k (o.map (Hp.P ls O)) = O.map (Hp.P ls O) := by
  intro g
  induction g with
  | zero => intro k o _ h; rw [Hp.ord] at h ⊢; rw [h]
  | succ g ih =>
    intro k o ho h
    rw [Hp.ord] at h ⊢
    rw [List.getElem?_map]
    cases hok : o[k]? with
    | none =>
      rw [hok] at h
      simp only [Option.map_none] at h ⊢
      rw [h]
    | some i =>
      rw [hok] at h
      simp only [Option.map_some] at h ⊢
      have hi : i ∈ O := ho i (List.mem_of_getElem? hok)
      obtain ⟨q, hq, rfl⟩ := List.getElem_of_mem hi
      rw [Hp.P_q M.nodup, M.fields hq]
      have := M.visAll (Hp.fields ls O[q]) o ho (M.fok _ (M.sub _ hi)) (M.low _ hi) (M.closed _ hi)
      rw [this.1]
      exact ih (k + 1) _ this.2 h

theorem Hp.Mvd.from : ∀ (d k : Nat), O.length - k = d → k ≤ O.length → Hp.from m (Hp.q ls O k) = some ((List.range' k d).map (Hp.q ls O)) := by
  intro d
  induction d with
  | zero =>
    intro k hd hk
    have hk' : k = O.length := by omega
    subst hk'
    rw [Hp.q_all, Hp.from_end _ _ (by rw [M.desc.len]; exact Nat.le_refl _)]
    rfl
  | succ d ih =>
    intro k hd hk
    have hq : k < O.length := by omega
    have hh := M.head (List.getElem_mem hq)
    have hw := M.wn_pos hq
    have hlt : Hp.q ls O k < m.length := by
      rw [M.desc.len]
      have := Hp.q_fits (ls := ls) (o := O) hq (j := 0) (by omega)
      omega
    have hg := M.get hq
    rw [List.getElem?_eq_getElem hlt, List.getElem?_eq_getElem hh.lt] at hg
    have hge := Option.some.inj hg
    have hwe : Hp.wn m[Hp.q ls O k] = Hp.wnAt ls O[k] := by rw [hge, (Hp.thing_head hh).1]
    rw [Hp.from_next m _ hlt (by rw [hge]; exact hh.yes) (by
      rw [hwe, M.desc.len, ← Hp.q_succ ls O k hq]
      unfold Hp.q
      have : Hp.sum ls (O.take (k + 1)) + Hp.sum ls (O.drop (k + 1)) = Hp.sum ls O := by
        rw [← Hp.sum_append, List.take_append_drop]
      omega), hwe, ← Hp.q_succ ls O k hq, ih (k + 1) (by omega) (by omega)]
    rfl
end

end Go.Proofs.Ytgohnekaolgblaa
