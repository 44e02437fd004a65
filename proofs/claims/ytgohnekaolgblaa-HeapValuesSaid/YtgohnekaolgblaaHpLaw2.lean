/- What is moved, told word for word: the machine does what is said: plain. -/
import Derived.Test.YtgohnekaolgblaaHpLaw1
namespace Go.Proofs.Ytgohnekaolgblaa

def Hp.isField (ls : List Int) (i j : Nat) : Prop := 1 ≤ j ∧ j < 1 + (Hp.fields ls i).length
instance Hp.decField (ls : List Int) (i j : Nat) : Decidable (Hp.isField ls i j) := inferInstanceAs (Decidable (_ ∧ _))
/-- How the words are, where the k-th thing is under way, n of whose fields are done. -/
structure Hp.St (ls : List Int) (a to : Int) (O o : List Nat) (k n : Nat) (out : List Int) : Prop where
  len : out.length = Hp.sum ls o
  val : ∀ q (hq : q < o.length), ∀ j, j < Hp.wnAt ls o[q] → out[Hp.q ls o q + j]? = (ls[o[q] + j]?).map (fun x => if Hp.isField ls o[q] j ∧ (q < k ∨ (q = k ∧ j < 1 + n)) then Hp.rel ls a to O x else x)

theorem Hp.q_fits {ls : List Int} {o : List Nat} {q j : Nat} (hq : q < o.length) (hj : j < Hp.wnAt ls o[q]) : Hp.q ls o q + j < Hp.sum ls o := by
  have := Hp.q_mono ls o q o.length hq (Nat.le_refl _)
  rw [Hp.q_all] at this
  omega

theorem Hp.St.word {ls : List Int} {hs : List Nat} (hhs : Hp.heads ls = some hs) {a to : Int} {O o : List Nat} {k n : Nat} {out : List Int} (h : Hp.St ls a to O o k n out) (hk : k < o.length ∨ n = 0 ∧ k ≤ o.length) {w : Int} (hok : Hp.okw (Hp.mem hs) a w = true) :
    Hp.St ls a to O (Hp.word ls a to o out w).2.1 k n (Hp.word ls a to o out w).2.2 := by
  unfold Hp.word
  by_cases hc : Hp.isAdr a w = true ∧ Hp.whole a w = true
  · rw [if_pos hc]
    obtain ⟨_, _, hh⟩ := Hp.okw_head hhs hok hc.1
    cases hp : Hp.pos ls o 0 (Hp.idx a w) with
    | some m => exact h
    | none =>
      obtain ⟨i, hi⟩ : ∃ i, i = Hp.idx a w := ⟨_, rfl⟩
      rw [← hi] at hh ⊢
      obtain ⟨hw1, hw2⟩ := Hp.thing_head hh
      refine ⟨by simp only [List.length_append]; rw [Hp.sum_snoc, h.len, hw2], fun q hq j hj => ?_⟩
      simp only at hq hj ⊢
      by_cases hqo : q < o.length
      · have e : (o ++ [i])[q] = o[q] := List.getElem_append_left hqo
        rw [e] at hj ⊢
        rw [Hp.q_pre (List.prefix_append o [i]) q (by omega), List.getElem?_append_left (by rw [h.len]; exact Hp.q_fits hqo hj)]
        exact h.val q hqo j hj
      · have hqe : q = o.length := by simp at hq; omega
        subst hqe
        have e : (o ++ [i])[o.length] = i := by simp
        rw [e] at hj ⊢
        rw [Hp.q_pre (List.prefix_append o [i]) o.length (Nat.le_refl _), Hp.q_all, ← h.len, List.getElem?_append_right (by omega), Nat.add_sub_cancel_left]
        unfold Hp.thing
        rw [List.getElem?_take_of_lt hj, List.getElem?_drop]
        cases ls[i + j]? with
        | none => rfl
        | some x =>
          simp only [Option.map_some]
          rw [if_neg]
          rintro ⟨⟨h1, h2⟩, h3⟩
          rcases h3 with h3 | ⟨h3, h4⟩
          · omega
          · rcases hk with hk | ⟨rfl, hk⟩
            · omega
            · omega
  · rw [if_neg hc]
    exact h

theorem Hp.St.set {ls : List Int} {a to : Int} {O o : List Nat} {k n : Nat} {out : List Int} (h : Hp.St ls a to O o k n out) (hk : k < o.length) (hn : n < (Hp.fields ls o[k]).length) (hwn : 1 + (Hp.fields ls o[k]).length ≤ Hp.wnAt ls o[k]) {w : Int} (hw : ls[o[k] + 1 + n]? = some w) :
    Hp.St ls a to O o k (n + 1) (out.set (Hp.q ls o k + 1 + n) (Hp.rel ls a to O w)) := by
  refine ⟨by rw [List.length_set]; exact h.len, fun q hq j hj => ?_⟩
  by_cases hc : q = k ∧ j = 1 + n
  · obtain ⟨rfl, rfl⟩ := hc
    rw [show Hp.q ls o q + (1 + n) = Hp.q ls o q + 1 + n by omega, List.getElem?_set_self (by rw [h.len]; have := Hp.q_fits (ls := ls) (o := o) hq hj; omega), show o[q] + (1 + n) = o[q] + 1 + n by omega, hw]
    simp only [Option.map_some]
    rw [if_pos (by refine ⟨⟨by omega, by omega⟩, .inr ⟨?_, by omega⟩⟩; first | rfl | trivial)]
  · rw [List.getElem?_set_ne (fun e => hc ?_), h.val q hq j hj]
    · cases ls[o[q] + j]? with
      | none => rfl
      | some x =>
        simp only [Option.map_some]
        by_cases hp : Hp.isField ls o[q] j ∧ (q < k ∨ (q = k ∧ j < 1 + n))
        · rw [if_pos hp, if_pos ⟨hp.1, by rcases hp.2 with h | h; exact .inl h; exact .inr ⟨h.1, by omega⟩⟩]
        · rw [if_neg hp, if_neg]
          rintro ⟨h1, h2⟩
          refine hp ⟨h1, ?_⟩
          rcases h2 with h2 | ⟨h2, h3⟩
          · exact .inl h2
          · refine .inr ⟨h2, ?_⟩
            by_cases hj : j = 1 + n
            · exact absurd ⟨h2, hj⟩ hc
            · omega
    · have := Hp.q_inj (ls := ls) (o := o) hq hk hj (j' := 1 + n) (by omega) (by omega)
      exact this

theorem Hp.fields_get {ls : List Int} {i n : Nat} (hn : n < (Hp.fields ls i).length) : ls[i + 1 + n]? = some ((Hp.fields ls i)[n]) := by
  have h : ∃ s, Hp.fields ls i = (ls.drop (i + 1)).take s := by
    unfold Hp.fields
    split
    · exact ⟨0, by simp⟩
    · split
      · exact ⟨0, by simp⟩
      · exact ⟨_, rfl⟩
  obtain ⟨s, hs⟩ := h
  have hl : n < s := by rw [hs, List.length_take] at hn; omega
  have e : (Hp.fields ls i)[n]? = ls[i + 1 + n]? := by rw [hs, List.getElem?_take_of_lt hl, List.getElem?_drop]
  rw [List.getElem?_eq_getElem hn] at e
  exact e.symm

theorem Hp.fill_st {ls : List Int} {hs : List Nat} (hhs : Hp.heads ls = some hs) {a to : Int} {O : List Nat} {k i : Nat} (hfok : Hp.okws (Hp.mem hs) a (Hp.fields ls i) = true) :
    ∀ (m n : Nat) (o : List Nat) (out : List Int), (Hp.fields ls i).length - n = m → n ≤ (Hp.fields ls i).length → Hp.Inv ls hs o out → (hk : k < o.length) → o[k] = i → Hp.visAll a ((Hp.fields ls i).drop n) o <+: O → Hp.St ls a to O o k n out →
      Hp.St ls a to O (Hp.fill ls a to ((Hp.fields ls i).drop n) (Hp.q ls o k + 1 + n) o out).1 k (Hp.fields ls i).length (Hp.fill ls a to ((Hp.fields ls i).drop n) (Hp.q ls o k + 1 + n) o out).2 ∧ Hp.Inv ls hs (Hp.fill ls a to ((Hp.fields ls i).drop n) (Hp.q ls o k + 1 + n) o out).1 (Hp.fill ls a to ((Hp.fields ls i).drop n) (Hp.q ls o k + 1 + n) o out).2 := by
  intro m
  induction m with
  | zero =>
    intro n o out hm hn hi hk hok hp hs
    rw [List.drop_of_length_le (by omega), Hp.fill]
    have e : n = (Hp.fields ls i).length := by omega
    subst e
    exact ⟨hs, hi⟩
  | succ m ih =>
    intro n o out hm hn hi hk hok hp hst
    have hn' : n < (Hp.fields ls i).length := by omega
    rw [List.drop_eq_getElem_cons hn'] at hp ⊢
    rw [Hp.fill]
    have hokw : Hp.okw (Hp.mem hs) a (Hp.fields ls i)[n] = true := by
      unfold Hp.okws at hfok
      exact List.all_eq_true.1 hfok _ (List.getElem_mem hn')
    obtain ⟨w, hw⟩ : ∃ w, w = (Hp.fields ls i)[n] := ⟨_, rfl⟩
    have hget := Hp.fields_get hn'
    rw [← hw] at hp hokw hget ⊢
    have hp2 : Hp.visAll a ((Hp.fields ls i).drop (n + 1)) (Hp.vis a o w) <+: O := hp
    have hpre : Hp.vis a o w <+: O := (Hp.visAll_pre a _ _).trans hp2
    obtain ⟨hi2, _, _⟩ := hi.word hhs (to := to) hokw
    have h1 := hst.word hhs (.inl hk) hokw
    have hrel := Hp.word_rel (to := to) hi.len hpre
    have hord := Hp.word_ord ls a to o out w
    have hlt : k < (Hp.vis a o w).length := Nat.lt_of_lt_of_le hk (Hp.vis_pre a o w).length_le
    have hge : (Hp.vis a o w)[k] = i := by
      obtain ⟨t, ht⟩ := Hp.vis_pre a o w
      have : (Hp.vis a o w)[k]? = some i := by rw [← ht, List.getElem?_append_left hk, List.getElem?_eq_getElem hk, hok]
      rw [List.getElem?_eq_getElem hlt] at this
      exact Option.some.inj this
    rw [hord] at h1 hi2 ⊢
    rw [hrel]
    have hhd := Hp.heads_head hhs (hi.sub i (hok ▸ List.getElem_mem hk))
    have hset := h1.set hlt (n := n) (by rw [hge]; exact hn') (by rw [hge]; exact Hp.fields_fit hhd) (w := w) (by rw [hge]; exact hget)
    have hq : Hp.q ls (Hp.vis a o w) k = Hp.q ls o k := Hp.q_pre (Hp.vis_pre a o w) k (by omega)
    have := ih (n + 1) (Hp.vis a o w) ((Hp.word ls a to o out w).2.2.set (Hp.q ls o k + 1 + n) (Hp.rel ls a to O w)) (by omega) (by omega) ⟨hi2.nodup, hi2.sub, by rw [List.length_set]; exact hi2.len⟩ hlt hge hp2 (by rw [← hq]; exact hset)
    rw [hq] at this
    exact this

theorem Hp.St.next {ls : List Int} {a to : Int} {O o : List Nat} {k : Nat} {out : List Int} (hk : k < o.length) (h : Hp.St ls a to O o k (Hp.fields ls (o[k]'hk)).length out) : Hp.St ls a to O o (k + 1) 0 out := by
  refine ⟨h.len, fun q hq j hj => ?_⟩
  rw [h.val q hq j hj]
  cases ls[o[q] + j]? with
  | none => rfl
  | some x =>
    simp only [Option.map_some]
    by_cases hf : Hp.isField ls o[q] j
    · by_cases hc : q < k + 1
      · rw [if_pos ⟨hf, by
          by_cases e : q = k
          · subst e; exact .inr ⟨rfl, hf.2⟩
          · exact .inl (by omega)⟩, if_pos ⟨hf, .inl hc⟩]
      · rw [if_neg (by rintro ⟨_, h | h⟩ <;> omega), if_neg (by
          rintro ⟨_, h | ⟨_, h⟩⟩
          · omega
          · have := hf.1; omega)]
    · rw [if_neg (fun h => hf h.1), if_neg (fun h => hf h.1)]

/-- How the words are behind the move. -/
structure Hp.Desc (ls : List Int) (a to : Int) (O : List Nat) (m : List Int) : Prop where
  len : m.length = Hp.sum ls O
  val : ∀ q (hq : q < O.length), ∀ j, j < Hp.wnAt ls O[q] → m[Hp.q ls O q + j]? = (ls[O[q] + j]?).map (fun x => if Hp.isField ls O[q] j then Hp.rel ls a to O x else x)

theorem Hp.scan_desc {ls : List Int} {hs : List Nat} (hhs : Hp.heads ls = some hs) {a to : Int} (hfok : ∀ i ∈ hs, Hp.okws (Hp.mem hs) a (Hp.fields ls i) = true) {O : List Nat} :
    ∀ (g k : Nat) (o : List Nat) (out : List Int), Hp.ord ls a g k o = O → k ≤ o.length → ls.length < k + g → Hp.Inv ls hs o out → Hp.St ls a to O o k 0 out → Hp.Desc ls a to O (Hp.scan ls a to g k o out).2 ∧ Hp.Inv ls hs O (Hp.scan ls a to g k o out).2 := by
  intro g
  induction g with
  | zero =>
    intro k o out ho hk hg hi hst
    have := hi.bound hhs
    omega
  | succ g ih =>
    intro k o out ho hk hg hi hst
    rw [Hp.ord] at ho
    rw [Hp.scan]
    by_cases hko : k < o.length
    · rw [List.getElem?_eq_getElem hko] at ho ⊢
      simp only at ho ⊢
      have hmem := hi.sub _ (List.getElem_mem hko)
      have hq := Hp.pos_q ls o 0 k hko hi.nodup
      rw [Nat.zero_add] at hq
      rw [hq, Option.getD_some]
      have hpre : Hp.visAll a (Hp.fields ls o[k]) o <+: O := by rw [← ho]; exact Hp.ord_pre _ _ _ _ _
      have hf := Hp.fill_st hhs (to := to) (O := O) (k := k) (i := o[k]) (hfok _ hmem) _ 0 o out rfl (Nat.zero_le _) hi hko rfl (by simpa using hpre) hst
      rw [List.drop_zero, Nat.add_zero] at hf
      have hord := Hp.fill_ord ls a to (Hp.fields ls o[k]) (Hp.q ls o k + 1) o out
      have hlt : k < (Hp.visAll a (Hp.fields ls o[k]) o).length := Nat.lt_of_lt_of_le hko (Hp.visAll_pre a _ o).length_le
      have hge : (Hp.visAll a (Hp.fields ls o[k]) o)[k] = o[k] := by
        obtain ⟨t, ht⟩ := Hp.visAll_pre a (Hp.fields ls o[k]) o
        have : (Hp.visAll a (Hp.fields ls o[k]) o)[k]? = some o[k] := by rw [← ht, List.getElem?_append_left hko, List.getElem?_eq_getElem hko]
        rw [List.getElem?_eq_getElem hlt] at this
        exact Option.some.inj this
      rw [hord] at hf ⊢
      refine ih (k + 1) _ _ ho hlt (by omega) hf.2 (Hp.St.next hlt ?_)
      rw [hge]
      exact hf.1
    · rw [List.getElem?_eq_none (by omega)] at ho ⊢
      simp only at ho ⊢
      subst ho
      refine ⟨⟨hst.len, fun q hq j hj => ?_⟩, hi⟩
      rw [hst.val q hq j hj]
      cases ls[o[q] + j]? with
      | none => rfl
      | some x =>
        simp only [Option.map_some]
        by_cases hf : Hp.isField ls o[q] j
        · rw [if_pos ⟨hf, .inl (by omega)⟩, if_pos hf]
        · rw [if_neg (fun h => hf h.1), if_neg hf]

end Go.Proofs.Ytgohnekaolgblaa
