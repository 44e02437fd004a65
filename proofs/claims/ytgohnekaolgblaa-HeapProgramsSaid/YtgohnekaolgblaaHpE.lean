/- (*heap.mover).word: the whole; what stays true of what is moved: plain. -/
import Derived.Test.YtgohnekaolgblaaHpD
namespace Go.Proofs.Ytgohnekaolgblaa
open Go.RowKit

theorem Hp.pos_none (ls : List Int) (i : Nat) : ∀ (o : List Nat) (acc : Nat), Hp.pos ls o acc i = none ↔ i ∉ o := by
  intro o
  induction o with
  | nil => intro acc; simp [Hp.pos]
  | cons j r ih =>
    intro acc
    rw [Hp.pos]
    by_cases h : j = i
    · rw [if_pos h]; simp [h]
    · rw [if_neg h, ih]
      simp only [List.mem_cons, not_or]
      exact ⟨fun hn => ⟨fun e => h e.symm, hn⟩, fun hn => hn.2⟩
theorem Hp.pos_mem (ls : List Int) (i : Nat) (o : List Nat) (h : i ∈ o) : ∃ n, Hp.pos ls o 0 i = some n := by
  cases hq : Hp.pos ls o 0 i with
  | some n => exact ⟨n, rfl⟩
  | none => exact absurd h ((Hp.pos_none ls i o 0).1 hq)
/-- A thing stands within the words. -/
theorem Hp.pos_fit (ls : List Int) (i : Nat) : ∀ (o : List Nat) (acc n : Nat), Hp.pos ls o acc i = some n → acc ≤ n ∧ n + Hp.wnAt ls i ≤ acc + Hp.sum ls o := by
  intro o
  induction o with
  | nil => intro acc n h; cases h
  | cons j r ih =>
    intro acc n h
    rw [Hp.pos] at h
    rw [Hp.sum]
    by_cases hj : j = i
    · rw [if_pos hj] at h
      simp only [Option.some.injEq] at h
      subst hj h
      omega
    · rw [if_neg hj] at h
      have := ih _ _ h
      omega
theorem Hp.sum_erase (ls : List Int) (i : Nat) : ∀ (o : List Nat), i ∈ o → Hp.sum ls o = Hp.wnAt ls i + Hp.sum ls (o.erase i) := by
  intro o
  induction o with
  | nil => intro h; cases h
  | cons j r ih =>
    intro h
    by_cases hj : j = i
    · subst hj
      rw [List.erase_cons_head, Hp.sum]
    · rw [List.erase_cons_tail (by simpa using hj), Hp.sum, Hp.sum, ih (by
        rcases List.mem_cons.1 h with e | e
        · exact absurd e.symm hj
        · exact e)]
      omega
/-- Things that are laid one behind the other, each once, are no more than the words. -/
theorem Hp.sum_le (ls : List Int) : ∀ (m i : Nat) (hs : List Nat), ls.length - i ≤ m → Hp.from ls i = some hs → ∀ o : List Nat, o.Nodup → (∀ j ∈ o, j ∈ hs) → Hp.sum ls o ≤ ls.length - i := by
  intro m
  induction m with
  | zero =>
    intro i hs hm h o hn hsub
    rw [Hp.from_end ls i (by omega)] at h
    cases h
    cases o with
    | nil => simp [Hp.sum]
    | cons j r => exact absurd (hsub j (by simp)) (by simp)
  | succ m ih =>
    intro i hs hm h o hn hsub
    by_cases hi : i < ls.length
    · by_cases hb : (Wd.words ls[i]).2 = false ∨ ls.length < i + Hp.wn ls[i]
      · rw [Hp.from_bad ls i hi hb] at h; cases h
      · simp only [not_or] at hb
        have hw : (Wd.words ls[i]).2 = true := by simpa using hb.1
        have hp := (Wd.words_pos hw).1
        rw [Hp.from_next ls i hi hw (by omega)] at h
        obtain ⟨hs', h1, rfl⟩ := Option.map_eq_some_iff.1 h
        have hwa : Hp.wnAt ls i = Hp.wn ls[i] := by unfold Hp.wnAt; rw [List.getElem?_eq_getElem hi]
        by_cases hio : i ∈ o
        · rw [Hp.sum_erase ls i o hio]
          have := ih _ _ (by omega) h1 (o.erase i) (hn.erase i) (fun j hj => by
            have h2 := (hn.mem_erase_iff).1 hj
            rcases List.mem_cons.1 (hsub j h2.2) with e | e
            · exact absurd e h2.1
            · exact e)
          omega
        · have := ih _ _ (by omega) h1 o hn (fun j hj => by
            rcases List.mem_cons.1 (hsub j hj) with e | e
            · subst e; exact absurd hj hio
            · exact e)
          omega
    · rw [Hp.from_end ls i (by omega)] at h
      cases h
      cases o with
      | nil => simp [Hp.sum]
      | cons j r => exact absurd (hsub j (by simp)) (by simp)

/-- What is true of what was moved so far. -/
structure Hp.Inv (ls : List Int) (hs : List Nat) (o : List Nat) (out : List Int) : Prop where
  nodup : o.Nodup
  sub : ∀ i ∈ o, i ∈ hs
  len : out.length = Hp.sum ls o
theorem Hp.len_le_sum (ls : List Int) : ∀ o : List Nat, (∀ i ∈ o, 1 ≤ Hp.wnAt ls i) → o.length ≤ Hp.sum ls o := by
  intro o
  induction o with
  | nil => intro _; simp
  | cons j r ih =>
    intro h
    have h1 := h j (by simp)
    have h2 := ih (fun i hi => h i (by simp [hi]))
    simp only [List.length_cons, Hp.sum]
    omega
theorem Hp.wnAt_pos {ls : List Int} {i : Nat} (h : Hp.Head ls i) : 1 ≤ Hp.wnAt ls i := by
  rw [(Hp.thing_head h).1]
  exact (Wd.words_pos h.yes).1
theorem Hp.Inv.bound {ls : List Int} {hs : List Nat} (hhs : Hp.heads ls = some hs) {o : List Nat} {out : List Int} (h : Hp.Inv ls hs o out) : out.length ≤ ls.length ∧ o.length ≤ out.length := by
  have h1 := Hp.sum_le ls ls.length 0 hs (by omega) hhs o h.nodup h.sub
  have h2 := Hp.len_le_sum ls o (fun i hi => Hp.wnAt_pos (Hp.heads_head hhs (h.sub i hi)))
  have h3 := h.len
  omega
theorem Hp.okw_head {ls : List Int} {hs : List Nat} (hhs : Hp.heads ls = some hs) {a u : Int} (h : Hp.okw (Hp.mem hs) a u = true) (h1 : Hp.isAdr a u = true) : Hp.whole a u = true ∧ Hp.idx a u ∈ hs ∧ Hp.Head ls (Hp.idx a u) := by
  unfold Hp.okw at h
  rw [h1] at h
  simp only [Bool.not_true, Bool.false_or, Bool.and_eq_true] at h
  have hm : Hp.idx a u ∈ hs := by simpa [Hp.mem] using h.2
  exact ⟨h.1, hm, Hp.heads_head hhs hm⟩
theorem Hp.Inv.word {ls : List Int} {hs : List Nat} (hhs : Hp.heads ls = some hs) {o : List Nat} {out : List Int} (h : Hp.Inv ls hs o out) {a to u : Int} (hok : Hp.okw (Hp.mem hs) a u = true) :
    Hp.Inv ls hs (Hp.word ls a to o out u).2.1 (Hp.word ls a to o out u).2.2 ∧ (∀ i n, Hp.pos ls o 0 i = some n → Hp.pos ls (Hp.word ls a to o out u).2.1 0 i = some n) ∧ ∃ more, (Hp.word ls a to o out u).2.1 = o ++ more := by
  unfold Hp.word
  by_cases hc : Hp.isAdr a u = true ∧ Hp.whole a u = true
  · rw [if_pos hc]
    obtain ⟨_, hm, hh⟩ := Hp.okw_head hhs hok hc.1
    cases hp : Hp.pos ls o 0 (Hp.idx a u) with
    | some n => exact ⟨h, fun _ _ h => h, [], by simp⟩
    | none =>
      have hni := (Hp.pos_none ls _ o 0).1 hp
      refine ⟨⟨?_, ?_, ?_⟩, ?_, _, rfl⟩
      · simp only
        rw [List.nodup_append]
        refine ⟨h.nodup, by simp, fun x hx y hy e => ?_⟩
        simp only [List.mem_singleton] at hy
        subst hy e
        exact hni hx
      · intro i hi
        simp only [List.mem_append, List.mem_singleton] at hi
        rcases hi with hi | rfl
        · exact h.sub i hi
        · exact hm
      · simp only [List.length_append]
        rw [Hp.sum_snoc, h.len, (Hp.thing_head hh).2]
      · intro i n hi
        simp only
        rw [Hp.pos_snoc ls _ i o 0 hp, if_neg]
        · exact hi
        · rintro rfl
          rw [hp] at hi; cases hi
  · rw [if_neg hc]
    exact ⟨h, fun _ _ h => h, [], by simp⟩

theorem Hp.word_fst {ls : List Int} {a to u : Int} {o : List Nat} {out : List Int} (hu : 0 ≤ u ∧ u < 4294967296) (hto : 0 ≤ to ∧ to ≤ 2147483648) (hlen : out.length = Hp.sum ls o) (hl : out.length ≤ 65536) : 0 ≤ (Hp.word ls a to o out u).1 ∧ (Hp.word ls a to o out u).1 < 4294967296 := by
  unfold Hp.word
  split
  · split
    · rename_i n hn
      have := Hp.pos_le ls o 0 _ n hn
      simp only
      omega
    · simp only
      omega
  · exact hu

/-- The whole of word. -/
theorem hpWord (w : World) (bm bn lo : Nat) (vl : Value) (ls : List Int) (a to : Int) (o : List Nat) (out : List Int) (vo vt : Value) (u : Int) (B : Nat) (hs : List Nat) (hhs : Hp.heads ls = some hs) (hi : Hp.Inv ls hs o out) (hm : Mover w bm bn lo vl ls a to o out vo vt) (hl : SeesB .u32 B w vl ls) (hB : B ≤ bm ∧ B ≤ bn ∧ B ≤ lo) (hlr : ∀ x ∈ ls, 0 ≤ x ∧ x < 4294967296) (ha : 0 ≤ a ∧ a < 4294967296) (hto : 0 ≤ to ∧ to ≤ 2147483648) (hu : 0 ≤ u ∧ u < 4294967296) (hok : Hp.okw (Hp.mem hs) a u = true) (hls : ls.length ≤ 65536) (hlo : lo ≤ w.heap.size) :
    Calls Try.prog 105 #[.pointer (some ⟨bm, 0, none⟩), .int .u32 u] w fun e w' => e = .returned (.int .u32 (Hp.word ls a to o out u).1) ∧ MoverPost w w' bm bn lo vl ls a to (Hp.word ls a to o out u).2.1 (Hp.word ls a to o out u).2.2 vo vt := by
  obtain ⟨hb1, hb2⟩ := hi.bound hhs
  unfold Hp.word
  by_cases hc : Hp.isAdr a u = true ∧ Hp.whole a u = true
  · rw [if_pos hc]
    obtain ⟨_, hmm, hh⟩ := Hp.okw_head hhs hok hc.1
    cases hp : Hp.pos ls o 0 (Hp.idx a u) with
    | some n =>
      have := Hp.pos_le ls o 0 _ n hp
      have := hi.len
      refine (word_was w bm bn lo vl ls a to o out vo vt u hm ha hto hu hc n hp (by omega)).mono ?_
      rintro e w' ⟨rfl, rfl⟩
      exact ⟨rfl, vo, vt, hm, GrowS.refl _ _, .inl rfl, .inl rfl⟩
    | none => exact word_new w bm bn lo vl ls a to o out vo vt u B hm hl hB hlr ha hto hu hc hp hi.len (by omega) (by omega) hls hlo hh
  · rw [if_neg hc]
    refine (word_stays w bm bn lo vl ls a to o out vo vt u hm ha hu hc).mono ?_
    rintro e w' ⟨rfl, rfl⟩
    exact ⟨rfl, vo, vt, hm, GrowS.refl _ _, .inl rfl, .inl rfl⟩

end Go.Proofs.Ytgohnekaolgblaa
