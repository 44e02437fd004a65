/- What gimletref27.read tells, as a function; it tells what reader.value tells: plain. -/
import Derived.Test.YtgohnekaolgblaaRdLaw6
import Derived.Test.YtgohnekaolgblaaRfText
namespace Go.Proofs.Ytgohnekaolgblaa
open Go.RowKit

def Wd.rfAcc (f : Int → Nat → Option (Tr × Nat)) : List Int → List Tr → Nat → Option (List Tr × Nat)
  | [], acc, n => some (acc, n)
  | u :: us, acc, n => match f u n with
    | none => none
    | some (t, n') => Wd.rfAcc f us (acc ++ [t]) n'
/-- What stands behind a head. -/
def Wd.rfBody (f : Int → Nat → Option (Tr × Nat)) (ls : List Int) (next : Nat) (h : Int) : Option (Tr × Nat) :=
  if (Wd.unhead h).2.2.2 = false ∨ ls.length < next + (Wd.words h).1.toNat then none
  else if (Wd.unhead h).1 = 2 then
    if Wd.tw ((Wd.bys ((ls.drop (next + 1)).take ((Wd.words h).1.toNat - 1))).take (Wd.unhead h).2.2.1.toNat) ((Wd.words h).1.toNat - 1) = (ls.drop (next + 1)).take ((Wd.words h).1.toNat - 1) then
      some (.mk 2 0 (str ((Wd.bys ((ls.drop (next + 1)).take ((Wd.words h).1.toNat - 1))).take (Wd.unhead h).2.2.1.toNat)) [], next + (Wd.words h).1.toNat) else none
  else match Wd.rfAcc f ((ls.drop (next + 1)).take ((Wd.words h).1.toNat - 1)) [] (next + (Wd.words h).1.toNat) with
    | none => none
    | some (ts, n) => if (Wd.unhead h).1 = 1 ∨ 0 < (Wd.unhead h).2.2.1 then some (.mk (if (Wd.unhead h).1 = 1 then 4 else 3) (Wd.unhead h).2.1 ⟨#[]⟩ ts, n) else none
/-- The value of a word, whose words are laid from a place on; so many levels are left for things. -/
def Wd.rf (ls : List Int) (a : Int) : Nat → Int → Nat → Option (Tr × Nat)
  | 0, u, next => if (Wd.of u).2 = true then some (.mk 1 (Wd.of u).1 ⟨#[]⟩ [], next) else none
  | g + 1, u, next =>
    if (Wd.of u).2 = true then some (.mk 1 (Wd.of u).1 ⟨#[]⟩ [], next)
    else if u ≠ a + 4 * next then none
    else match ls[next]? with
      | none => none
      | some h => Wd.rfBody (fun u n => Wd.rf ls a g u n) ls next h

theorem Wd.rfAcc_none {f : Int → Nat → Option (Tr × Nat)} {own : List Int} {i : Nat} (hi : i < own.length) {ts : List Tr} {nx : Nat} (h : f own[i] nx = none) : Wd.rfAcc f (own.drop i) ts nx = none := by
  rw [List.drop_eq_getElem_cons hi, Wd.rfAcc, h]
theorem Wd.rfAcc_some {f : Int → Nat → Option (Tr × Nat)} {own : List Int} {i : Nat} (hi : i < own.length) {ts : List Tr} {nx : Nat} {t : Tr} {n' : Nat} (h : f own[i] nx = some (t, n')) : Wd.rfAcc f (own.drop i) ts nx = Wd.rfAcc f (own.drop (i + 1)) (ts ++ [t]) n' := by
  rw [List.drop_eq_getElem_cons hi, Wd.rfAcc, h]

/-- The bytes behind a text are noughts just if its words are the text's. -/
theorem Wd.tw_iff (own : List Int) (hr : ∀ x ∈ own, 0 ≤ x ∧ x < 4294967296) (size : Nat) (hs : size ≤ 4 * own.length) : ((Wd.bys own).drop size).all (fun x => x == 0) = true ↔ Wd.tw ((Wd.bys own).take size) own.length = own := by
  refine ⟨Wd.tw_bys own hr size, fun h => ?_⟩
  have hl : ((Wd.bys own).take size).length = size := by rw [List.length_take, Wd.bys_length]; omega
  have hb : Byt ((Wd.bys own).take size) := fun n hn => Wd.bys_byt own n (List.mem_of_mem_take hn)
  have e := Wd.bys_tw ((Wd.bys own).take size) hb own.length (by omega)
  rw [h, hl] at e
  have e2 : (Wd.bys own).drop size = List.replicate (4 * own.length - size) 0 := by
    rw [e, List.drop_append_of_le_length (by omega), List.drop_of_length_le (by omega), List.nil_append]
  rw [e2]
  simp

theorem Wd.rdAcc_rf {f : Int → Nat → Nat → Option (Tr × Nat × Nat)} {f' : Int → Nat → Option (Tr × Nat)} {N : Nat} (hb : ∀ u n m t n' m', n ≤ N → f u n m = some (t, n', m') → n' ≤ N) (hf : ∀ u n m t n' m', n ≤ N → f u n m = some (t, n', m') → f' u n = some (t, n')) : ∀ (us : List Int) (acc : List Tr) (n m : Nat) (ts : List Tr) (n' m' : Nat), n ≤ N →
    Wd.rdAcc f us acc n m = some (ts, n', m') → Wd.rfAcc f' us acc n = some (ts, n') := by
  intro us
  induction us with
  | nil =>
    intro acc n m ts n' m' _ h
    simp only [Wd.rdAcc, Option.some.injEq, Prod.mk.injEq] at h
    obtain ⟨rfl, rfl, rfl⟩ := h
    rfl
  | cons u us ih =>
    intro acc n m ts n' m' hn h
    rw [Wd.rdAcc] at h
    cases hq : f u n m with
    | none => rw [hq] at h; cases h
    | some r =>
      obtain ⟨t, n1, m1⟩ := r
      rw [hq] at h
      rw [Wd.rfAcc, hf _ _ _ _ _ _ hn hq]
      exact ih _ _ _ _ _ _ (hb _ _ _ _ _ _ hn hq) h

/-- What reader.value tells, read tells. -/
theorem Wd.rd_rf (ls : List Int) (a : Int) (ha0 : 0 ≤ a) (ha : a ≤ 2147483648) (hlr : ∀ x ∈ ls, 0 ≤ x ∧ x < 4294967296) (hl : ls.length ≤ 1048576) : ∀ (g : Nat) (u : Int) (n m : Nat) (t : Tr) (n' m' : Nat), n ≤ ls.length → Wd.rd ls a g u n m = some (t, n', m') → Wd.rf ls a g u n = some (t, n') := by
  intro g
  induction g with
  | zero => intro u n m t n' m' _ h; cases h
  | succ g ih =>
    intro u n m t n' m' hn h
    rw [Wd.rd] at h
    rw [Wd.rf]
    split at h
    · cases h
    split at h
    · rename_i ho
      rw [if_pos ho]
      simp only [Option.some.injEq, Prod.mk.injEq] at h
      obtain ⟨rfl, rfl, rfl⟩ := h
      rfl
    rename_i ho
    rw [if_neg ho]
    split at h
    · cases h
    rename_i hu
    simp only [ne_eq, Decidable.not_not] at hu
    rw [if_neg (by simp only [ne_eq, Decidable.not_not]; omega)]
    split at h
    · cases h
    rename_i hd hq
    rw [hq]
    simp only
    unfold Wd.rdBody at h
    unfold Wd.rfBody
    split at h
    · cases h
    rename_i hc
    simp only [not_or] at hc
    obtain ⟨c1, c2, c3⟩ := hc
    rw [if_neg (by simp only [not_or]; exact ⟨c1, c2⟩)]
    obtain ⟨k, kn, s, b, hun⟩ : ∃ k kn s b, Wd.unhead hd = (k, kn, s, b) := ⟨_, _, _, _, rfl⟩
    rw [hun] at h c1 c3 ⊢
    simp only at h c1 c3 ⊢
    obtain rfl : b = true := by simpa using c1
    have hw := Wd.unhead_words hun
    have hok := (Wd.unhead_ok hun).1
    obtain ⟨k0, k1, k2, k3, k4, k5, k6⟩ := hok
    have hol : ((ls.drop (n + 1)).take ((Wd.words hd).1.toNat - 1)).length = (Wd.words hd).1.toNat - 1 := by
      rw [List.length_take, List.length_drop]; omega
    by_cases hk : k = 2
    · rw [if_pos hk] at h ⊢
      unfold Wd.rdText at h
      split at h
      · rename_i hz
        simp only [Option.some.injEq, Prod.mk.injEq] at h
        obtain ⟨rfl, rfl, rfl⟩ := h
        have hsz : s.toNat ≤ 4 * ((ls.drop (n + 1)).take ((Wd.words hd).1.toNat - 1)).length := by
          rw [hol, hw, if_pos hk]
          simp only
          omega
        have e := (Wd.tw_iff _ (fun x hx => hlr x (List.mem_of_mem_drop (List.mem_of_mem_take hx))) s.toNat hsz).1 hz
        rw [hol] at e
        rw [if_pos e]
      · cases h
    · rw [if_neg hk] at h ⊢
      split at h
      · cases h
      · rename_i ts n1 m1 hacc
        simp only [Option.some.injEq, Prod.mk.injEq] at h
        obtain ⟨rfl, rfl, rfl⟩ := h
        have hbd : ∀ u n m t n' m', n ≤ ls.length → Wd.rd ls a g u n m = some (t, n', m') → n' ≤ ls.length := fun u n m t n' m' hn h => (Wd.rd_bound ls a g u n m t n' m' hn h).1
        have e := Wd.rdAcc_rf (f' := fun u n => Wd.rf ls a g u n) hbd (fun u n m t n' m' hn h => ih u n m t n' m' hn h) _ _ _ _ _ _ _ (by omega) hacc
        rw [e]
        simp only
        rw [if_pos]
        by_cases h1 : k = 1
        · exact .inl h1
        · refine .inr ?_
          have : k = 0 := by omega
          omega

theorem Wd.rfAcc_rd {f : Int → Nat → Nat → Option (Tr × Nat × Nat)} {f' : Int → Nat → Option (Tr × Nat)} {N : Nat} {g : Nat}
    (hf : ∀ u n m t n', n ≤ N → m ≤ n → t.deep ≤ g → f' u n = some (t, n') → ∃ m', f u n m = some (t, n', m') ∧ n ≤ n' ∧ n' ≤ N ∧ m' ≤ m + 1 + (n' - n)) : ∀ (us : List Int) (acc : List Tr) (n m : Nat) (ts : List Tr) (n' : Nat), n ≤ N → m + us.length ≤ n → Tr.deeps ts ≤ g →
    Wd.rfAcc f' us acc n = some (ts, n') → ∃ m', Wd.rdAcc f us acc n m = some (ts, n', m') ∧ n ≤ n' ∧ n' ≤ N ∧ m' ≤ m + us.length + (n' - n) ∧ ∃ more, ts = acc ++ more := by
  intro us
  induction us with
  | nil =>
    intro acc n m ts n' hn hm hd h
    simp only [Wd.rfAcc, Option.some.injEq, Prod.mk.injEq] at h
    obtain ⟨rfl, rfl⟩ := h
    exact ⟨m, rfl, by omega, hn, by simp, [], by simp⟩
  | cons u us ih =>
    intro acc n m ts n' hn hm hd h
    simp only [List.length_cons] at hm
    rw [Wd.rfAcc] at h
    cases hq : f' u n with
    | none => rw [hq] at h; cases h
    | some r =>
      obtain ⟨t, n1⟩ := r
      rw [hq] at h
      simp only at h
      have hts : ∃ more, ts = acc ++ [t] ++ more := by
        clear ih hf hm hq hn
        have aux : ∀ (us : List Int) (acc : List Tr) (n : Nat) (ts : List Tr) (n' : Nat), Wd.rfAcc f' us acc n = some (ts, n') → ∃ more, ts = acc ++ more := by
          intro us
          induction us with
          | nil =>
            intro acc n ts n' h
            simp only [Wd.rfAcc, Option.some.injEq, Prod.mk.injEq] at h
            exact ⟨[], by simp [h.1]⟩
          | cons u us ih =>
            intro acc n ts n' h
            rw [Wd.rfAcc] at h
            cases hq : f' u n with
            | none => rw [hq] at h; cases h
            | some r =>
              rw [hq] at h
              obtain ⟨more, e⟩ := ih _ _ _ _ h
              exact ⟨r.1 :: more, by rw [e]; simp⟩
        exact aux _ _ _ _ _ h
      have hdt : t.deep ≤ g := by
        obtain ⟨more, rfl⟩ := hts
        have : ∀ (l : List Tr) (x : Tr), x ∈ l → x.deep ≤ Tr.deeps l := by
          intro l x
          induction l with
          | nil => intro h; cases h
          | cons y l ih =>
            intro h
            simp only [Tr.deeps]
            rcases List.mem_cons.1 h with rfl | h
            · omega
            · have := ih h; omega
        have h2 := this (acc ++ [t] ++ more) t (by simp)
        omega
      obtain ⟨m1, e1, e2, e3, e4⟩ := hf u n m t n1 hn (by omega) hdt hq
      obtain ⟨m2, f1, f2, f3, f4, more, f5⟩ := ih _ _ m1 _ _ e3 (by omega) hd h
      refine ⟨m2, ?_, by omega, f3, by simp only [List.length_cons]; omega, [t] ++ more, by rw [f5]; simp⟩
      rw [Wd.rdAcc, e1]
      exact f1

/-- What read tells, reader.value tells, where it is not too deep, and the words are not many. -/
theorem Wd.rf_rd (ls : List Int) (a : Int) (ha0 : 0 ≤ a) (ha : a ≤ 2147483648) (hlr : ∀ x ∈ ls, 0 ≤ x ∧ x < 4294967296) (hl : ls.length ≤ 3000) : ∀ (g : Nat) (u : Int) (n m : Nat) (t : Tr) (n' : Nat), n ≤ ls.length → m ≤ n → t.deep ≤ g → Wd.rf ls a g u n = some (t, n') →
    ∃ m', Wd.rd ls a g u n m = some (t, n', m') ∧ n ≤ n' ∧ n' ≤ ls.length ∧ m' ≤ m + 1 + (n' - n) := by
  intro g
  induction g with
  | zero =>
    intro u n m t n' _ _ hd
    obtain ⟨k, kn, s, l⟩ := t
    simp [Tr.deep] at hd
  | succ g ih =>
    intro u n m t n' hn hm hd h
    rw [Wd.rf] at h
    rw [Wd.rd, if_neg (by omega)]
    split at h
    · rename_i ho
      rw [if_pos ho]
      simp only [Option.some.injEq, Prod.mk.injEq] at h
      obtain ⟨rfl, rfl⟩ := h
      exact ⟨m + 1, rfl, by omega, hn, by omega⟩
    rename_i ho
    rw [if_neg ho]
    split at h
    · cases h
    rename_i hu
    simp only [ne_eq, Decidable.not_not] at hu
    rw [if_neg (by simp only [ne_eq, Decidable.not_not]; omega)]
    split at h
    · cases h
    rename_i hd' hq
    rw [hq]
    simp only
    unfold Wd.rfBody at h
    unfold Wd.rdBody
    split at h
    · cases h
    rename_i hc
    simp only [not_or] at hc
    obtain ⟨c1, c2⟩ := hc
    obtain ⟨k, kn, s, b, hun⟩ : ∃ k kn s b, Wd.unhead hd' = (k, kn, s, b) := ⟨_, _, _, _, rfl⟩
    rw [hun] at h c1 ⊢
    simp only at h c1 ⊢
    obtain rfl : b = true := by simpa using c1
    have hw := Wd.unhead_words hun
    have hok := (Wd.unhead_ok hun).1
    obtain ⟨k0, k1, k2, k3, k4, k5, k6⟩ := hok
    have hol : ((ls.drop (n + 1)).take ((Wd.words hd').1.toNat - 1)).length = (Wd.words hd').1.toNat - 1 := by
      rw [List.length_take, List.length_drop]; omega
    have hwp : 1 ≤ (Wd.words hd').1.toNat := by
      rw [hw]
      simp only
      split <;> omega
    by_cases hk : k = 2
    · rw [if_neg (by simp only [not_or, not_and]; exact ⟨by simp, c2, fun e => by omega⟩)]
      rw [if_pos hk] at h ⊢
      split at h
      · rename_i hz
        simp only [Option.some.injEq, Prod.mk.injEq] at h
        obtain ⟨rfl, rfl⟩ := h
        have hsz : s.toNat ≤ 4 * ((ls.drop (n + 1)).take ((Wd.words hd').1.toNat - 1)).length := by
          rw [hol, hw, if_pos hk]
          simp only
          omega
        have e := (Wd.tw_iff _ (fun x hx => hlr x (List.mem_of_mem_drop (List.mem_of_mem_take hx))) s.toNat hsz).2 (by rw [hol]; exact hz)
        unfold Wd.rdText
        rw [if_pos e]
        exact ⟨m + 1, rfl, by omega, by omega, by omega⟩
      · cases h
    · rw [if_neg hk] at h
      split at h
      · cases h
      · rename_i ts n1 hacc
        split at h
        rotate_left
        · cases h
        rename_i hks
        simp only [Option.some.injEq, Prod.mk.injEq] at h
        obtain ⟨rfl, rfl⟩ := h
        rw [if_neg (by simp only [not_or, not_and]; exact ⟨by simp, c2, fun e => by omega⟩), if_neg hk]
        simp only [Tr.deep] at hd
        obtain ⟨m2, f1, f2, f3, f4, _⟩ := Wd.rfAcc_rd (f := fun u n m => Wd.rd ls a g u n m) (N := ls.length) (g := g) (fun u n m t n' hn hm hd h => ih u n m t n' hn hm hd h) _ _ _ (m + 1) _ _ (by omega) (by rw [hol]; omega) (by omega) hacc
        rw [hol] at f4
        rw [f1]
        exact ⟨m2, rfl, by omega, f3, by omega⟩

def Wd.rfRead (ls : List Int) (a u : Int) : Tr × Int :=
  if ¬ Wd.place a then (Wd.zero, 5) else if 1048576 < ls.length then (Wd.zero, 3) else match Wd.rf ls a 200 u 0 with
    | none => (Wd.zero, 4)
    | some (t, n) => if n = ls.length ∧ Wd.chk t = 0 then (t, 0) else (Wd.zero, 4)

/-- Both tell the same. -/
theorem Wd.rfRead_eq (ls : List Int) (a u : Int) (h0 : 0 ≤ a) (hlr : ∀ x ∈ ls, 0 ≤ x ∧ x < 4294967296) (hu : 0 ≤ u ∧ u < 4294967296) (hl : ls.length ≤ 3000) : Wd.rfRead ls a u = Wd.read ls a u := by
  by_cases hp : Wd.place a
  rotate_left
  · unfold Wd.rfRead Wd.read
    rw [if_pos hp, if_pos hp]
  have ha := hp.2.2
  cases hrd : Wd.rd ls a 200 u 0 0 with
  | some r =>
    obtain ⟨t, n, m⟩ := r
    have e := Wd.rd_rf ls a h0 ha hlr (by omega) 200 u 0 0 t n m (by omega) hrd
    have hre : Wd.read ls a u = if n = ls.length then (t, 0) else (Wd.zero, 4) := by
      unfold Wd.read
      rw [if_neg (by simpa using hp), if_neg (by omega), hrd]
    unfold Wd.rfRead
    rw [if_neg (by simpa using hp), if_neg (by omega), e, hre]
    simp only
    by_cases hn : n = ls.length
    · rw [if_pos hn] at hre ⊢
      have hc := (Wd.lay_read ls a u t h0 hlr hu hre).1
      have hchk : Wd.chk t = 0 := by
        unfold Wd.lay at hc
        rw [if_neg (by simpa using hp)] at hc
        by_cases hz : Wd.chk t = 0
        · exact hz
        · rw [if_pos hz] at hc
          simp only [Prod.mk.injEq] at hc
          exact hc.2.2
      rw [if_pos ⟨hn, hchk⟩]
    · rw [if_neg hn, if_neg (fun h => hn h.1)]
  | none =>
    have hre : Wd.read ls a u = (Wd.zero, 4) := by
      unfold Wd.read
      rw [if_neg (by simpa using hp), if_neg (by omega), hrd]
    unfold Wd.rfRead
    rw [if_neg (by simpa using hp), if_neg (by omega), hre]
    cases hrf : Wd.rf ls a 200 u 0 with
    | none => rfl
    | some r =>
      obtain ⟨t, n⟩ := r
      simp only
      rw [if_neg]
      rintro ⟨hn, hc⟩
      obtain ⟨m', e, _⟩ := Wd.rf_rd ls a h0 ha hlr hl 200 u 0 0 t n (by omega) (by omega) (Wd.chk_ok hc).2.1 hrf
      rw [hrd] at e
      cases e

end Go.Proofs.Ytgohnekaolgblaa
