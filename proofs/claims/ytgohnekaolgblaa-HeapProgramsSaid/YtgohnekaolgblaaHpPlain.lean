/- Heaps: where things lie, what may stand in a heap, what is moved: plain. -/
import Derived.Test.YtgohnekaolgblaaWdUn
namespace Go.Proofs.Ytgohnekaolgblaa

def Hp.wn (h : Int) : Nat := (Wd.words h).1.toNat
def Hp.sz (h : Int) : Nat := (Wd.unhead h).2.2.1.toNat
/-- Where things lie, from the word i on; none: they are no things, one behind the other. -/
def Hp.starts (ls : List Int) : Nat → Nat → Option (List Nat)
  | 0, i => if i < ls.length then none else some []
  | g + 1, i => match ls[i]? with
    | none => some []
    | some h => if (Wd.words h).2 = false ∨ ls.length < i + Hp.wn h then none else (Hp.starts ls g (i + Hp.wn h)).map (i :: ·)
def Hp.heads (ls : List Int) : Option (List Nat) := Hp.starts ls ls.length 0
/-- The words of a thing that may be addresses. -/
def Hp.fields (ls : List Int) (i : Nat) : List Int :=
  match ls[i]? with
  | none => []
  | some h => if (Wd.unhead h).1 = 2 then [] else (ls.drop (i + 1)).take (Hp.sz h)
def Hp.place (a : Int) : Prop := 8 ≤ a ∧ a % 8 = 0 ∧ a ≤ 2147483648
instance Hp.decPlace (a : Int) : Decidable (Hp.place a) := inferInstanceAs (Decidable (_ ∧ _))
/-- Is a word an address, and where does it lead? -/
def Hp.isAdr (at_ w : Int) : Bool := w % 2 == 0 && decide (at_ ≤ w)
def Hp.idx (at_ w : Int) : Nat := ((w - at_) / 4).toNat
def Hp.whole (at_ w : Int) : Bool := (w - at_) % 4 == 0
/-- May a word stand in a heap? -/
def Hp.okw (S : Nat → Bool) (at_ w : Int) : Bool := !Hp.isAdr at_ w || (Hp.whole at_ w && S (Hp.idx at_ w))
def Hp.okws (S : Nat → Bool) (at_ : Int) (ws : List Int) : Bool := ws.all (Hp.okw S at_)
def Hp.mem (hs : List Nat) (k : Nat) : Bool := decide (k ∈ hs)
def Hp.chk (ls : List Int) (at_ : Int) (roots : List Int) : Int :=
  if 65536 < ls.length ∨ 4096 < roots.length then 141 else match Hp.heads ls with
  | none => 2
  | some hs => if Hp.place at_ ∧ Hp.okws (Hp.mem hs) at_ roots = true ∧ ∀ i ∈ hs, Hp.okws (Hp.mem hs) at_ (Hp.fields ls i) = true then 0 else 2

theorem Wd.words_pos {h : Int} (hw : (Wd.words h).2 = true) : 1 ≤ Hp.wn h ∧ (Wd.unhead h).2.2.2 = true ∧ ((Wd.unhead h).1 ≠ 2 → Hp.wn h = 1 + Hp.sz h) ∧ Hp.wn h ≤ 5000 := by
  have hs := Wd.unhead_size h
  unfold Wd.words at hw
  unfold Hp.wn Hp.sz Wd.words
  by_cases hu : (Wd.unhead h).2.2.2 = true
  · rw [if_pos hu] at hw ⊢
    refine ⟨?_, hu, fun hk => ?_, ?_⟩
    · split <;> simp only <;> omega
    · rw [if_neg hk]; simp only; omega
    · split <;> simp only <;> omega
  · rw [if_neg hu] at hw; cases hw

/-- The measure of what is left pays. -/
theorem Hp.starts_more (ls : List Int) : ∀ (g i : Nat), ls.length ≤ i + g → Hp.starts ls g i = Hp.starts ls (g + 1) i := by
  intro g
  induction g with
  | zero =>
    intro i hi
    rw [Hp.starts, if_neg (by omega), Hp.starts, List.getElem?_eq_none (by omega)]
  | succ g ih =>
    intro i hi
    rw [Hp.starts, Hp.starts]
    cases hq : ls[i]? with
    | none => rfl
    | some h =>
      simp only
      by_cases hc : (Wd.words h).2 = false ∨ ls.length < i + Hp.wn h
      · rw [if_pos hc, if_pos hc]
      · rw [if_neg hc, if_neg hc]
        have hp := (Wd.words_pos (h := h) (by simpa using (not_or.1 hc).1)).1
        rw [ih _ (by omega)]
theorem Hp.starts_any (ls : List Int) (i : Nat) : ∀ (g : Nat), ls.length ≤ i + g → Hp.starts ls g i = Hp.starts ls (ls.length - i) i := by
  intro g
  induction g with
  | zero => intro h; rw [show ls.length - i = 0 by omega]
  | succ g ih =>
    intro h
    by_cases h2 : ls.length ≤ i + g
    · rw [← Hp.starts_more ls g i h2]; exact ih h2
    · rw [show ls.length - i = g + 1 by omega]
/-- From a place on. -/
def Hp.from (ls : List Int) (i : Nat) : Option (List Nat) := Hp.starts ls (ls.length - i) i
theorem Hp.from_end (ls : List Int) (i : Nat) (h : ls.length ≤ i) : Hp.from ls i = some [] := by
  unfold Hp.from
  rw [show ls.length - i = 0 by omega, Hp.starts, if_neg (by omega)]
theorem Hp.from_bad (ls : List Int) (i : Nat) (h : i < ls.length) (hb : (Wd.words ls[i]).2 = false ∨ ls.length < i + Hp.wn ls[i]) : Hp.from ls i = none := by
  unfold Hp.from
  rw [show ls.length - i = (ls.length - i - 1) + 1 by omega, Hp.starts, List.getElem?_eq_getElem h]
  simp only
  rw [if_pos hb]
theorem Hp.from_next (ls : List Int) (i : Nat) (h : i < ls.length) (hw : (Wd.words ls[i]).2 = true) (hl : i + Hp.wn ls[i] ≤ ls.length) : Hp.from ls i = (Hp.from ls (i + Hp.wn ls[i])).map (i :: ·) := by
  have hp := (Wd.words_pos hw).1
  unfold Hp.from
  rw [show ls.length - i = (ls.length - i - 1) + 1 by omega, Hp.starts, List.getElem?_eq_getElem h]
  simp only
  rw [if_neg (by rw [hw]; simp; omega), Hp.starts_any ls (i + Hp.wn ls[i]) (ls.length - i - 1) (by omega)]

/-- What is known of a place that is a head's. -/
structure Hp.Head (ls : List Int) (i : Nat) : Prop where
  lt : i < ls.length
  yes : (Wd.words ls[i]).2 = true
  fits : i + Hp.wn ls[i] ≤ ls.length
theorem Hp.from_head (ls : List Int) : ∀ (m i : Nat) (hs : List Nat), ls.length - i ≤ m → Hp.from ls i = some hs → ∀ k ∈ hs, i ≤ k ∧ Hp.Head ls k := by
  intro m
  induction m with
  | zero =>
    intro i hs hm h
    rw [Hp.from_end ls i (by omega)] at h
    cases h
    intro k hk; cases hk
  | succ m ih =>
    intro i hs hm h k hk
    by_cases hi : i < ls.length
    · by_cases hb : (Wd.words ls[i]).2 = false ∨ ls.length < i + Hp.wn ls[i]
      · rw [Hp.from_bad ls i hi hb] at h; cases h
      · simp only [not_or] at hb
        have hw : (Wd.words ls[i]).2 = true := by simpa using hb.1
        have hp := (Wd.words_pos hw).1
        rw [Hp.from_next ls i hi hw (by omega)] at h
        obtain ⟨hs', h1, rfl⟩ := Option.map_eq_some_iff.1 h
        rcases List.mem_cons.1 hk with rfl | hk
        · exact ⟨Nat.le_refl _, hi, hw, by omega⟩
        · have := ih _ _ (by omega) h1 k hk
          exact ⟨by omega, this.2⟩
    · rw [Hp.from_end ls i (by omega)] at h
      cases h
      cases hk
theorem Hp.heads_head {ls : List Int} {hs : List Nat} (h : Hp.heads ls = some hs) {k : Nat} (hk : k ∈ hs) : Hp.Head ls k := by
  have h' : Hp.from ls 0 = some hs := by unfold Hp.from; exact h
  exact (Hp.from_head ls _ _ _ (Nat.le_refl _) h' k hk).2
theorem Hp.fields_head {ls : List Int} {i : Nat} (h : Hp.Head ls i) : (Hp.fields ls i).length = (if (Wd.unhead ls[i]!).1 = 2 then 0 else Hp.sz ls[i]!) ∧ 1 + (Hp.fields ls i).length ≤ Hp.wn ls[i]! := by
  have hlt := h.lt
  have hy := h.yes
  have hf := h.fits
  have e : ls[i]! = ls[i] := by rw [getElem!_def, List.getElem?_eq_getElem hlt]
  rw [e]
  have hp := Wd.words_pos hy
  unfold Hp.fields
  rw [List.getElem?_eq_getElem hlt]
  simp only
  by_cases hk : (Wd.unhead ls[i]).1 = 2
  · simp only [hk, if_true, List.length_nil]
    exact ⟨trivial, by omega⟩
  · rw [if_neg hk, if_neg hk]
    have := hp.2.2.1 hk
    simp only [List.length_take, List.length_drop]
    omega

/-! ### what is moved -/
def Hp.wnAt (ls : List Int) (i : Nat) : Nat := match ls[i]? with | none => 0 | some h => Hp.wn h
def Hp.thing (ls : List Int) (i : Nat) : List Int := (ls.drop i).take (Hp.wnAt ls i)
/-- Where each thing stands, of those that were moved, in order. -/
def Hp.pos (ls : List Int) : List Nat → Nat → Nat → Option Nat
  | [], _, _ => none
  | j :: r, acc, i => if j = i then some acc else Hp.pos ls r (acc + Hp.wnAt ls j) i
def Hp.sum (ls : List Int) : List Nat → Nat
  | [] => 0
  | j :: r => Hp.wnAt ls j + Hp.sum ls r
/-- A word, behind the move; what was moved, in order; the new words. -/
def Hp.word (ls : List Int) (at_ to : Int) (o : List Nat) (out : List Int) (w : Int) : Int × List Nat × List Int :=
  if Hp.isAdr at_ w = true ∧ Hp.whole at_ w = true then
    match Hp.pos ls o 0 (Hp.idx at_ w) with
    | some n => (to + 4 * n, o, out)
    | none => (to + 4 * out.length, o ++ [Hp.idx at_ w], out ++ Hp.thing ls (Hp.idx at_ w))
  else (w, o, out)
def Hp.roots (ls : List Int) (at_ to : Int) : List Int → List Nat → List Int → List Int × List Nat × List Int
  | [], o, out => ([], o, out)
  | w :: ws, o, out => let p := Hp.word ls at_ to o out w; let q := Hp.roots ls at_ to ws p.2.1 p.2.2; (p.1 :: q.1, q.2)
/-- The words of a thing, which stands at p - 1. -/
def Hp.fill (ls : List Int) (at_ to : Int) : List Int → Nat → List Nat → List Int → List Nat × List Int
  | [], _, o, out => (o, out)
  | w :: ws, p, o, out => let q := Hp.word ls at_ to o out w; Hp.fill ls at_ to ws (p + 1) q.2.1 (q.2.2.set p q.1)
def Hp.scan (ls : List Int) (at_ to : Int) : Nat → Nat → List Nat → List Int → List Nat × List Int
  | 0, _, o, out => (o, out)
  | g + 1, k, o, out => match o[k]? with
    | none => (o, out)
    | some i => let q := Hp.fill ls at_ to (Hp.fields ls i) (((Hp.pos ls o 0 i).getD 0) + 1) o out; Hp.scan ls at_ to g (k + 1) q.1 q.2
def Hp.move (ls : List Int) (at_ : Int) (roots : List Int) (to : Int) : List Int × List Int :=
  let p := Hp.roots ls at_ to roots [] []
  ((Hp.scan ls at_ to (ls.length + 1) 0 p.2.1 p.2.2).2, p.1)

end Go.Proofs.Ytgohnekaolgblaa
