/- Layer 1 in plain Lean: what bytes are read as. No program stands here. -/
import Derived.Test.YtdlfmchpaohoaaaDoorLebPlain
namespace Go.Proofs.YtdlfmchpaohoaaaDoor.Leb

/-- The parts of a number that bytes begin with (at most so many follow the first one), and the place behind; or nothing, and the place of the fault. -/
def rd (last : Int → Bool) : Nat → List Int → Int → Option (List Int) × Int
  | _, [], p => (none, p)
  | 0, c :: _, p => if c < 128 ∧ last c = true then (some [c], p + 1) else (none, p)
  | f + 1, c :: r, p => if c < 128 then (some [c], p + 1) else ((rd last f r (p + 1)).1.map (c % 128 :: ·), (rd last f r (p + 1)).2)

/-- What parts are together. -/
def val : List Int → Int
  | [] => 0
  | c :: l => c + 128 * val l

/-- The same in two's complement. -/
def sval (l : List Int) : Int := if 64 ≤ l.getLastD 0 then val l - 128 ^ l.length else val l

/-- Put ahead of what is read. -/
def pre (acc : List Int) (r : Option (List Int) × Int) : Option (List Int) × Int := (r.1.map (acc ++ ·), r.2)

def Parts (l : List Int) : Prop := ∀ c ∈ l, 0 ≤ c ∧ c < 128

theorem val_nonneg {l : List Int} (h : Parts l) : 0 ≤ val l := by
  induction l with
  | nil => simp [val]
  | cons c l ih => simp only [val]; have := h c (by simp); have := ih (fun x hx => h x (by simp [hx])); omega

theorem val_lt {l : List Int} (h : Parts l) : val l < 128 ^ l.length := by
  induction l with
  | nil => simp [val]
  | cons c l ih =>
    simp only [val, List.length_cons, Int.pow_succ]
    have := h c (by simp); have := ih (fun x hx => h x (by simp [hx]))
    generalize (128 : Int) ^ l.length = p at *
    omega

theorem val_append (l m : List Int) : val (l ++ m) = val l + 128 ^ l.length * val m := by
  induction l with
  | nil => simp [val]
  | cons c l ih => simp only [List.cons_append, val, ih, List.length_cons, Int.pow_succ, Int.mul_add]; rw [Int.mul_comm (128 ^ l.length) 128, Int.mul_assoc]; omega

theorem Parts.append {l m : List Int} (h : Parts l) (k : Parts m) : Parts (l ++ m) := by
  intro c hc; rcases List.mem_append.1 hc with hc | hc
  · exact h c hc
  · exact k c hc

/-- A reader's state: i bytes are read, from the place at on. -/
structure AtG (last : Int → Bool) (bs : List Int) (a : Nat) (i : Nat) (acc : List Int) : Prop where
  le : i ≤ 4
  len : acc.length = i
  parts : Parts acc
  fit : a + i ≤ bs.length
  is : rd last 4 (bs.drop a) a = pre acc (rd last (4 - i) (bs.drop (a + i)) ((a : Int) + i))

theorem AtG.start (last : Int → Bool) {bs : List Int} {a : Nat} (h : a ≤ bs.length) : AtG last bs a 0 [] :=
  ⟨by omega, rfl, (fun _ h => by cases h), h, by simp [pre]⟩

theorem AtG.short {last : Int → Bool} {bs : List Int} {a i : Nat} {acc : List Int} (h : AtG last bs a i acc) (hl : bs.length ≤ a + i) :
    rd last 4 (bs.drop a) a = (none, (bs.length : Int)) := by
  have := h.fit
  rw [h.is, List.drop_eq_nil_of_le hl, show (a : Int) + i = bs.length from by omega]
  cases 4 - i <;> simp [rd, pre]

theorem drop_at {bs : List Int} {k : Nat} (h : k < bs.length) : bs.drop k = bs[k] :: bs.drop (k + 1) := List.drop_eq_getElem_cons h

theorem AtG.bad {last : Int → Bool} {bs : List Int} {a : Nat} {acc : List Int} (h : AtG last bs a 4 acc) (hl : a + 4 < bs.length) (hb : 128 ≤ bs[a + 4] ∨ last bs[a + 4] = false) :
    rd last 4 (bs.drop a) a = (none, (a : Int) + 4) := by
  rw [h.is, drop_at hl]
  have : ¬ (bs[a + 4] < 128 ∧ last bs[a + 4] = true) := by
    rintro ⟨h1, h2⟩
    rcases hb with hb | hb
    · omega
    · rw [hb] at h2; cases h2
  simp only [Nat.sub_self, rd, if_neg this, pre]; rfl

theorem AtG.done {last : Int → Bool} {bs : List Int} {a i : Nat} {acc : List Int} (h : AtG last bs a i acc) (hl : a + i < bs.length) (hc : bs[a + i] < 128) (hg : i = 4 → last bs[a + i] = true) :
    rd last 4 (bs.drop a) a = (some (acc ++ [bs[a + i]]), (a : Int) + i + 1) := by
  rw [h.is, drop_at hl]
  by_cases h4 : i = 4
  · subst h4
    simp only [Nat.sub_self, rd, if_pos (And.intro hc (hg rfl)), pre]; rfl
  · obtain ⟨f, hf⟩ : ∃ f, 4 - i = f + 1 := ⟨3 - i, by have := h.le; omega⟩
    simp only [hf, rd, if_pos hc, pre]; rfl

theorem AtG.step {last : Int → Bool} {bs : List Int} {a i : Nat} {acc : List Int} (h : AtG last bs a i acc) (hl : a + i < bs.length) (hc : 128 ≤ bs[a + i]) (h4 : i < 4) :
    AtG last bs a (i + 1) (acc ++ [bs[a + i] % 128]) := by
  refine ⟨by omega, by simp [h.len], h.parts.append (fun c hc => by simp at hc; subst hc; omega), by omega, ?_⟩
  rw [h.is, drop_at hl]
  obtain ⟨f, hf⟩ : ∃ f, 4 - i = f + 1 := ⟨3 - i, by omega⟩
  have hf' : 4 - (i + 1) = f := by omega
  simp only [hf, hf', rd, if_neg (show ¬ bs[a + i] < 128 by omega), pre, Option.map_map]
  rw [show a + i + 1 = a + (i + 1) from rfl, show (a : Int) + i + 1 = (a : Int) + ((i + 1 : Nat) : Int) from by omega]
  congr 1
  cases (rd last f (bs.drop (a + (i + 1))) ((a : Int) + ((i + 1 : Nat) : Int))).1 <;> simp

/-- What the bytes at a place are as a number from 0 on: the number, the place behind, the fault and its place. -/
def lastU (c : Int) : Bool := decide (c ≤ 15)
def lastS (c : Int) : Bool := decide (c ≤ 7 ∨ 120 ≤ c)

def tell (f : List Int → Int) : Option (List Int) × Int → Int × Int × Int × Int
  | (some l, q) => (f l, q, 0, 0)
  | (none, q) => (0, 0, 4, q)

def getU (bs : List Int) (at_ : Int) : Int × Int × Int × Int :=
  if at_ < 0 ∨ (bs.length : Int) < at_ then (0, 0, 5, 0) else tell val (rd lastU 4 (bs.drop at_.toNat) at_)

def getS (bs : List Int) (at_ : Int) : Int × Int × Int × Int :=
  if at_ < 0 ∨ (bs.length : Int) < at_ then (0, 0, 5, 0) else tell sval (rd lastS 4 (bs.drop at_.toNat) at_)

/-- What is read are parts; at least one, at most five; they end where it says. -/
theorem rd_parts {last : Int → Bool} {f : Nat} {r : List Int} {p q : Int} {l : List Int} (hb : ∀ c ∈ r, 0 ≤ c ∧ c ≤ 255) (h : rd last f r p = (some l, q)) :
    Parts l ∧ 1 ≤ l.length ∧ l.length ≤ f + 1 ∧ q = p + l.length ∧ l.length ≤ r.length ∧ (l.length = f + 1 → last (l.getLastD 0) = true) := by
  induction f generalizing r p q l with
  | zero =>
    cases r with
    | nil => simp [rd] at h
    | cons c r =>
      simp only [rd] at h
      split at h
      · rename_i hc
        simp only [Prod.mk.injEq, Option.some.injEq] at h
        obtain ⟨rfl, rfl⟩ := h
        have := hb c (by simp)
        refine ⟨fun x hx => by simp at hx; subst hx; omega, by simp, by simp, by simp, by simp, fun _ => by simpa using hc.2⟩
      · simp at h
  | succ f ih =>
    cases r with
    | nil => simp [rd] at h
    | cons c r =>
      simp only [rd] at h
      split at h
      · rename_i hc
        simp only [Prod.mk.injEq, Option.some.injEq] at h
        obtain ⟨rfl, rfl⟩ := h
        have := hb c (by simp)
        exact ⟨fun x hx => by simp at hx; subst hx; omega, by simp, by simp, by simp, by simp, fun hh => by simp at hh⟩
      · simp only [Prod.mk.injEq] at h
        obtain ⟨h1, h2⟩ := h
        obtain ⟨m, hm, rfl⟩ := Option.map_eq_some_iff.1 h1
        obtain ⟨i1, i2, i3, i4, i5, i6⟩ := ih (fun x hx => hb x (by simp [hx])) (Prod.ext hm h2)
        refine ⟨fun x hx => ?_, by simp, by simp; omega, by simp; omega, by simp; omega, fun hh => ?_⟩
        · simp only [List.mem_cons] at hx
          rcases hx with rfl | hx
          · omega
          · exact i1 x hx
        · have := i6 (by simpa using hh)
          cases m with
          | nil => simp at i2
          | cons y m => simpa using this

end Go.Proofs.YtdlfmchpaohoaaaDoor.Leb
