/- Layer 2 in plain Lean: runes of bytes; the document's way to read one is the decoder's. -/
import Derived.Test.YtdlfmchpaohoaaaDoorSees
import Derived.Lib.DecodeN
import Derived.Laws.RangeAny
namespace Go.Proofs.YtdlfmchpaohoaaaDoor.Nm

/-- The byte at a place; 0 behind the end. -/
def bt (xs : List Int) (k : Nat) : Nat := (xs.getD k 0).toNat

theorem bt_lt {xs : List Int} (hb : Byt xs) (k : Nat) : bt xs k < 256 := by
  unfold bt
  by_cases h : k < xs.length
  · have := hb _ (List.getElem_mem h)
    rw [List.getD_eq_getElem?_getD, List.getElem?_eq_getElem h]
    simp; omega
  · rw [List.getD_eq_getElem?_getD, List.getElem?_eq_none (by omega)]; simp

theorem bt_get {xs : List Int} (hb : Byt xs) {k : Nat} (h : k < xs.length) : xs[k] = (bt xs k : Int) := by
  have := hb _ (List.getElem_mem h)
  unfold bt
  rw [List.getD_eq_getElem?_getD, List.getElem?_eq_getElem h]
  simp; omega

theorem str_get {xs : List Int} (hb : Byt xs) (k : Nat) : ((str xs).get! k).toNat = bt xs k := by
  have hs := str_size xs
  by_cases h : k < xs.length
  · have e : (str xs).get! k = (str xs)[k]'(by omega) := by
      have := get_at (str xs) k (by omega)
      simpa using this
    rw [e]
    show ((xs.map fun n => UInt8.ofNat n.toNat).toArray[k]'(by simpa using h)).toNat = _
    have := hb _ (List.getElem_mem h)
    rw [List.getElem_toArray, List.getElem_map, byte_back this]
    unfold bt
    rw [List.getD_eq_getElem?_getD, List.getElem?_eq_getElem h]; rfl
  · have e : (str xs).get! k = 0 := by
      show (str xs).data[k]! = 0
      rw [getElem!_neg]
      · rfl
      · simp only [str, List.size_toArray, List.length_map]; omega
    rw [e]
    unfold bt
    rw [List.getD_eq_getElem?_getD, List.getElem?_eq_none (by omega)]; rfl

/-- What the decoder tells at a place: the rune, and how many bytes it has. -/
def dec (xs : List Int) (i : Nat) : Nat × Nat := Lib.decodeN (xs.length - i) (bt xs i) (bt xs (i + 1)) (bt xs (i + 2)) (bt xs (i + 3))

theorem dec_eq {xs : List Int} (hb : Byt xs) (i : Nat) : Utf8.decode (str xs) i = dec xs i := by
  rw [Lib.decode_at, str_size, str_get hb, str_get hb, str_get hb, str_get hb]; rfl

theorem bt_drop (xs : List Int) (i k : Nat) : bt (xs.drop i) k = bt xs (i + k) := by
  unfold bt; simp [List.getD_eq_getElem?_getD, List.getElem?_drop]

theorem dec_drop (xs : List Int) (i : Nat) : dec (xs.drop i) 0 = dec xs i := by
  unfold dec
  simp [bt_drop]

/-- The bytes of the rune at a place are none. -/
def bad (xs : List Int) (i : Nat) : Prop := dec xs i = (65533, 1)
instance (xs : List Int) (i : Nat) : Decidable (bad xs i) := inferInstanceAs (Decidable (_ = _))

theorem decodeN_pos (n b0 b1 b2 b3 : Nat) : 1 ≤ (Lib.decodeN n b0 b1 b2 b3).2 := by
  unfold Lib.decodeN
  repeat' split
  all_goals simp

theorem dec_pos (xs : List Int) (i : Nat) : 1 ≤ (dec xs i).2 := decodeN_pos _ _ _ _ _

theorem decodeN_fits (n b0 b1 b2 b3 : Nat) (hn : 1 ≤ n) : (Lib.decodeN n b0 b1 b2 b3).2 ≤ n := by
  unfold Lib.decodeN
  repeat' split
  all_goals simp
  all_goals omega

theorem dec_fits (xs : List Int) (i : Nat) (h : i < xs.length) : i + (dec xs i).2 ≤ xs.length := by
  have := decodeN_fits (xs.length - i) (bt xs i) (bt xs (i + 1)) (bt xs (i + 2)) (bt xs (i + 3)) (by omega)
  unfold dec; omega

theorem decodeN_le (n b0 b1 b2 b3 : Nat) (h0 : b0 < 256) : (Lib.decodeN n b0 b1 b2 b3).1 ≤ 1114111 := by
  unfold Lib.decodeN
  repeat' split
  all_goals simp
  all_goals omega

theorem dec_le {xs : List Int} (hb : Byt xs) (i : Nat) : (dec xs i).1 ≤ 1114111 := decodeN_le _ _ _ _ _ (bt_lt hb i)

/-- The runes from a place on, and where there is none. -/
def runes (xs : List Int) : Nat → Nat → List Int × Option Nat
  | 0, _ => ([], none)
  | f + 1, p => if p < xs.length then (if bad xs p then ([], some p) else (((dec xs p).1 : Int) :: (runes xs f (p + (dec xs p).2)).1, (runes xs f (p + (dec xs p).2)).2)) else ([], none)

/-- How many bytes go on behind a first byte; none: it is no first byte. -/
def more (b : Nat) : Option Nat := if b < 128 then some 0 else if 192 ≤ b ∧ b < 224 then some 1 else if 224 ≤ b ∧ b < 240 then some 2 else if 240 ≤ b ∧ b < 248 then some 3 else none

def tl (n k b : Nat) : Prop := k < n ∧ 128 ≤ b ∧ b < 192
instance (n k b : Nat) : Decidable (tl n k b) := inferInstanceAs (Decidable (_ ∧ _))

def runeOk (v : Nat) : Prop := v ≤ 1114111 ∧ (v < 55296 ∨ 57343 < v)
instance (v : Nat) : Decidable (runeOk v) := inferInstanceAs (Decidable (_ ∧ _))

def oneLen (v : Nat) : Nat := if v < 128 then 1 else if v < 2048 then 2 else if v < 65536 then 3 else 4

/-- The document's way. -/
def refN (n b0 b1 b2 b3 : Nat) : Option (Nat × Nat) :=
  if b0 < 128 then some (b0, 1)
  else if 192 ≤ b0 ∧ b0 < 224 then (if tl n 1 b1 ∧ runeOk (64 * (b0 - 192) + (b1 - 128)) ∧ oneLen (64 * (b0 - 192) + (b1 - 128)) = 2 then some (64 * (b0 - 192) + (b1 - 128), 2) else none)
  else if 224 ≤ b0 ∧ b0 < 240 then (if tl n 1 b1 ∧ tl n 2 b2 ∧ runeOk (64 * (64 * (b0 - 224) + (b1 - 128)) + (b2 - 128)) ∧ oneLen (64 * (64 * (b0 - 224) + (b1 - 128)) + (b2 - 128)) = 3 then some (64 * (64 * (b0 - 224) + (b1 - 128)) + (b2 - 128), 3) else none)
  else if 240 ≤ b0 ∧ b0 < 248 then (if tl n 1 b1 ∧ tl n 2 b2 ∧ tl n 3 b3 ∧ runeOk (64 * (64 * (64 * (b0 - 240) + (b1 - 128)) + (b2 - 128)) + (b3 - 128)) ∧ oneLen (64 * (64 * (64 * (b0 - 240) + (b1 - 128)) + (b2 - 128)) + (b3 - 128)) = 4 then some (64 * (64 * (64 * (b0 - 240) + (b1 - 128)) + (b2 - 128)) + (b3 - 128), 4) else none)
  else none

theorem oneLen_two (v : Nat) : oneLen v = 2 ↔ 128 ≤ v ∧ v < 2048 := by unfold oneLen; (repeat' split) <;> omega
theorem oneLen_three (v : Nat) : oneLen v = 3 ↔ 2048 ≤ v ∧ v < 65536 := by unfold oneLen; (repeat' split) <;> omega
theorem oneLen_four (v : Nat) : oneLen v = 4 ↔ 65536 ≤ v := by unfold oneLen; (repeat' split) <;> omega

set_option maxHeartbeats 4000000 in
theorem refN_eq (n b0 b1 b2 b3 : Nat) (h0 : b0 < 256) (h1 : b1 < 256) (h2 : b2 < 256) (h3 : b3 < 256) :
    refN n b0 b1 b2 b3 = if Lib.decodeN n b0 b1 b2 b3 = (65533, 1) then none else some (Lib.decodeN n b0 b1 b2 b3) := by
  by_cases c0 : b0 < 128
  · have hd : Lib.decodeN n b0 b1 b2 b3 = (b0, 1) := by unfold Lib.decodeN; rw [if_pos c0]
    have hr : refN n b0 b1 b2 b3 = some (b0, 1) := by unfold refN; rw [if_pos c0]
    rw [hd, hr, if_neg (by intro h; injection h with h _; omega)]
  · by_cases c1 : 192 ≤ b0 ∧ b0 < 224
    · have hr : refN n b0 b1 b2 b3 = if tl n 1 b1 ∧ runeOk (64 * (b0 - 192) + (b1 - 128)) ∧ oneLen (64 * (b0 - 192) + (b1 - 128)) = 2 then some (64 * (b0 - 192) + (b1 - 128), 2) else none := by
        unfold refN; rw [if_neg c0, if_pos c1]
      rw [hr]
      unfold Lib.decodeN
      rw [if_neg c0]
      by_cases t1 : tl n 1 b1
      · have e : b0 / 32 = 6 ∧ (1 < n ∧ b1 / 64 = 2) := by unfold tl at t1; omega
        have hv : b0 % 32 * 64 + b1 % 64 = 64 * (b0 - 192) + (b1 - 128) := by unfold tl at t1; omega
        rw [if_pos e, hv]
        by_cases hg : 64 * (b0 - 192) + (b1 - 128) ≥ 128
        · have ht : tl n 1 b1 ∧ runeOk (64 * (b0 - 192) + (b1 - 128)) ∧ oneLen (64 * (b0 - 192) + (b1 - 128)) = 2 := by
            refine ⟨t1, ?_, ?_⟩
            · unfold tl at t1; unfold runeOk; omega
            · unfold tl at t1; rw [oneLen_two]; omega
          rw [if_pos hg, if_pos ht, if_neg (by intro h; injection h with _ h; omega)]
        · have ht : ¬ (tl n 1 b1 ∧ runeOk (64 * (b0 - 192) + (b1 - 128)) ∧ oneLen (64 * (b0 - 192) + (b1 - 128)) = 2) := by
            rintro ⟨_, _, h⟩; rw [oneLen_two] at h; omega
          rw [if_neg hg, if_neg ht, if_pos rfl]
      · have e : ¬ (b0 / 32 = 6 ∧ (1 < n ∧ b1 / 64 = 2)) := by unfold tl at t1; omega
        have e2 : ¬ (b0 / 16 = 14 ∧ (1 < n ∧ b1 / 64 = 2) ∧ (2 < n ∧ b2 / 64 = 2)) := by omega
        have e3 : ¬ (b0 / 8 = 30 ∧ (1 < n ∧ b1 / 64 = 2) ∧ (2 < n ∧ b2 / 64 = 2) ∧ (3 < n ∧ b3 / 64 = 2)) := by omega
        rw [if_neg e, if_neg e2, if_neg e3, if_neg (fun h => t1 h.1), if_pos rfl]
    · by_cases c2 : 224 ≤ b0 ∧ b0 < 240
      · have hr : refN n b0 b1 b2 b3 = if tl n 1 b1 ∧ tl n 2 b2 ∧ runeOk (64 * (64 * (b0 - 224) + (b1 - 128)) + (b2 - 128)) ∧ oneLen (64 * (64 * (b0 - 224) + (b1 - 128)) + (b2 - 128)) = 3 then some (64 * (64 * (b0 - 224) + (b1 - 128)) + (b2 - 128), 3) else none := by
          unfold refN; rw [if_neg c0, if_neg c1, if_pos c2]
        rw [hr]
        unfold Lib.decodeN
        have e1 : ¬ (b0 / 32 = 6 ∧ (1 < n ∧ b1 / 64 = 2)) := by omega
        rw [if_neg c0, if_neg e1]
        by_cases t : tl n 1 b1 ∧ tl n 2 b2
        · obtain ⟨t1, t2⟩ := t
          have e : b0 / 16 = 14 ∧ (1 < n ∧ b1 / 64 = 2) ∧ (2 < n ∧ b2 / 64 = 2) := by unfold tl at t1 t2; omega
          have hv : b0 % 16 * 4096 + b1 % 64 * 64 + b2 % 64 = 64 * (64 * (b0 - 224) + (b1 - 128)) + (b2 - 128) := by unfold tl at t1 t2; omega
          rw [if_pos e, hv]
          obtain ⟨v, hvv⟩ : ∃ v, v = 64 * (64 * (b0 - 224) + (b1 - 128)) + (b2 - 128) := ⟨_, rfl⟩
          have hvl : v < 65536 := by unfold tl at t1 t2; omega
          rw [← hvv]
          by_cases hg : v ≥ 2048 ∧ (v < 55296 ∨ (57344 ≤ v ∧ v ≤ 1114111))
          · have ht : tl n 1 b1 ∧ tl n 2 b2 ∧ runeOk v ∧ oneLen v = 3 := by
              refine ⟨t1, t2, ?_, ?_⟩
              · unfold runeOk; omega
              · rw [oneLen_three]; omega
            rw [if_pos hg, if_pos ht, if_neg (by intro h; injection h with _ h; omega)]
          · have ht : ¬ (tl n 1 b1 ∧ tl n 2 b2 ∧ runeOk v ∧ oneLen v = 3) := by
              rintro ⟨_, _, k, h⟩; rw [oneLen_three] at h; unfold runeOk at k; omega
            rw [if_neg hg, if_neg ht, if_pos rfl]
        · have e2 : ¬ (b0 / 16 = 14 ∧ (1 < n ∧ b1 / 64 = 2) ∧ (2 < n ∧ b2 / 64 = 2)) := by unfold tl at t; omega
          have e3 : ¬ (b0 / 8 = 30 ∧ (1 < n ∧ b1 / 64 = 2) ∧ (2 < n ∧ b2 / 64 = 2) ∧ (3 < n ∧ b3 / 64 = 2)) := by omega
          rw [if_neg e2, if_neg e3, if_neg (fun h => t ⟨h.1, h.2.1⟩), if_pos rfl]
      · by_cases c3 : 240 ≤ b0 ∧ b0 < 248
        · have hr : refN n b0 b1 b2 b3 = if tl n 1 b1 ∧ tl n 2 b2 ∧ tl n 3 b3 ∧ runeOk (64 * (64 * (64 * (b0 - 240) + (b1 - 128)) + (b2 - 128)) + (b3 - 128)) ∧ oneLen (64 * (64 * (64 * (b0 - 240) + (b1 - 128)) + (b2 - 128)) + (b3 - 128)) = 4 then some (64 * (64 * (64 * (b0 - 240) + (b1 - 128)) + (b2 - 128)) + (b3 - 128), 4) else none := by
            unfold refN; rw [if_neg c0, if_neg c1, if_neg c2, if_pos c3]
          rw [hr]
          unfold Lib.decodeN
          have e1 : ¬ (b0 / 32 = 6 ∧ (1 < n ∧ b1 / 64 = 2)) := by omega
          have e2 : ¬ (b0 / 16 = 14 ∧ (1 < n ∧ b1 / 64 = 2) ∧ (2 < n ∧ b2 / 64 = 2)) := by omega
          rw [if_neg c0, if_neg e1, if_neg e2]
          by_cases t : tl n 1 b1 ∧ tl n 2 b2 ∧ tl n 3 b3
          · obtain ⟨t1, t2, t3⟩ := t
            have e : b0 / 8 = 30 ∧ (1 < n ∧ b1 / 64 = 2) ∧ (2 < n ∧ b2 / 64 = 2) ∧ (3 < n ∧ b3 / 64 = 2) := by unfold tl at t1 t2 t3; omega
            have hv : b0 % 8 * 262144 + b1 % 64 * 4096 + b2 % 64 * 64 + b3 % 64 = 64 * (64 * (64 * (b0 - 240) + (b1 - 128)) + (b2 - 128)) + (b3 - 128) := by unfold tl at t1 t2 t3; omega
            rw [if_pos e, hv]
            obtain ⟨v, hvv⟩ : ∃ v, v = 64 * (64 * (64 * (b0 - 240) + (b1 - 128)) + (b2 - 128)) + (b3 - 128) := ⟨_, rfl⟩
            rw [← hvv]
            by_cases hg : v ≥ 65536 ∧ (v < 55296 ∨ (57344 ≤ v ∧ v ≤ 1114111))
            · have ht : tl n 1 b1 ∧ tl n 2 b2 ∧ tl n 3 b3 ∧ runeOk v ∧ oneLen v = 4 := by
                refine ⟨t1, t2, t3, ?_, ?_⟩
                · unfold runeOk; omega
                · rw [oneLen_four]; omega
              rw [if_pos hg, if_pos ht, if_neg (by intro h; injection h with _ h; omega)]
            · have ht : ¬ (tl n 1 b1 ∧ tl n 2 b2 ∧ tl n 3 b3 ∧ runeOk v ∧ oneLen v = 4) := by
                rintro ⟨_, _, _, k, h⟩; rw [oneLen_four] at h; unfold runeOk at k; omega
              rw [if_neg hg, if_neg ht, if_pos rfl]
          · have e3 : ¬ (b0 / 8 = 30 ∧ (1 < n ∧ b1 / 64 = 2) ∧ (2 < n ∧ b2 / 64 = 2) ∧ (3 < n ∧ b3 / 64 = 2)) := by unfold tl at t; omega
            rw [if_neg e3, if_neg (fun h => t ⟨h.1, h.2.1, h.2.2.1⟩), if_pos rfl]
        · have hr : refN n b0 b1 b2 b3 = none := by unfold refN; rw [if_neg c0, if_neg c1, if_neg c2, if_neg c3]
          rw [hr]
          unfold Lib.decodeN
          have e1 : ¬ (b0 / 32 = 6 ∧ (1 < n ∧ b1 / 64 = 2)) := by omega
          have e2 : ¬ (b0 / 16 = 14 ∧ (1 < n ∧ b1 / 64 = 2) ∧ (2 < n ∧ b2 / 64 = 2)) := by omega
          have e3 : ¬ (b0 / 8 = 30 ∧ (1 < n ∧ b1 / 64 = 2) ∧ (2 < n ∧ b2 / 64 = 2) ∧ (3 < n ∧ b3 / 64 = 2)) := by omega
          rw [if_neg c0, if_neg e1, if_neg e2, if_neg e3, if_pos rfl]

end Go.Proofs.YtdlfmchpaohoaaaDoor.Nm
