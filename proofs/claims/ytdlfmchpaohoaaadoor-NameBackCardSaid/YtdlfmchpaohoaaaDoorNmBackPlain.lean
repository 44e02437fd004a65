/- Layer 2 in plain Lean: a text of runes is read as they were; runes that are told make the text again; a name that is put is got. -/
import Derived.Test.YtdlfmchpaohoaaaDoorNmOf2
import Derived.Test.YtdlfmchpaohoaaaDoorLebBackPlain
namespace Go.Proofs.YtdlfmchpaohoaaaDoor
open Go.RowKit

theorem Nm.bt_mid (pre mid post : List Int) (j : Nat) (hj : j < mid.length) : Nm.bt (pre ++ mid ++ post) (pre.length + j) = (mid.getD j 0).toNat := by
  unfold Nm.bt
  rw [List.append_assoc, List.getD_eq_getElem?_getD, List.getElem?_append_right (by omega), Nat.add_sub_cancel_left, List.getElem?_append_left hj, List.getD_eq_getElem?_getD]

/-- The bytes of a rune are read as it. -/
theorem Nm.ref_one (pre post : List Int) (n : Nat) (h : Nm.runeOk n) :
    Nm.refN ((pre ++ Nm.one n ++ post).length - pre.length) (Nm.bt (pre ++ Nm.one n ++ post) pre.length) (Nm.bt (pre ++ Nm.one n ++ post) (pre.length + 1)) (Nm.bt (pre ++ Nm.one n ++ post) (pre.length + 2)) (Nm.bt (pre ++ Nm.one n ++ post) (pre.length + 3)) = some (n, Nm.oneLen n) := by
  have hl : (pre ++ Nm.one n ++ post).length - pre.length = (Nm.one n).length + post.length := by simp only [List.length_append]; omega
  have hlen := Nm.one_len n
  rw [hl, hlen]
  have m0 := Nm.bt_mid pre (Nm.one n) post 0
  have m1 := Nm.bt_mid pre (Nm.one n) post 1
  have m2 := Nm.bt_mid pre (Nm.one n) post 2
  have m3 := Nm.bt_mid pre (Nm.one n) post 3
  rw [Nat.add_zero] at m0
  generalize Nm.bt (pre ++ Nm.one n ++ post) pre.length = b0 at *
  generalize Nm.bt (pre ++ Nm.one n ++ post) (pre.length + 1) = b1 at *
  generalize Nm.bt (pre ++ Nm.one n ++ post) (pre.length + 2) = b2 at *
  generalize Nm.bt (pre ++ Nm.one n ++ post) (pre.length + 3) = b3 at *
  have hr := h
  unfold Nm.runeOk at hr
  by_cases h1 : n < 128
  · have hL : Nm.oneLen n = 1 := by unfold Nm.oneLen; rw [if_pos h1]
    have ho : Nm.one n = [(n : Int)] := by unfold Nm.one; rw [if_pos h1]
    have m0 := m0 (by rw [hlen, hL]; omega)
    rw [ho] at m0
    simp at m0
    unfold Nm.refN
    rw [if_pos (by omega), m0, hL]
  · by_cases h2 : n < 2048
    · have hL : Nm.oneLen n = 2 := by rw [Nm.oneLen_two]; omega
      have ho : Nm.one n = [192 + (n : Int) / 64, 128 + (n : Int) % 64] := by unfold Nm.one; rw [if_neg h1, if_pos h2]
      have m0 := m0 (by rw [hlen, hL]; omega)
      have m1 := m1 (by rw [hlen, hL]; omega)
      rw [ho] at m0 m1
      simp at m0 m1
      have e0 : b0 = 192 + n / 64 := by omega
      have e1 : b1 = 128 + n % 64 := by omega
      have ev : 64 * (b0 - 192) + (b1 - 128) = n := by omega
      unfold Nm.refN
      rw [if_neg (by omega), if_pos (by omega), ev, if_pos ⟨by unfold Nm.tl; omega, h, hL⟩, hL]
    · by_cases h3 : n < 65536
      · have hL : Nm.oneLen n = 3 := by rw [Nm.oneLen_three]; omega
        have ho : Nm.one n = [224 + (n : Int) / 4096, 128 + (n : Int) / 64 % 64, 128 + (n : Int) % 64] := by unfold Nm.one; rw [if_neg h1, if_neg h2, if_pos h3]
        have m0 := m0 (by rw [hlen, hL]; omega)
        have m1 := m1 (by rw [hlen, hL]; omega)
        have m2 := m2 (by rw [hlen, hL]; omega)
        rw [ho] at m0 m1 m2
        simp at m0 m1 m2
        have e0 : b0 = 224 + n / 4096 := by omega
        have e1 : b1 = 128 + n / 64 % 64 := by omega
        have e2 : b2 = 128 + n % 64 := by omega
        have ev : 64 * (64 * (b0 - 224) + (b1 - 128)) + (b2 - 128) = n := by omega
        unfold Nm.refN
        rw [if_neg (by omega), if_neg (by omega), if_pos (by omega), ev, if_pos ⟨by unfold Nm.tl; omega, by unfold Nm.tl; omega, h, hL⟩, hL]
      · have hL : Nm.oneLen n = 4 := by rw [Nm.oneLen_four]; omega
        have ho : Nm.one n = [240 + (n : Int) / 262144, 128 + (n : Int) / 4096 % 64, 128 + (n : Int) / 64 % 64, 128 + (n : Int) % 64] := by unfold Nm.one; rw [if_neg h1, if_neg h2, if_neg h3]
        have m0 := m0 (by rw [hlen, hL]; omega)
        have m1 := m1 (by rw [hlen, hL]; omega)
        have m2 := m2 (by rw [hlen, hL]; omega)
        have m3 := m3 (by rw [hlen, hL]; omega)
        rw [ho] at m0 m1 m2 m3
        simp at m0 m1 m2 m3
        have e0 : b0 = 240 + n / 262144 := by omega
        have e1 : b1 = 128 + n / 4096 % 64 := by omega
        have e2 : b2 = 128 + n / 64 % 64 := by omega
        have e3 : b3 = 128 + n % 64 := by omega
        have ev : 64 * (64 * (64 * (b0 - 240) + (b1 - 128)) + (b2 - 128)) + (b3 - 128) = n := by omega
        unfold Nm.refN
        rw [if_neg (by omega), if_neg (by omega), if_neg (by omega), if_pos (by omega), ev, if_pos ⟨by unfold Nm.tl; omega, by unfold Nm.tl; omega, by unfold Nm.tl; omega, h, hL⟩, hL]

theorem Nm.dec_one {pre post : List Int} {n : Nat} (h : Nm.runeOk n) (hb : Byt (pre ++ Nm.one n ++ post)) : ¬ Nm.bad (pre ++ Nm.one n ++ post) pre.length ∧ Nm.dec (pre ++ Nm.one n ++ post) pre.length = (n, Nm.oneLen n) := by
  have h1 := Nm.ref_one pre post n h
  rw [Nm.ref_dec hb] at h1
  by_cases hbad : Nm.bad (pre ++ Nm.one n ++ post) pre.length
  · rw [if_pos hbad] at h1; cases h1
  · rw [if_neg hbad] at h1; exact ⟨hbad, by injection h1⟩

theorem Nm.oneLen_pos (n : Nat) : 1 ≤ Nm.oneLen n := by unfold Nm.oneLen; (repeat' split) <;> omega

theorem Nm.runes_ofs (l : List Int) : ∀ (pre : List Int) (f : Nat), Byt pre → (∀ x ∈ l, Nm.isRune x = true) → l.length ≤ f → Nm.badFrom (pre ++ Nm.ofs l) f pre.length = -1 ∧ Nm.runesFrom (pre ++ Nm.ofs l) f pre.length = l := by
  induction l with
  | nil =>
    intro pre f _ _ _
    have e : pre ++ Nm.ofs [] = pre := by simp [Nm.ofs]
    rw [e]
    exact ⟨Nm.badFrom_end _ _ _ (by omega), Nm.runesFrom_end _ _ _ (by omega)⟩
  | cons x l ih =>
    intro pre f hp hr hf
    obtain ⟨f, rfl⟩ : ∃ g, f = g + 1 := ⟨f - 1, by simp at hf; omega⟩
    have hx := (Nm.isRune_iff x).1 (hr x (by simp))
    obtain ⟨n, rfl⟩ := Int.eq_ofNat_of_zero_le hx.1
    have hok : Nm.runeOk n := by unfold Nm.runeOk; omega
    have hbo : Byt (Nm.one n) := Nm.one_byt n (by omega)
    have hbl : Byt (Nm.ofs l) := Nm.ofs_byt (fun y hy => hr y (by simp [hy]))
    have e : pre ++ Nm.ofs ((n : Int) :: l) = pre ++ Nm.one n ++ Nm.ofs l := by simp [Nm.ofs]
    rw [e]
    have hbx : Byt (pre ++ Nm.one n ++ Nm.ofs l) := (hp.append hbo).append hbl
    obtain ⟨h1, h2⟩ := Nm.dec_one hok hbx
    have hpos := Nm.oneLen_pos n
    have hlt : pre.length < (pre ++ Nm.one n ++ Nm.ofs l).length := by simp only [List.length_append, Nm.one_len]; omega
    obtain ⟨i1, i2⟩ := ih (pre ++ Nm.one n) f (hp.append hbo) (fun y hy => hr y (by simp [hy])) (by simp at hf; omega)
    rw [List.length_append, Nm.one_len] at i1 i2
    simp only [Nm.badFrom, Nm.runesFrom, if_pos hlt, if_neg h1, h2, i1, i2, and_self]

theorem Nm.text_of {l : List Int} (h : ∀ x ∈ l, Nm.isRune x = true) : Nm.badAt (Nm.ofs l) = -1 ∧ Nm.runesFrom (Nm.ofs l) (Nm.ofs l).length 0 = l := by
  have hl : l.length ≤ (Nm.ofs l).length := by
    clear h
    induction l with
    | nil => simp
    | cons x l ih =>
      have h := Nm.oneLen_pos x.toNat
      have he : Nm.ofs (x :: l) = Nm.one x.toNat ++ Nm.ofs l := by simp [Nm.ofs]
      rw [he, List.length_append, Nm.one_len, List.length_cons]; omega
  have := Nm.runes_ofs l [] (Nm.ofs l).length (by intro n hn; simp at hn) h hl
  simpa [Nm.badAt] using this

theorem Nm.one2 (b0 b1 v : Nat) (h0 : 192 ≤ b0 ∧ b0 < 224) (h1 : 128 ≤ b1 ∧ b1 < 192) (hv : v = 64 * (b0 - 192) + (b1 - 128)) (hl : 128 ≤ v ∧ v < 2048) : Nm.one v = [(b0 : Int), (b1 : Int)] := by
  unfold Nm.one
  rw [if_neg (by omega), if_pos (by omega)]
  have e1 : 192 + (v : Int) / 64 = b0 := by omega
  have e2 : 128 + (v : Int) % 64 = b1 := by omega
  rw [e1, e2]
theorem Nm.one3 (b0 b1 b2 v : Nat) (h0 : 224 ≤ b0 ∧ b0 < 240) (h1 : 128 ≤ b1 ∧ b1 < 192) (h2 : 128 ≤ b2 ∧ b2 < 192) (hv : v = 64 * (64 * (b0 - 224) + (b1 - 128)) + (b2 - 128)) (hl : 2048 ≤ v ∧ v < 65536) : Nm.one v = [(b0 : Int), (b1 : Int), (b2 : Int)] := by
  unfold Nm.one
  rw [if_neg (by omega), if_neg (by omega), if_pos (by omega)]
  have e1 : 224 + (v : Int) / 4096 = b0 := by omega
  have e2 : 128 + (v : Int) / 64 % 64 = b1 := by omega
  have e3 : 128 + (v : Int) % 64 = b2 := by omega
  rw [e1, e2, e3]
theorem Nm.one4 (b0 b1 b2 b3 v : Nat) (h0 : 240 ≤ b0 ∧ b0 < 248) (h1 : 128 ≤ b1 ∧ b1 < 192) (h2 : 128 ≤ b2 ∧ b2 < 192) (h3 : 128 ≤ b3 ∧ b3 < 192) (hv : v = 64 * (64 * (64 * (b0 - 240) + (b1 - 128)) + (b2 - 128)) + (b3 - 128)) (hl : 65536 ≤ v) : Nm.one v = [(b0 : Int), (b1 : Int), (b2 : Int), (b3 : Int)] := by
  unfold Nm.one
  rw [if_neg (by omega), if_neg (by omega), if_neg (by omega)]
  have e1 : 240 + (v : Int) / 262144 = b0 := by omega
  have e2 : 128 + (v : Int) / 4096 % 64 = b1 := by omega
  have e3 : 128 + (v : Int) / 64 % 64 = b2 := by omega
  have e4 : 128 + (v : Int) % 64 = b3 := by omega
  rw [e1, e2, e3, e4]

/-- What a rune was read of are its bytes. -/
theorem Nm.one_ref {xs : List Int} (hb : Byt xs) {p : Nat} (hp : p < xs.length) (hg : ¬ Nm.bad xs p) : Nm.runeOk (Nm.dec xs p).1 ∧ xs.drop p = Nm.one (Nm.dec xs p).1 ++ xs.drop (p + (Nm.dec xs p).2) := by
  have h := Nm.ref_dec hb p
  rw [if_neg hg] at h
  have g0 := Nm.bt_get hb hp
  have l0 := Nm.bt_lt hb p
  have d0 : xs.drop p = xs[p] :: xs.drop (p + 1) := List.drop_eq_getElem_cons hp
  unfold Nm.refN at h
  split at h
  · rename_i c0
    have hd : Nm.dec xs p = (Nm.bt xs p, 1) := (Option.some.inj h).symm
    rw [hd]
    refine ⟨by unfold Nm.runeOk; simp only; omega, ?_⟩
    simp only
    rw [d0, g0]
    unfold Nm.one; rw [if_pos c0]; rfl
  · split at h
    · rename_i c0 c1
      split at h
      · rename_i ht
        obtain ⟨t1, ho, hl⟩ := ht
        have hd : Nm.dec xs p = (64 * (Nm.bt xs p - 192) + (Nm.bt xs (p + 1) - 128), 2) := (Option.some.inj h).symm
        rw [hd]
        refine ⟨ho, ?_⟩
        simp only
        unfold Nm.tl at t1
        have g1 := Nm.bt_get hb (show p + 1 < xs.length by omega)
        have d1 : xs.drop (p + 1) = xs[p + 1] :: xs.drop (p + 1 + 1) := List.drop_eq_getElem_cons (by omega)
        rw [Nm.oneLen_two] at hl
        have hone : Nm.one (64 * (Nm.bt xs p - 192) + (Nm.bt xs (p + 1) - 128)) = [(Nm.bt xs p : Int), (Nm.bt xs (p + 1) : Int)] := Nm.one2 _ _ _ c1 t1.2 rfl hl
        rw [hone, d0, d1, g0, g1]; rfl
      · simp at h
    · split at h
      · rename_i c0 c1 c2
        split at h
        · rename_i ht
          obtain ⟨t1, t2, ho, hl⟩ := ht
          have hd : Nm.dec xs p = (64 * (64 * (Nm.bt xs p - 224) + (Nm.bt xs (p + 1) - 128)) + (Nm.bt xs (p + 2) - 128), 3) := (Option.some.inj h).symm
          rw [hd]
          refine ⟨ho, ?_⟩
          simp only
          unfold Nm.tl at t1 t2
          have g1 := Nm.bt_get hb (show p + 1 < xs.length by omega)
          have g2 := Nm.bt_get hb (show p + 2 < xs.length by omega)
          have d1 : xs.drop (p + 1) = xs[p + 1] :: xs.drop (p + 2) := List.drop_eq_getElem_cons (by omega)
          have d2 : xs.drop (p + 2) = xs[p + 2] :: xs.drop (p + 3) := List.drop_eq_getElem_cons (by omega)
          rw [Nm.oneLen_three] at hl
          have hone : Nm.one (64 * (64 * (Nm.bt xs p - 224) + (Nm.bt xs (p + 1) - 128)) + (Nm.bt xs (p + 2) - 128)) = [(Nm.bt xs p : Int), (Nm.bt xs (p + 1) : Int), (Nm.bt xs (p + 2) : Int)] := Nm.one3 _ _ _ _ c2 t1.2 t2.2 rfl hl
          rw [hone, d0, d1, d2, g0, g1, g2]; rfl
        · simp at h
      · split at h
        · rename_i c0 c1 c2 c3
          split at h
          · rename_i ht
            obtain ⟨t1, t2, t3, ho, hl⟩ := ht
            have hd : Nm.dec xs p = (64 * (64 * (64 * (Nm.bt xs p - 240) + (Nm.bt xs (p + 1) - 128)) + (Nm.bt xs (p + 2) - 128)) + (Nm.bt xs (p + 3) - 128), 4) := (Option.some.inj h).symm
            rw [hd]
            refine ⟨ho, ?_⟩
            simp only
            unfold Nm.tl at t1 t2 t3
            have g1 := Nm.bt_get hb (show p + 1 < xs.length by omega)
            have g2 := Nm.bt_get hb (show p + 2 < xs.length by omega)
            have g3 := Nm.bt_get hb (show p + 3 < xs.length by omega)
            have d1 : xs.drop (p + 1) = xs[p + 1] :: xs.drop (p + 2) := List.drop_eq_getElem_cons (by omega)
            have d2 : xs.drop (p + 2) = xs[p + 2] :: xs.drop (p + 3) := List.drop_eq_getElem_cons (by omega)
            have d3 : xs.drop (p + 3) = xs[p + 3] :: xs.drop (p + 4) := List.drop_eq_getElem_cons (by omega)
            rw [Nm.oneLen_four] at hl
            have hone : Nm.one (64 * (64 * (64 * (Nm.bt xs p - 240) + (Nm.bt xs (p + 1) - 128)) + (Nm.bt xs (p + 2) - 128)) + (Nm.bt xs (p + 3) - 128)) = [(Nm.bt xs p : Int), (Nm.bt xs (p + 1) : Int), (Nm.bt xs (p + 2) : Int), (Nm.bt xs (p + 3) : Int)] := Nm.one4 _ _ _ _ _ c3 t1.2 t2.2 t3.2 rfl hl
            rw [hone, d0, d1, d2, d3, g0, g1, g2, g3]; rfl
          · simp at h
        · simp at h

theorem Nm.ofs_runes {xs : List Int} (hb : Byt xs) : ∀ f p, xs.length ≤ p + f → Nm.badFrom xs f p = -1 → (∀ x ∈ Nm.runesFrom xs f p, Nm.isRune x = true) ∧ Nm.ofs (Nm.runesFrom xs f p) = xs.drop p
  | 0, p, hf, _ => by
    have : xs.drop p = [] := List.drop_eq_nil_of_le (by omega)
    rw [this]; simp [Nm.runesFrom, Nm.ofs]
  | f + 1, p, hf, h => by
    by_cases hp : p < xs.length
    · simp only [Nm.badFrom, if_pos hp] at h
      by_cases hbad : Nm.bad xs p
      · rw [if_pos hbad] at h; omega
      · rw [if_neg hbad] at h
        have hpos := Nm.dec_pos xs p
        obtain ⟨h1, h2⟩ := Nm.one_ref hb hp hbad
        obtain ⟨i1, i2⟩ := Nm.ofs_runes hb f (p + (Nm.dec xs p).2) (by omega) h
        simp only [Nm.runesFrom, if_pos hp]
        refine ⟨fun x hx => ?_, ?_⟩
        · rcases List.mem_cons.1 hx with rfl | hx
          · exact (Nm.isRune_nat _).2 h1
          · exact i1 x hx
        · have e : Nm.ofs (((Nm.dec xs p).1 : Int) :: Nm.runesFrom xs f (p + (Nm.dec xs p).2)) = Nm.one (Nm.dec xs p).1 ++ Nm.ofs (Nm.runesFrom xs f (p + (Nm.dec xs p).2)) := by simp [Nm.ofs]
          rw [e, i2, ← h2]
    · have : xs.drop p = [] := List.drop_eq_nil_of_le (by omega)
      rw [this, Nm.runesFrom_end _ _ _ hp]; simp [Nm.ofs]

theorem Nm.of_text {xs : List Int} (hb : Byt xs) (h : Nm.badAt xs = -1) : Nm.ofRes (Nm.runesFrom xs xs.length 0) = (xs, 0) := by
  obtain ⟨h1, h2⟩ := Nm.ofs_runes hb xs.length 0 (by omega) h
  rw [Nm.ofRes_ok h1, h2]; rfl

theorem Nm.put_get {xs be : List Int} (h : Nm.badAt xs = -1) (hl : xs.length ≤ 2000) :
    Nm.getAt ([7] ++ (Leb.putU 4 xs.length ++ xs) ++ be) 1 = (xs, 1 + ((Leb.putU 4 xs.length ++ xs).length : Int), 0, 0) := by
  have hg := Leb.getU_put xs.length (by omega) (by omega) [7] (xs ++ be)
  have e : ([7] ++ Leb.putU 4 xs.length ++ (xs ++ be) : List Int) = [7] ++ (Leb.putU 4 xs.length ++ xs) ++ be := by simp
  rw [e] at hg
  have c1 : ((([7] : List Int).length : Nat) : Int) = 1 := rfl
  rw [c1] at hg
  unfold Nm.getAt
  rw [hg]
  have hn : ¬ ((([7] ++ (Leb.putU 4 xs.length ++ xs) ++ be : List Int).length : Int) - (1 + ((Leb.putU 4 (xs.length : Int)).length : Int)) < (xs.length : Int)) := by simp; omega
  have ht : (([7] ++ (Leb.putU 4 xs.length ++ xs) ++ be : List Int).drop (1 + ((Leb.putU 4 (xs.length : Int)).length : Int)).toNat).take (xs.length : Int).toNat = xs := by
    have e1 : (1 + ((Leb.putU 4 (xs.length : Int)).length : Int)).toNat = ([7] ++ Leb.putU 4 xs.length : List Int).length := by simp; omega
    have e2 : ([7] ++ (Leb.putU 4 xs.length ++ xs) ++ be : List Int) = ([7] ++ Leb.putU 4 xs.length) ++ (xs ++ be) := by simp
    rw [e1, e2, List.drop_left, Int.toNat_natCast, List.take_left]
  simp only [ne_eq, not_true_eq_false, if_false]
  rw [if_neg hn, ht, if_neg (by omega)]
  simp; omega

/-- []byte(s), the world behind it a variable. -/
theorem bytes_some {xs : List Int} (hb : Byt xs) (hm : xs.length ≤ 140737488351232) (w : World) : ∃ (w' : World) (cap : Nat), (convert 9 22 (.string (str xs))).run Tryd.prog w = .ok (.slice (some ⟨w.heap.size, 0, none⟩) xs.length cap) w' ∧
    Below w.heap.size w w' ∧ Sees .u8 w' (.slice (some ⟨w.heap.size, 0, none⟩) xs.length cap) xs :=
  ⟨_, _, run_bytes Tryd.underlying9 Tryd.underlying22 Tryd.underlying5 xs w, bytesWorld_below w 5 (str xs), bytesWorld_sees w 5 hb (by unfold maxLen; omega)⟩

theorem lit7 (w : World) : Owns 5 .u8 w.heap.size (w.alloc (.cells #[.int .u8 7] 5)) (.slice (some ⟨w.heap.size, 0, none⟩) 1 1) [7] :=
  Owns.lit 5 .u8 w [7] w.heap.size (Nat.le_refl _) (by simp [maxLen])

end Go.Proofs.YtdlfmchpaohoaaaDoor
