/- Layer 4 in plain Lean: what is put is got; what is got is put in no more bytes. -/
import Derived.Test.YtdlfmchpaohoaaaKindPut3
import Derived.Test.YtdlfmchpaohoaaaLebBackPlain
import Derived.Test.YtdlfmchpaohoaaaKindGetLim
namespace Go.Proofs.Ytdlfmchpaohoaaa.Kind

theorem run_all {bs : List Int} {n p : Nat} (h : ∀ j, j < n → bs[p + j]? = some 127) : run bs n p = (0, 0) := by
  induction n generalizing p with
  | zero => rfl
  | succ n ih =>
    have h0 := h 0 (by omega)
    simp only [Nat.add_zero] at h0
    simp only [run, h0, if_true]
    exact ih fun j hj => by rw [← h (j + 1) (by omega)]; congr 1; omega

theorem words_put (ah be : List Int) (n : Nat) (most : Int) (hn : (n : Int) ≤ most) (h : n < 4294967296) :
    words (ah ++ wds n ++ be) ah.length most = ((n : Int), ((ah.length + (wds n).length : Nat) : Int), 0, 0) := by
  have hg : Leb.getU (ah ++ wds n ++ be) ah.length = ((n : Int), (ah.length : Int) + (Leb.putU 4 n).length, 0, 0) := by
    have := Leb.getU_put n (by omega) (by omega) ah (List.replicate n 127 ++ be)
    rw [← this]; simp [wds]
  have hr : run (ah ++ wds n ++ be) n (ah.length + (Leb.putU 4 n).length) = (0, 0) := run_all fun j hj => by
    have e : ah ++ wds n ++ be = (ah ++ Leb.putU 4 n) ++ (List.replicate n 127 ++ be) := by simp [wds]
    rw [e, List.getElem?_append_right (by simp <;> omega), List.getElem?_append_left (by simp <;> omega)]
    rw [List.getElem?_replicate, if_pos (by simp <;> omega)]
  unfold words
  simp only [hg, ne_eq, not_true_eq_false, if_false]
  rw [if_neg (by omega)]
  have e2 : ((ah.length : Int) + ((Leb.putU 4 (n : Int)).length : Int)).toNat = ah.length + (Leb.putU 4 n).length := by omega
  rw [e2, Int.toNat_natCast, hr]
  simp [wds]; omega

theorem get_put (p r : Nat) (be : List Int) (hp : p ≤ 255) (hr : r ≤ 1) :
    get (96 :: (wds p ++ wds r) ++ be) 0 = ((p : Int), (r : Int), (((96 :: (wds p ++ wds r)).length : Nat) : Int), 0, 0) := by
  have h1 := words_put [96] (wds r ++ be) p 255 (by omega) (by omega)
  have h2 := words_put ([96] ++ wds p) be r 1 (by omega) (by omega)
  have e1 : [96] ++ wds p ++ (wds r ++ be) = 96 :: (wds p ++ wds r) ++ be := by simp
  have e2 : [96] ++ wds p ++ wds r ++ be = 96 :: (wds p ++ wds r) ++ be := by simp
  rw [e1] at h1
  rw [e2] at h2
  have h0 : (96 :: (wds p ++ wds r) ++ be)[0]? = some 96 := rfl
  have hl : ([96] ++ wds p : List Int).length = ([96] : List Int).length + (wds p).length := List.length_append
  rw [hl] at h2
  unfold get
  rw [h0]
  simp only [ne_eq, not_true_eq_false, if_false, Nat.zero_add]
  have c1 : ((1 : Nat) : Int) = (([96] : List Int).length : Int) := rfl
  simp only [c1, h1, h2]
  simp; omega

theorem put_getAt (p r : Int) (be : List Int) (h : chk p r = 0) : getAt (put p r ++ be) 0 = (p, r, ((put p r).length : Int), 0, 0) := by
  rcases chk_cases p r with ⟨_, h0, h1, h2, h3⟩ | h'
  · obtain ⟨p, rfl⟩ := Int.eq_ofNat_of_zero_le h0
    obtain ⟨r, rfl⟩ := Int.eq_ofNat_of_zero_le h2
    have hp : put p r = 96 :: (wds p ++ wds r) := by unfold put; rw [if_pos h]; simp
    rw [hp]
    unfold getAt
    rw [if_neg (by omega)]
    exact get_put p r be (by omega) (by omega)
  · omega

theorem put_len (p r : Int) : (put p r).length ≤ 521 := by
  rcases chk_cases p r with ⟨hl, h0, h1, h2, h3⟩ | hl
  · have hp : put p r = 96 :: (wds p.toNat ++ wds r.toNat) := by unfold put; rw [if_pos hl]
    have := wds_len p.toNat (by omega)
    have := wds_len r.toNat (by omega)
    rw [hp]; simp; omega
  · have hp : put p r = [] := by unfold put; rw [if_neg (by omega)]
    rw [hp]; simp

theorem num_put (ah be : List Int) (n : Int) (least most : Int) (h0 : 0 ≤ n) (h1 : n < 4294967296) (hl : least ≤ n) (hm : n ≤ most) :
    num (ah ++ Leb.putU 4 n ++ be) ah.length least most = (n, ((ah.length + (Leb.putU 4 n).length : Nat) : Int), 0, 0) := by
  unfold num
  rw [Leb.getU_put n h0 h1 ah be]
  simp only [ne_eq, not_true_eq_false, if_false]
  rw [if_neg (by omega)]
  simp

theorem putLim_limitsAt (mn mx : Int) (c : Bool) (most : Int) (be : List Int) (h0 : 0 ≤ mn) (h1 : mn < 4294967296) (h2 : 0 ≤ mx) (h3 : mx < 4294967296) (h : lim mn mx c most = 0) :
    limitsAt (putLim mn mx c most ++ be) 0 most = (mn, mx, (if c then 1 else 0), ((putLim mn mx c most).length : Int), 0, 0) := by
  have hp : putLim mn mx c most = if c then 1 :: (Leb.putU 4 mn ++ Leb.putU 4 mx) else 0 :: Leb.putU 4 mn := by unfold putLim; rw [if_pos h]
  unfold limitsAt
  rw [if_neg (by omega)]
  unfold lim at h
  cases c with
  | false =>
    have hk : mn ≤ most ∧ mx = 0 := by
      simp at h; omega
    rw [hp]
    simp only [Bool.false_eq_true, if_false]
    have n1 := num_put [0] be mn 0 most h0 h1 h0 hk.1
    have e1 : ([0] ++ Leb.putU 4 mn ++ be : List Int) = 0 :: Leb.putU 4 mn ++ be := by simp
    rw [e1] at n1
    have g0 : (0 :: Leb.putU 4 mn ++ be : List Int)[0]? = some 0 := rfl
    show limits _ (0 : Int).toNat most = _
    unfold limits
    rw [show (0 : Int).toNat = 0 from rfl, g0]
    have c1 : ((0 + 1 : Nat) : Int) = (([0] : List Int).length : Int) := rfl
    simp only [c1, n1]
    simp [hk.2]; omega
  | true =>
    have hk : mn ≤ most ∧ mn ≤ mx ∧ mx ≤ most := by
      simp at h; omega
    rw [hp]
    simp only [if_true]
    have n1 := num_put [1] (Leb.putU 4 mx ++ be) mn 0 most h0 h1 h0 hk.1
    have n2 := num_put ([1] ++ Leb.putU 4 mn) be mx mn most h2 h3 hk.2.1 hk.2.2
    have e1 : ([1] ++ Leb.putU 4 mn ++ (Leb.putU 4 mx ++ be) : List Int) = 1 :: (Leb.putU 4 mn ++ Leb.putU 4 mx) ++ be := by simp
    have e2 : ([1] ++ Leb.putU 4 mn ++ Leb.putU 4 mx ++ be : List Int) = 1 :: (Leb.putU 4 mn ++ Leb.putU 4 mx) ++ be := by simp
    rw [e1] at n1
    rw [e2] at n2
    have hl : ([1] ++ Leb.putU 4 mn : List Int).length = ([1] : List Int).length + (Leb.putU 4 mn).length := List.length_append
    rw [hl] at n2
    have g0 : (1 :: (Leb.putU 4 mn ++ Leb.putU 4 mx) ++ be : List Int)[0]? = some 1 := rfl
    show limits _ (0 : Int).toNat most = _
    unfold limits
    rw [show (0 : Int).toNat = 0 from rfl, g0]
    have c1 : ((0 + 1 : Nat) : Int) = (([1] : List Int).length : Int) := rfl
    simp only [c1, n1, n2]
    simp; omega

theorem putLim_len (mn mx : Int) (c : Bool) (most : Int) : (putLim mn mx c most).length ≤ 11 := by
  have l1 := Leb.putU_len 4 mn
  have l2 := Leb.putU_len 4 mx
  unfold putLim
  split
  · split <;> simp <;> omega
  · simp

theorem words_len {bs : List Int} {a most : Int} {x q : Nat} (hb : ∀ c ∈ bs, 0 ≤ c ∧ c ≤ 255) (h : words bs a most = ((x : Int), (q : Int), 0, 0)) : a + (wds x).length ≤ q := by
  rcases Leb.getU_cases bs a hb with ⟨y, z, hg, x0, x1, a0, a1, q0, q1, q2⟩ | ⟨e0, p0, hg, he⟩
  · unfold words at h
    simp only [hg, ne_eq, not_true_eq_false, if_false] at h
    split at h
    · simp at h
    · split at h
      · rename_i hn
        exact absurd (congrArg (fun r => r.2.2.1) h) hn
      · simp only [Prod.mk.injEq] at h
        obtain ⟨rfl, h2, _⟩ := h
        simp only [wds, List.length_append, List.length_replicate]
        omega
  · unfold words at h
    have h0 : ¬ e0 = 0 := by omega
    simp only [hg, ne_eq, h0, not_false_eq_true, if_true] at h
    simp only [Prod.mk.injEq] at h
    exact absurd h.2.2.1 h0

/-- What bytes say is put in no more of them. -/
theorem getAt_put (bs : List Int) (hb : Byt bs) :
    (∃ x y q : Int, getAt bs 0 = (x, y, q, 0, 0) ∧ chk x y = 0 ∧ ((put x y).length : Int) ≤ q) ∨ ∃ e p, getAt bs 0 = (0, 0, 0, e, p) ∧ ¬ e = 0 := by
  have ha : getAt bs 0 = get bs 0 := by unfold getAt; rw [if_neg (by omega)]; rfl
  rw [ha]
  unfold get
  cases hc : bs[0]? with
  | none => exact .inr ⟨4, bs.length, rfl, by decide⟩
  | some c =>
    simp only
    by_cases h96 : c = 96
    · rw [if_neg (by simpa using h96)]
      rcases words_cases bs ((0 + 1 : Nat) : Int) 255 hb with ⟨x, q, hP, hx, hq1, hq0, hq2⟩ | ⟨e1, p1, hP, he1⟩
      · rcases words_cases bs (q : Int) 1 hb with ⟨y, r, hQ, hy, hr1, hr0, hr2⟩ | ⟨e2, p2, hQ, he2⟩
        · have l1 := words_len hb hP
          have l2 := words_len hb hQ
          refine .inl ⟨x, y, r, by simp only [hP, hQ]; rfl, ?_, ?_⟩
          · unfold chk; rw [if_neg (by omega)]
          · have hk : chk (x : Int) (y : Int) = 0 := by unfold chk; rw [if_neg (by omega)]
            unfold put
            rw [if_pos hk]
            simp; omega
        · exact .inr ⟨e2, p2, by simp only [hP, hQ]; simp [he2], he2⟩
      · exact .inr ⟨e1, p1, by simp only [hP]; simp [he1], he1⟩
    · exact .inr ⟨140, _, by rw [if_pos (by simpa using h96)], by decide⟩

theorem num_len {bs : List Int} {a : Int} {x q : Nat} (hb : ∀ c ∈ bs, 0 ≤ c ∧ c ≤ 255) (hg : Leb.getU bs a = ((x : Int), (q : Int), 0, 0)) : a + (Leb.putU 4 x).length ≤ q := by
  rcases Leb.getU_cases bs a hb with ⟨y, z, hg', x0, x1, a0, a1, q0, q1, q2⟩ | ⟨e0, p0, hg', he⟩
  · rw [hg] at hg'
    simp only [Prod.mk.injEq] at hg'
    obtain ⟨rfl, rfl, _⟩ := hg'
    exact q0
  · rw [hg] at hg'
    simp only [Prod.mk.injEq] at hg'
    omega

theorem limitsAt_put (bs : List Int) (most : Int) (hb : Byt bs) :
    (∃ x y c q : Int, limitsAt bs 0 most = (x, y, c, q, 0, 0) ∧ 0 ≤ x ∧ x < 4294967296 ∧ 0 ≤ y ∧ y < 4294967296 ∧ lim x y (decide (c = 1)) most = 0 ∧ ((putLim x y (decide (c = 1)) most).length : Int) ≤ q) ∨
    ∃ e p, limitsAt bs 0 most = (0, 0, 0, 0, e, p) ∧ ¬ e = 0 := by
  have ha : limitsAt bs 0 most = limits bs 0 most := by unfold limitsAt; rw [if_neg (by omega)]; rfl
  rw [ha]
  unfold limits
  cases hc : bs[0]? with
  | none => exact .inr ⟨4, bs.length, rfl, by decide⟩
  | some c =>
    simp only
    by_cases h01 : c ≠ 0 ∧ c ≠ 1
    · exact .inr ⟨140, _, by rw [if_pos h01], by decide⟩
    · rw [if_neg h01]
      rcases num_cases bs ((0 + 1 : Nat) : Int) 0 most hb with ⟨x, q, hN, hG, hx0, hx1, hx2, hq1, hq0, hq2⟩ | ⟨e1, p1, hN, he1, _⟩
      · have l1 := num_len hb hG
        by_cases h0 : c = 0
        · have hk : lim (x : Int) 0 (decide ((0 : Int) = 1)) most = 0 := by unfold lim; simp; omega
          refine .inl ⟨x, 0, 0, q, by simp only [h0, hN]; rfl, by omega, by omega, by omega, by omega, hk, ?_⟩
          unfold putLim; rw [if_pos hk]; simp; omega
        · rcases num_cases bs (q : Int) x most hb with ⟨y, r, hN', hG', hy0, hy1, hy2, hr1, hr0, hr2⟩ | ⟨e2, p2, hN', he2, _⟩
          · have l2 := num_len hb hG'
            have h1 : c = 1 := by omega
            have hk : lim (x : Int) (y : Int) (decide ((1 : Int) = 1)) most = 0 := by unfold lim; simp; omega
            refine .inl ⟨x, y, 1, r, by simp only [h1, hN, hN']; rfl, by omega, by omega, by omega, by omega, hk, ?_⟩
            unfold putLim; rw [if_pos hk]; simp; omega
          · exact .inr ⟨e2, p2, by simp only [hN, hN']; simp [h0, he2], he2⟩
      · exact .inr ⟨e1, p1, by simp only [hN]; simp [he1], he1⟩

end Go.Proofs.Ytdlfmchpaohoaaa.Kind
