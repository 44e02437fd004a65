/- A heap whose addresses are moved all alike is a heap there. -/
import Derived.Test.YtgohnekaolgblaaGreatQ26
import Derived.Test.YtgohnekaolgblaaGreatQ25
namespace Go.Proofs.YtgohnekaolgblaaGreat

theorem Hp.from_same {ls out : List Int} (hl : out.length = ls.length) : ∀ (m i : Nat) (rest : List Nat), ls.length - i ≤ m → Hp.from ls i = some rest → (∀ k ∈ rest, out[k]? = ls[k]?) → Hp.from out i = some rest := by
  intro m
  induction m with
  | zero =>
    intro i rest hm h _
    rw [Hp.from_end ls i (by omega)] at h
    rw [Hp.from_end out i (by omega)]
    exact h
  | succ m ih =>
    intro i rest hm h hk
    by_cases hi : i < ls.length
    · by_cases hb : (Wd.words ls[i]).2 = false ∨ ls.length < i + Hp.wn ls[i]
      · rw [Hp.from_bad ls i hi hb] at h
        cases h
      · have hw : (Wd.words ls[i]).2 = true := by
          cases hh : (Wd.words ls[i]).2 with
          | true => rfl
          | false => exact absurd (.inl hh) hb
        have hf : i + Hp.wn ls[i] ≤ ls.length := by
          rcases Nat.lt_or_ge ls.length (i + Hp.wn ls[i]) with h1 | h1
          · exact absurd (.inr h1) hb
          · exact h1
        rw [Hp.from_next ls i hi hw hf] at h
        obtain ⟨r', hr', rfl⟩ := Option.map_eq_some_iff.1 h
        have h0 := hk i (List.mem_cons_self ..)
        have hio : i < out.length := by omega
        have e : out[i] = ls[i] := by
          rw [List.getElem?_eq_getElem hio, List.getElem?_eq_getElem hi] at h0
          exact Option.some.inj h0
        have hp := (Wd.words_pos hw).1
        rw [Hp.from_next out i hio (by rw [e]; exact hw) (by rw [e, hl]; exact hf), e, ih _ r' (by omega) hr' (fun k hk' => hk k (List.mem_cons_of_mem _ hk'))]
        rfl
    · rw [Hp.from_end ls i (by omega)] at h
      rw [Hp.from_end out i (by omega)]
      exact h

theorem Hp.fpos_head {ls : List Int} {hs : List Nat} (h : Hp.heads ls = some hs) {k : Nat} (hk : k ∈ hs) : Hp.fpos ls hs k = false := by
  unfold Hp.fpos
  rw [List.any_eq_false]
  intro j hj
  simp only [Bool.and_eq_true, decide_eq_true_eq]
  intro hh
  have h1 := Hp.heads_gap h hj hk hh.1
  have hd := Hp.heads_head h hj
  have h2 := (Hp.fields_head hd).2
  have e : Hp.wnAt ls j = Hp.wn ls[j]! := by
    unfold Hp.wnAt
    rw [getElem!_def, List.getElem?_eq_getElem hd.lt]
  omega

theorem Hp.shift_okw {hs : List Nat} {n : Nat} {at_ x : Int} (hh : ∀ i ∈ hs, i < n) (hn : n ≤ 500) (hx : 0 ≤ x ∧ x < 4294967296) (hat : Hp.place at_) (h16 : 16 ≤ at_) (hb : at_ ≤ 262144) (h : Hp.okw (Hp.mem hs) 16 x = true) : Hp.okw (Hp.mem hs) at_ (Hp.shift 16 at_ x) = true := by
  obtain ⟨-, ha8, -⟩ := hat
  unfold Hp.shift
  by_cases hc : x % 2 = 0 ∧ 16 ≤ x
  · rw [if_pos hc]
    unfold Hp.okw at h
    have hi : Hp.isAdr 16 x = true := by unfold Hp.isAdr; simp [hc.1, hc.2]
    rw [hi] at h
    simp only [Bool.not_true, Bool.false_or, Bool.and_eq_true] at h
    obtain ⟨h1, h2⟩ := h
    unfold Hp.whole at h1
    simp only [beq_iff_eq] at h1
    unfold Hp.mem at h2
    have h2' := hh _ (of_decide_eq_true h2)
    unfold Hp.idx at h2'
    have e : (x - 16 + at_) % 4294967296 = x - 16 + at_ := Int.emod_eq_of_lt (by omega) (by omega)
    rw [e]
    unfold Hp.okw
    have e3 : Hp.idx at_ (x - 16 + at_) = Hp.idx 16 x := by
      unfold Hp.idx
      rw [show x - 16 + at_ - at_ = x - 16 by omega]
    have e4 : Hp.whole at_ (x - 16 + at_) = true := by
      unfold Hp.whole
      rw [show x - 16 + at_ - at_ = x - 16 by omega]
      simpa using h1
    rw [e3, e4]
    unfold Hp.mem
    rw [h2]
    simp
  · rw [if_neg hc]
    unfold Hp.okw
    have hi : Hp.isAdr at_ x = false := by
      unfold Hp.isAdr
      by_cases h0 : x % 2 = 0
      · have : ¬ at_ ≤ x := fun hle => hc ⟨h0, by omega⟩
        simp [this]
      · have : (x % 2 == 0) = false := by simpa using h0
        rw [this]; rfl
    rw [hi]
    rfl

theorem Hp.shift_okws {hs : List Nat} {n : Nat} {at_ : Int} (hh : ∀ i ∈ hs, i < n) (hn : n ≤ 500) (hat : Hp.place at_) (h16 : 16 ≤ at_) (hb : at_ ≤ 262144) {ws : List Int} (hr : ∀ x ∈ ws, 0 ≤ x ∧ x < 4294967296) (h : Hp.okws (Hp.mem hs) 16 ws = true) : Hp.okws (Hp.mem hs) at_ (ws.map (Hp.shift 16 at_)) = true := by
  unfold Hp.okws at h ⊢
  rw [List.all_eq_true] at h ⊢
  intro y hy
  obtain ⟨x, hx, rfl⟩ := List.mem_map.1 hy
  exact Hp.shift_okw hh hn (hr x hx) hat h16 hb (h x hx)

theorem Hp.fields_map {ls out : List Int} {hs : List Nat} {at_ : Int} (hhs : Hp.heads ls = some hs) (rl : Hp.Rl ls hs 16 at_ ls.length out) {i : Nat} (hi : i ∈ hs) : Hp.fields out i = (Hp.fields ls i).map (Hp.shift 16 at_) := by
  have hd := Hp.heads_head hhs hi
  have h0 : out[i]? = ls[i]? := by
    rw [rl.val i, Hp.fpos_head hhs hi, List.getElem?_eq_getElem hd.lt]
    simp
  have hlen : (Hp.fields out i).length = (Hp.fields ls i).length := by
    unfold Hp.fields
    rw [h0, List.getElem?_eq_getElem hd.lt]
    simp only
    split
    · rfl
    · rw [List.length_take, List.length_take, List.length_drop, List.length_drop, rl.len]
  apply List.ext_getElem (by rw [hlen, List.length_map])
  intro n h1 h2
  have h3 : n < (Hp.fields ls i).length := by omega
  have g1 := Hp.fields_get h1
  have g2 := Hp.fields_get h3
  have hf : Hp.fpos ls hs (i + 1 + n) = true := by
    unfold Hp.fpos
    rw [List.any_eq_true]
    exact ⟨i, hi, by simp only [Bool.and_eq_true, decide_eq_true_eq]; omega⟩
  have hlt := (List.getElem?_eq_some_iff.1 g2).1
  rw [rl.val, g2, Option.map_some, if_pos ⟨hf, hlt⟩] at g1
  rw [List.getElem_map]
  exact (Option.some.inj g1).symm

theorem Hp.relaid_ok {ls out roots : List Int} {hs : List Nat} {at_ : Int} (ok : Hp.Ok ls 16 roots hs) (hr : ∀ x ∈ ls, 0 ≤ x ∧ x < 4294967296) (hrr : ∀ x ∈ roots, 0 ≤ x ∧ x < 4294967296) (rl : Hp.Rl ls hs 16 at_ ls.length out) (hn : ls.length ≤ 500) (hat : Hp.place at_) (h16 : 16 ≤ at_) (hb : at_ ≤ 262144) :
    Hp.Ok out at_ (roots.map (Hp.shift 16 at_)) hs ∧ ∀ x ∈ out, 0 ≤ x ∧ x < 4294967296 := by
  have hh : ∀ i ∈ hs, i < ls.length := fun i hi => (Hp.heads_head ok.heads hi).lt
  refine ⟨⟨by rw [rl.len]; exact ok.ll, by rw [List.length_map]; exact ok.rl, ?_, hat, Hp.shift_okws hh hn hat h16 hb hrr ok.roots, fun i hi => ?_⟩, fun x hx => ?_⟩
  · have h := ok.heads
    have h' : Hp.from ls 0 = some hs := by unfold Hp.from; exact h
    have := Hp.from_same rl.len ls.length 0 hs (by omega) h' (fun k hk => by
      rw [rl.val k, Hp.fpos_head h hk, List.getElem?_eq_getElem (hh k hk)]
      simp)
    unfold Hp.from at this
    exact this
  · rw [Hp.fields_map ok.heads rl hi]
    refine Hp.shift_okws hh hn hat h16 hb (fun x hx => ?_) (ok.fields i hi)
    obtain ⟨n, hn', rfl⟩ := List.getElem_of_mem hx
    exact hr _ (List.mem_of_getElem? (Hp.fields_get hn'))
  · obtain ⟨p, hp, rfl⟩ := List.getElem_of_mem hx
    have hv := rl.val p
    rw [List.getElem?_eq_getElem hp] at hv
    have hp' : p < ls.length := by rw [← rl.len]; exact hp
    rw [List.getElem?_eq_getElem hp', Option.map_some] at hv
    have e := Option.some.inj hv
    rw [e]
    have := hr _ (List.getElem_mem hp')
    split
    · unfold Hp.shift
      split
      · exact ⟨Int.emod_nonneg _ (by decide), Int.emod_lt_of_pos _ (by decide)⟩
      · exact this
    · exact this

end Go.Proofs.YtgohnekaolgblaaGreat
