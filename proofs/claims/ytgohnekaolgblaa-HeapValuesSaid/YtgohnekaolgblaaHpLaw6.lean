/- What is moved stays as it is, but for its place, when it is moved once more: plain. -/
import Derived.Test.YtgohnekaolgblaaHpLaw5
import Derived.Test.YtgohnekaolgblaaHpReloc
namespace Go.Proofs.Ytgohnekaolgblaa

section
variable {ls : List Int} {a : Int} {hs : List Nat} {to : Int} {O : List Nat} {m : List Int} (M : Hp.Mvd ls a hs to O m)
include M
theorem Hp.Mvd.fit {q : Nat} (hq : q < O.length) : 1 + (Hp.fields m (Hp.q ls O q)).length ≤ Hp.wnAt ls O[q] := by
  rw [M.fields hq, List.length_map]
  exact Hp.fields_fit (M.head (List.getElem_mem hq))
theorem Hp.Mvd.fpos {q j : Nat} (hq : q < O.length) (hj : j < Hp.wnAt ls O[q]) : Hp.fpos m (Hp.newHeads ls O) (Hp.q ls O q + j) = true ↔ Hp.isField m (Hp.q ls O q) j := by
  unfold Hp.fpos Hp.isField
  rw [List.any_eq_true]
  constructor
  · rintro ⟨h, hh, hc⟩
    unfold Hp.newHeads at hh
    obtain ⟨r, hr, rfl⟩ := List.mem_map.1 hh
    have hr' : r < O.length := by rw [List.mem_range'_1] at hr; omega
    simp only [Bool.and_eq_true, decide_eq_true_eq] at hc
    have hf := M.fit hr'
    obtain ⟨rfl, e⟩ := Hp.q_inj (ls := ls) hq hr' hj (j' := Hp.q ls O q + j - Hp.q ls O r) (by omega) (by omega)
    omega
  · rintro ⟨h1, h2⟩
    refine ⟨Hp.q ls O q, ?_, ?_⟩
    · unfold Hp.newHeads
      exact List.mem_map.2 ⟨q, by rw [List.mem_range'_1]; omega, rfl⟩
    · simp only [Bool.and_eq_true, decide_eq_true_eq]
      omega
/-- A word that is moved once more is shifted. -/
theorem Hp.Mvd.shift {x t2 : Int} (hml : m.length ≤ 65536) (ht2 : Hp.place t2) (hok : Hp.okw (Hp.mem (Hp.newHeads ls O)) to x = true) : Hp.shift to t2 x = Hp.rel m to t2 (O.map (Hp.P ls O)) x := by
  by_cases h : Hp.adr to x
  · unfold Hp.okw at hok
    rw [h.1, h.2] at hok
    simp only [Bool.not_true, Bool.false_or, Bool.true_and] at hok
    have hmem : Hp.idx to x ∈ Hp.newHeads ls O := by simpa [Hp.mem] using hok
    unfold Hp.newHeads at hmem
    obtain ⟨r, hr, e⟩ := List.mem_map.1 hmem
    have hr' : r < O.length := by rw [List.mem_range'_1] at hr; omega
    have hpos : Hp.pos m (O.map (Hp.P ls O)) 0 (Hp.idx to x) = some (Hp.q ls O r) := by
      rw [← e, ← M.map_get hr', Hp.pos_q m _ 0 r (by rw [List.length_map]; exact hr') M.nodup', M.q' r (by omega), M.map_get hr', Nat.zero_add]
    rw [Hp.rel_adr h hpos]
    have hlt := Hp.q_fits (ls := ls) (o := O) hr' (j := 0) (by have := M.wn_pos hr'; omega)
    rw [← M.desc.len] at hlt
    obtain ⟨h1, h2⟩ := h
    unfold Hp.isAdr at h1
    unfold Hp.whole at h2
    simp only [Bool.and_eq_true, beq_iff_eq, decide_eq_true_eq] at h1 h2
    unfold Hp.idx at e
    obtain ⟨p1, p2, p3⟩ := ht2
    unfold Hp.shift
    rw [if_pos h1]
    omega
  · have hn := Hp.okw_non hok h
    rw [Hp.rel_non h]
    unfold Hp.shift
    rw [if_neg]
    rintro ⟨h1, h2⟩
    unfold Hp.isAdr at hn
    simp [h1, h2] at hn
theorem Hp.Mvd.reloc {t2 : Int} {k out : List Int} (hml : m.length ≤ 65536) (ht2 : Hp.place t2) (hok : ∀ i ∈ Hp.newHeads ls O, Hp.okws (Hp.mem (Hp.newHeads ls O)) to (Hp.fields m i) = true)
    (hd : Hp.Desc m to t2 (O.map (Hp.P ls O)) k) (hr : Hp.Rl m (Hp.newHeads ls O) to t2 m.length out) : out = k := by
  have hsum : Hp.sum m (O.map (Hp.P ls O)) = Hp.sum ls O := by
    rw [← Hp.q_all, ← Hp.q_all, List.length_map]
    exact M.q' _ (Nat.le_refl _)
  apply List.ext_getElem?
  intro p
  by_cases hp : p < Hp.sum ls O
  · obtain ⟨q, j, hq, hj, rfl⟩ := Hp.q_cover ls O p hp
    have v2 := hd.val q (by rw [List.length_map]; exact hq) j (by rw [M.map_get hq, M.wn hq]; exact hj)
    rw [M.q' q (by omega), M.map_get hq] at v2
    rw [v2, hr.val]
    cases hx : m[Hp.q ls O q + j]? with
    | none => rfl
    | some x =>
      simp only [Option.map_some]
      by_cases hf : Hp.isField m (Hp.q ls O q) j
      · rw [if_pos hf, if_pos ⟨(M.fpos hq hj).2 hf, by rw [M.desc.len]; exact hp⟩]
        have hxm : x ∈ Hp.fields m (Hp.q ls O q) := by
          have h1 := hf.1
          have hl : j - 1 < (Hp.fields m (Hp.q ls O q)).length := by have := hf.2; omega
          have hg := Hp.fields_get hl
          rw [show Hp.q ls O q + 1 + (j - 1) = Hp.q ls O q + j by omega, hx] at hg
          rw [Option.some.inj hg]
          exact List.getElem_mem hl
        have ho := hok (Hp.q ls O q) (by unfold Hp.newHeads; exact List.mem_map.2 ⟨q, by rw [List.mem_range'_1]; omega, rfl⟩)
        unfold Hp.okws at ho
        rw [M.shift hml ht2 (List.all_eq_true.1 ho x hxm)]
      · rw [if_neg hf, if_neg (fun h => hf ((M.fpos hq hj).1 h.1))]
  · rw [List.getElem?_eq_none (by rw [hr.len, M.desc.len]; omega), List.getElem?_eq_none (by rw [hd.len, hsum]; omega)]
end

/-- What was moved, moved once more, is what it was, but for its place. -/
theorem Hp.moved_reloc {ls : List Int} {hs : List Nat} {a : Int} {rs : List Int} (ok : Hp.Ok ls a rs hs) {to : Int} (ht : Hp.place to) (hlow : ∀ i ∈ hs, Hp.noLow a to (Hp.fields ls i)) (hlr : Hp.noLow a to rs) :
    ∃ hs', Hp.heads (Hp.move ls a rs to).1 = some hs' ∧ ∀ t2, Hp.place t2 → ∀ out, Hp.Rl (Hp.move ls a rs to).1 hs' to t2 (Hp.move ls a rs to).1.length out → out = (Hp.move (Hp.move ls a rs to).1 to (Hp.move ls a rs to).2 t2).1 := by
  have M := Hp.mvd ok ht hlow
  have hd := Hp.move_desc ok to
  have hmem : ∀ w ∈ rs, Hp.adr a w → Hp.idx a w ∈ Hp.ordAll ls a rs := fun w hw ha => Hp.roots_mem hw ha
  have ok' := M.ok' ok.ll ok.rl ok.roots hlr hmem
  rw [hd.2.2]
  refine ⟨_, ok'.heads, fun t2 ht2 out hr => ?_⟩
  have d2 := Hp.move_desc ok' t2
  rw [M.ordAll rfl ok.roots hlr hmem] at d2
  exact M.reloc ok'.ll ht2 ok'.fields d2.1 hr

/-- The words that are moved are words. -/
theorem Hp.move_range {ls : List Int} {hs : List Nat} {a : Int} {rs : List Int} (ok : Hp.Ok ls a rs hs) {to : Int} (hto : 0 ≤ to ∧ to ≤ 2147483648) (hl : ∀ x ∈ ls, 0 ≤ x ∧ x < 4294967296) (hr : ∀ x ∈ rs, 0 ≤ x ∧ x < 4294967296) :
    (∀ x ∈ (Hp.move ls a rs to).1, 0 ≤ x ∧ x < 4294967296) ∧ ∀ x ∈ (Hp.move ls a rs to).2, 0 ≤ x ∧ x < 4294967296 := by
  obtain ⟨hd, hi, h2⟩ := Hp.move_desc ok to
  have hb := hi.bound ok.heads
  have hll := ok.ll
  have hrel : ∀ x, 0 ≤ x ∧ x < 4294967296 → 0 ≤ Hp.rel ls a to (Hp.ordAll ls a rs) x ∧ Hp.rel ls a to (Hp.ordAll ls a rs) x < 4294967296 := by
    intro x hx
    unfold Hp.rel
    split
    · cases hp : Hp.pos ls (Hp.ordAll ls a rs) 0 (Hp.idx a x) with
      | none => first | exact hx | (simp only; omega)
      | some n =>
        have := Hp.pos_le ls _ 0 _ n hp
        have := hd.len
        simp only
        omega
    · exact hx
  constructor
  · intro x hx
    obtain ⟨p, hp, rfl⟩ := List.getElem_of_mem hx
    obtain ⟨q, j, hq, hj, hpe⟩ := Hp.q_cover ls (Hp.ordAll ls a rs) p (by rw [← hd.len]; exact hp)
    have v := hd.val q hq j hj
    rw [← hpe, List.getElem?_eq_getElem hp] at v
    cases hg : ls[(Hp.ordAll ls a rs)[q] + j]? with
    | none => rw [hg] at v; cases v
    | some y =>
      rw [hg] at v
      have hy := hl y (List.mem_of_getElem? hg)
      rw [Option.some.inj v]
      split
      · exact hrel y hy
      · exact hy
  · rw [h2]
    intro x hx
    obtain ⟨y, hy, rfl⟩ := List.mem_map.1 hx
    exact hrel y (hr y hy)

end Go.Proofs.Ytgohnekaolgblaa
