/- The memory that the asked program begins with, by its words. -/
import Derived.Test.YtgohnekaolgblaaGreatQ26
import Derived.Test.YtgohnekaolgblaaGreatQ20
import Derived.Test.YtgohnekaolgblaaGreatQ22
import Derived.Test.YtgohnekaolgblaaGreatQ12
import Derived.Test.YtgohnekaolgblaaGreatQ27
import Derived.Test.YtgohnekaolgblaaGreatQ04
import Derived.Test.YtgohnekaolgblaaGreatQ05
import Derived.Test.YtgohnekaolgblaaGreatQ36
import Derived.Test.YtgohnekaolgblaaGreatQ25
namespace Go.Proofs.YtgohnekaolgblaaGreat

theorem putWs_get : ∀ (l : List Int) (bs : List Int) (p i : Nat), i < bs.length → (putWs bs p l)[i]? = if p ≤ i ∧ i < p + 4 * l.length then some (l.getD ((i - p) / 4) 0 / 256 ^ ((i - p) % 4) % 256) else bs[i]?
  | [], bs, p, i, hi => by rw [putWs, if_neg (by simp <;> omega)]
  | x :: l, bs, p, i, hi => by
    rw [putWs, putWs_get l _ (p + 4) i (by rw [putN_length]; exact hi), putN_get bs p x i hi 4, List.length_cons]
    by_cases h : p + 4 ≤ i ∧ i < p + 4 + 4 * l.length
    · rw [if_pos h, if_pos (by omega)]
      have e1 : (i - p) / 4 = (i - (p + 4)) / 4 + 1 := by omega
      have e2 : (i - p) % 4 = (i - (p + 4)) % 4 := by omega
      rw [e1, e2]
      rfl
    · rw [if_neg h]
      by_cases h2 : p ≤ i ∧ i < p + 4
      · rw [if_pos h2, if_pos (by omega), show (i - p) / 4 = 0 by omega, show (i - p) % 4 = i - p by omega]
        rfl
      · rw [if_neg h2, if_neg (by omega)]

theorem putWs_getD (l : List Int) (bs : List Int) (p i : Nat) (hi : i < bs.length) : (putWs bs p l).getD i 0 = if p ≤ i ∧ i < p + 4 * l.length then l.getD ((i - p) / 4) 0 / 256 ^ ((i - p) % 4) % 256 else bs.getD i 0 := by
  rw [List.getD_eq_getElem?_getD, putWs_get l bs p i hi]
  split
  · rfl
  · rw [List.getD_eq_getElem?_getD]

theorem word4_in {l bs : List Int} {p j : Nat} (hj : j < l.length) (hl : p + 4 * l.length ≤ bs.length) (hr : ∀ x ∈ l, 0 ≤ x ∧ x < 4294967296) : word4 (putWs bs p l) (p + 4 * j) = l[j] := by
  have hx := hr _ (List.getElem_mem hj)
  have e : l.getD j 0 = l[j] := by rw [List.getD_eq_getElem?_getD, List.getElem?_eq_getElem hj]; rfl
  unfold word4
  rw [putWs_getD l bs p _ (by omega), putWs_getD l bs p _ (by omega), putWs_getD l bs p _ (by omega), putWs_getD l bs p _ (by omega), if_pos (by omega), if_pos (by omega), if_pos (by omega), if_pos (by omega)]
  rw [show (p + 4 * j - p) / 4 = j by omega, show (p + 4 * j + 1 - p) / 4 = j by omega, show (p + 4 * j + 2 - p) / 4 = j by omega, show (p + 4 * j + 3 - p) / 4 = j by omega, show (p + 4 * j - p) % 4 = 0 by omega, show (p + 4 * j + 1 - p) % 4 = 1 by omega, show (p + 4 * j + 2 - p) % 4 = 2 by omega, show (p + 4 * j + 3 - p) % 4 = 3 by omega, e]
  simp only [show (256 : Int) ^ 0 = 1 from rfl, show (256 : Int) ^ 1 = 256 from rfl, show (256 : Int) ^ 2 = 65536 from rfl, show (256 : Int) ^ 3 = 16777216 from rfl]
  omega
theorem word4_out {l bs : List Int} {p i : Nat} (hi : i + 4 ≤ bs.length) (ho : i + 4 ≤ p ∨ p + 4 * l.length ≤ i) : word4 (putWs bs p l) i = word4 bs i := by
  unfold word4
  rw [putWs_getD l bs p _ (by omega), putWs_getD l bs p _ (by omega), putWs_getD l bs p _ (by omega), putWs_getD l bs p _ (by omega), if_neg (by omega), if_neg (by omega), if_neg (by omega), if_neg (by omega)]
theorem word4_zero (n i : Nat) : word4 (List.replicate n 0) i = 0 := by
  have h : ∀ j, (List.replicate n (0 : Int)).getD j 0 = 0 := fun j => by
    rw [List.getD_eq_getElem?_getD, List.getElem?_replicate]
    split <;> rfl
  unfold word4
  rw [h, h, h, h]
  rfl
theorem word4_past (bs : List Int) (i : Nat) (h : bs.length ≤ i) : word4 bs i = 0 := by
  unfold word4
  have g : ∀ j, bs.length ≤ j → bs.getD j 0 = 0 := fun j hj => by rw [List.getD_eq_getElem?_getD, List.getElem?_eq_none hj]; rfl
  rw [g _ (by omega), g _ (by omega), g _ (by omega), g _ (by omega)]
  rfl

theorem Mm.up_lay (a : Int) (bs : List Int) : ∀ k, Mm.Up (Mm.lay [] a bs k)
  | 0 => fun i j hi => by simp [Mm.lay] at hi
  | k + 1 => by
    rw [Mm.lay]
    exact Mm.up_set (Mm.up_lay a bs k)
theorem Mm.get_lay (a : Int) (bs : List Int) (x : Int) : ∀ k, Mm.get (Mm.lay [] a bs k) x = if a ≤ x ∧ x < a + k then bs.getD (x - a).toNat 0 else 0
  | 0 => by rw [if_neg (by omega)]; rfl
  | k + 1 => by
    rw [Mm.lay, Mm.get_set (Mm.up_lay a bs k), Mm.get_lay a bs x k]
    by_cases h : x = a + (k : Int)
    · rw [if_pos h, if_pos (by omega)]
      congr 1
      omega
    · rw [if_neg h]
      by_cases h2 : a ≤ x ∧ x < a + (k : Int)
      · rw [if_pos h2, if_pos (by omega)]
      · rw [if_neg h2, if_neg (by omega)]
theorem Mm.word_lay {bs : List Int} {x : Int} {i : Nat} (hx : x = 16 + (i : Int)) (h : i + 4 ≤ bs.length) : Mm.word (Mm.lay [] 16 bs bs.length) x = word4 bs i := by
  subst hx
  unfold Mm.word word4
  rw [Mm.get_lay, Mm.get_lay, Mm.get_lay, Mm.get_lay, if_pos (by omega), if_pos (by omega), if_pos (by omega), if_pos (by omega)]
  rw [show (16 + (i : Int) - 16).toNat = i by omega, show (16 + (i : Int) + 1 - 16).toNat = i + 1 by omega, show (16 + (i : Int) + 2 - 16).toNat = i + 2 by omega, show (16 + (i : Int) + 3 - 16).toNat = i + 3 by omega]
  omega
theorem Mw.of {L : List (Int × Int)} (hu : Mm.Up L) (hb : Mm.Byt L) : Mw L (fun q => (Mm.word L (4 * (q : Int))).toNat) :=
  ⟨hu, hb, fun k => by have := (Mm.word_lt hb (4 * (k : Int))).1; omega⟩
theorem Mw.lay {bs : List Int} (hr : ∀ x ∈ bs, 0 ≤ x ∧ x < 256) : Mw (Mm.lay [] 16 bs bs.length) (fun q => (Mm.word (Mm.lay [] 16 bs bs.length) (4 * (q : Int))).toNat) :=
  Mw.of (Mm.up_lay 16 bs _) fun q hq => by
    rcases Mm.lay_mem _ q hq with h | ⟨j, h1, h2, h3⟩
    · cases h
    · rw [h3, List.getD_eq_getElem?_getD, List.getElem?_eq_getElem h1]
      exact hr _ (List.getElem_mem h1)

theorem putAll_get : ∀ (l : List Int) (k : Nat) (M : Nat → Nat) (q : Nat), putAll l k M q = if k ≤ q ∧ q < k + l.length then (l.getD (q - k) 0).toNat else M q
  | [], k, M, q => by rw [putAll, if_neg (by simp <;> omega)]
  | x :: l, k, M, q => by
    rw [putAll, putAll_get l (k + 1) _ q, List.length_cons]
    by_cases h : k + 1 ≤ q ∧ q < k + 1 + l.length
    · rw [if_pos h, if_pos (by omega), show q - k = q - (k + 1) + 1 by omega]
      rfl
    · rw [if_neg h]
      by_cases h2 : q = k
      · subst h2
        rw [if_pos (by omega), upd_same, Nat.sub_self]
        rfl
      · rw [if_neg (by omega), upd_other h2]

/-- A byte of a word. -/
theorem Mw.byte {L : List (Int × Int)} {M : Nat → Nat} (h : Mw L M) (q t : Nat) (ht : t < 4) : Mm.get L (4 * (q : Int) + (t : Int)) = (M q : Int) / 256 ^ t % 256 := by
  have hw := h.word q
  unfold Mm.word at hw
  have b0 := h.byt.get (4 * (q : Int))
  have b1 := h.byt.get (4 * (q : Int) + 1)
  have b2 := h.byt.get (4 * (q : Int) + 2)
  have b3 := h.byt.get (4 * (q : Int) + 3)
  rcases (show t = 0 ∨ t = 1 ∨ t = 2 ∨ t = 3 by omega) with rfl | rfl | rfl | rfl
  · simp only [show (256 : Int) ^ 0 = 1 from rfl]
    rw [show 4 * (q : Int) + ((0 : Nat) : Int) = 4 * (q : Int) by omega]
    omega
  · simp only [show (256 : Int) ^ 1 = 256 from rfl]
    rw [show 4 * (q : Int) + ((1 : Nat) : Int) = 4 * (q : Int) + 1 by omega]
    omega
  · simp only [show (256 : Int) ^ 2 = 65536 from rfl]
    rw [show 4 * (q : Int) + ((2 : Nat) : Int) = 4 * (q : Int) + 2 by omega]
    omega
  · simp only [show (256 : Int) ^ 3 = 16777216 from rfl]
    rw [show 4 * (q : Int) + ((3 : Nat) : Int) = 4 * (q : Int) + 3 by omega]
    omega

end Go.Proofs.YtgohnekaolgblaaGreat

/- The functions of a program with a heap may be. -/
namespace Go.Proofs.YtgohnekaolgblaaGreat
open Go.RowKit

theorem movingOk (s : Int) : (⟨1, 4, movingL⟩ : Fx).ok 5 ((heapFns s).map Fx.p) := by
  refine ⟨by decide, by decide, by decide, by decide, ?_, by decide, by decide, by decide, by decide⟩
  simp [movingL, heapFns, Lo.goods, Lo.good, loOk, Ex.goods, Ex.good, exOk, opsOf, bytesX, wordsX, sizeX, isTextX]
theorem takerOk (s : Int) : (⟨1, 1, takerL⟩ : Fx).ok 5 ((heapFns s).map Fx.p) := by
  refine ⟨by decide, by decide, by decide, by decide, ?_, by decide, by decide, by decide, by decide⟩
  simp [takerL, fewX, heapFns, Lo.goods, Lo.good, loOk, Ex.goods, Ex.good, exOk, opsOf]
theorem collectOk (s : Int) (h0 : 0 ≤ s) (h1 : s ≤ 4294967295) : (⟨0, 5, collectL s⟩ : Fx).ok 5 ((heapFns s).map Fx.p) := by
  refine ⟨show (0 : Int) ≤ 0 by decide, show (0 : Int) ≤ 20 by decide, show (0 : Int) ≤ 5 by decide, show (5 : Int) ≤ 1000 by decide, ?_, ?_, ?_, ?_, ?_⟩
  · simp [collectL, rootsL, scanL, wordsL, eachL, heapFns, Lo.goods, Lo.good, loOk, Ex.goods, Ex.good, exOk, opsOf, bytesX, wordsX, sizeX, isTextX]
    omega
  · show Lo.sizes (collectL 0) ≤ 32768
    decide
  · show Lo.deeps (collectL 0) ≤ 200
    decide
  · show Ex.nums (Lo.alls (collectL 0)) ≤ 32768
    decide
  · show Ex.deeps (Lo.alls (collectL 0)) ≤ 200
    decide
theorem heapFnsOk (s : Int) (h0 : 0 ≤ s) (h1 : s ≤ 4294967295) : ∀ f ∈ heapFns s, f.ok 5 ((heapFns s).map Fx.p) := by
  intro f hf
  have : f = ⟨0, 0, []⟩ ∨ f = ⟨0, 5, collectL s⟩ ∨ f = ⟨1, 1, takerL⟩ ∨ f = ⟨1, 4, movingL⟩ := by simpa [heapFns] using hf
  rcases this with rfl | rfl | rfl | rfl
  · exact ⟨by decide, by decide, by decide, by decide, by simp [Lo.goods], by decide, by decide, by decide, by decide⟩
  · exact collectOk s h0 h1
  · exact takerOk s
  · exact movingOk s

end Go.Proofs.YtgohnekaolgblaaGreat

/- The functions of a program that asks its heap may be. -/
namespace Go.Proofs.YtgohnekaolgblaaGreat
open Go.RowKit

def askFns (s : Int) : List Fx := heapFns s ++ [⟨0, 1, askL⟩]
theorem askFns_length (s : Int) : (askFns s).length = 5 := rfl
theorem askOk (s : Int) : (⟨0, 1, askL⟩ : Fx).ok 5 ((askFns s).map Fx.p) := by
  refine ⟨by decide, by decide, by decide, by decide, ?_, by decide, by decide, by decide, by decide⟩
  simp [askL, outW, askFns, heapFns, Lo.goods, Lo.good, loOk, Ex.goods, Ex.good, exOk, opsOf]
theorem askFnsOk (s : Int) (h0 : 0 ≤ s) (h1 : s ≤ 4294967295) : ∀ f ∈ askFns s, f.ok 5 ((askFns s).map Fx.p) := by
  intro f hf
  have : f = ⟨0, 0, []⟩ ∨ f = ⟨0, 5, collectL s⟩ ∨ f = ⟨1, 1, takerL⟩ ∨ f = ⟨1, 4, movingL⟩ ∨ f = ⟨0, 1, askL⟩ := by simpa [askFns, heapFns] using hf
  rcases this with rfl | rfl | rfl | rfl | rfl
  · exact ⟨by decide, by decide, by decide, by decide, by simp [Lo.goods], by decide, by decide, by decide, by decide⟩
  · refine ⟨show (0 : Int) ≤ 0 by decide, show (0 : Int) ≤ 20 by decide, show (0 : Int) ≤ 5 by decide, show (5 : Int) ≤ 1000 by decide, ?_, (collectOk s h0 h1).2.2.2.2.2⟩
    simp [collectL, rootsL, scanL, wordsL, eachL, askFns, heapFns, Lo.goods, Lo.good, loOk, Ex.goods, Ex.good, exOk, opsOf, bytesX, wordsX, sizeX, isTextX]
    omega
  · refine ⟨by decide, by decide, by decide, by decide, ?_, (takerOk s).2.2.2.2.2⟩
    simp [takerL, fewX, askFns, heapFns, Lo.goods, Lo.good, loOk, Ex.goods, Ex.good, exOk, opsOf]
  · refine ⟨by decide, by decide, by decide, by decide, ?_, (movingOk s).2.2.2.2.2⟩
    simp [movingL, askFns, heapFns, Lo.goods, Lo.good, loOk, Ex.goods, Ex.good, exOk, opsOf, bytesX, wordsX, sizeX, isTextX]
  · exact askOk s

end Go.Proofs.YtgohnekaolgblaaGreat

/- What is moved stays as it is, but for its place, when it is moved once more: plain. -/
namespace Go.Proofs.YtgohnekaolgblaaGreat

section
variable {ls : List Int} {a : Int} {hs : List Nat} {to : Int} {O : List Nat} {m : List Int} (M : Hp.Mvd ls a hs to O m)
include M
theorem Hp.Mvd.fit {q : Nat} (hq : q < O.length) : 1 + (Hp.fields m (Hp.q ls O q)).length ≤ Hp.wnAt ls O[q] := by
  rw [M.fields hq, List.length_map]
  exact Hp.fields_fit (M.head (List.getElem_mem hq))
theorem Hp.Mvd.fpos {q j : Nat} (hq : q < O.length) (hj : j < Hp.wnAt ls O[q]) : Hp.fpos m (Hp.newHeads ls O) (Hp.q ls O q + j) = true ↔ Hp.isField m (Hp.q ls O q) j := by
  unfold Hp.fpos Hp.isField
  rw [List.any_eq_true]
  constructor
  · rintro ⟨h, hh, hc⟩
    unfold Hp.newHeads at hh
    obtain ⟨r, hr, rfl⟩ := List.mem_map.1 hh
    have hr' : r < O.length := by rw [List.mem_range'_1] at hr; omega
    simp only [Bool.and_eq_true, decide_eq_true_eq] at hc
    have hf := M.fit hr'
    obtain ⟨rfl, e⟩ := Hp.q_inj (ls := ls) hq hr' hj (j' := Hp.q ls O q + j - Hp.q ls O r) (by omega) (by omega)
    omega
  · rintro ⟨h1, h2⟩
    refine ⟨Hp.q ls O q, ?_, ?_⟩
    · unfold Hp.newHeads
      exact List.mem_map.2 ⟨q, by rw [List.mem_range'_1]; omega, rfl⟩
    · simp only [Bool.and_eq_true, decide_eq_true_eq]
      omega
/-- A word that is moved once more is shifted. -/
theorem Hp.Mvd.shift {x t2 : Int} (hml : m.length ≤ 65536) (ht2 : Hp.place t2) (hok : Hp.okw (Hp.mem (Hp.newHeads ls O)) to x = true) : Hp.shift to t2 x = Hp.rel m to t2 (O.map (Hp.P ls O)) x := by
  by_cases h : Hp.adr to x
  · unfold Hp.okw at hok
    rw [h.1, h.2] at hok
    simp only [Bool.not_true, Bool.false_or, Bool.true_and] at hok
    have hmem : Hp.idx to x ∈ Hp.newHeads ls O := by simpa [Hp.mem] using hok
    unfold Hp.newHeads at hmem
    obtain ⟨r, hr, e⟩ := List.mem_map.1 hmem
    have hr' : r < O.length := by rw [List.mem_range'_1] at hr; omega
    have hpos : Hp.pos m (O.map (Hp.P ls O)) 0 (Hp.idx to x) = some (Hp.q ls O r) := by
      rw [← e, ← M.map_get hr', Hp.pos_q m _ 0 r (by rw [List.length_map]; exact hr') M.nodup', M.q' r (by omega), M.map_get hr', Nat.zero_add]
    rw [Hp.rel_adr h hpos]
    have hlt := Hp.q_fits (ls := ls) (o := O) hr' (j := 0) (by have := M.wn_pos hr'; omega)
    rw [← M.desc.len] at hlt
    obtain ⟨h1, h2⟩ := h
    unfold Hp.isAdr at h1
    unfold Hp.whole at h2
    simp only [Bool.and_eq_true, beq_iff_eq, decide_eq_true_eq] at h1 h2
    unfold Hp.idx at e
    obtain ⟨p1, p2, p3⟩ := ht2
    unfold Hp.shift
    rw [if_pos h1]
    omega
  · have hn := Hp.okw_non hok h
    rw [Hp.rel_non h]
    unfold Hp.shift
    rw [if_neg]
    rintro ⟨h1, h2⟩
    unfold Hp.isAdr at hn
    simp [h1, h2] at hn
theorem Hp.Mvd.reloc {t2 : Int} {k out : List Int} (hml : m.length ≤ 65536) (ht2 : Hp.place t2) (hok : ∀ i ∈ Hp.newHeads ls O, Hp.okws (Hp.mem (Hp.newHeads ls O)) to (Hp.fields m i) = true)
    (hd : Hp.Desc m to t2 (O.map (Hp.P ls O)) k) (hr : Hp.Rl m (Hp.newHeads ls O) to t2 m.length out) : out = k := by
  have hsum : Hp.sum m (O.map (Hp.P ls O)) = Hp.sum ls O := by
    rw [← Hp.q_all, ← Hp.q_all, List.length_map]
    exact M.q' _ (Nat.le_refl _)
  apply List.ext_getElem?
  intro p
  by_cases hp : p < Hp.sum ls O
  · obtain ⟨q, j, hq, hj, rfl⟩ := Hp.q_cover ls O p hp
    have v2 := hd.val q (by rw [List.length_map]; exact hq) j (by rw [M.map_get hq, M.wn hq]; exact hj)
    rw [M.q' q (by omega), M.map_get hq] at v2
    rw [v2, hr.val]
    cases hx : m[Hp.q ls O q + j]? with
    | none => rfl
    | some x =>
      simp only [Option.map_some]
      by_cases hf : Hp.isField m (Hp.q ls O q) j
      · rw [if_pos hf, if_pos ⟨(M.fpos hq hj).2 hf, by rw [M.desc.len]; exact hp⟩]
        have hxm : x ∈ Hp.fields m (Hp.q ls O q) := by
          have h1 := hf.1
          have hl : j - 1 < (Hp.fields m (Hp.q ls O q)).length := by have := hf.2; omega
          have hg := Hp.fields_get hl
          rw [show Hp.q ls O q + 1 + (j - 1) = Hp.q ls O q + j by omega, hx] at hg
          rw [Option.some.inj hg]
          exact List.getElem_mem hl
        have ho := hok (Hp.q ls O q) (by unfold Hp.newHeads; exact List.mem_map.2 ⟨q, by rw [List.mem_range'_1]; omega, rfl⟩)
        unfold Hp.okws at ho
        rw [M.shift hml ht2 (List.all_eq_true.1 ho x hxm)]
      · rw [if_neg hf, if_neg (fun h => hf ((M.fpos hq hj).1 h.1))]
  · rw [List.getElem?_eq_none (by rw [hr.len, M.desc.len]; omega), List.getElem?_eq_none (by rw [hd.len, hsum]; omega)]
end

/-- What was moved, moved once more, is what it was, but for its place. -/
theorem Hp.moved_reloc {ls : List Int} {hs : List Nat} {a : Int} {rs : List Int} (ok : Hp.Ok ls a rs hs) {to : Int} (ht : Hp.place to) (hlow : ∀ i ∈ hs, Hp.noLow a to (Hp.fields ls i)) (hlr : Hp.noLow a to rs) :
    ∃ hs', Hp.heads (Hp.move ls a rs to).1 = some hs' ∧ ∀ t2, Hp.place t2 → ∀ out, Hp.Rl (Hp.move ls a rs to).1 hs' to t2 (Hp.move ls a rs to).1.length out → out = (Hp.move (Hp.move ls a rs to).1 to (Hp.move ls a rs to).2 t2).1 := by
  have M := Hp.mvd ok ht hlow
  have hd := Hp.move_desc ok to
  have hmem : ∀ w ∈ rs, Hp.adr a w → Hp.idx a w ∈ Hp.ordAll ls a rs := fun w hw ha => Hp.roots_mem hw ha
  have ok' := M.ok' ok.ll ok.rl ok.roots hlr hmem
  rw [hd.2.2]
  refine ⟨_, ok'.heads, fun t2 ht2 out hr => ?_⟩
  have d2 := Hp.move_desc ok' t2
  rw [M.ordAll rfl ok.roots hlr hmem] at d2
  exact M.reloc ok'.ll ht2 ok'.fields d2.1 hr

/-- The words that are moved are words. -/
theorem Hp.move_range {ls : List Int} {hs : List Nat} {a : Int} {rs : List Int} (ok : Hp.Ok ls a rs hs) {to : Int} (hto : 0 ≤ to ∧ to ≤ 2147483648) (hl : ∀ x ∈ ls, 0 ≤ x ∧ x < 4294967296) (hr : ∀ x ∈ rs, 0 ≤ x ∧ x < 4294967296) :
    (∀ x ∈ (Hp.move ls a rs to).1, 0 ≤ x ∧ x < 4294967296) ∧ ∀ x ∈ (Hp.move ls a rs to).2, 0 ≤ x ∧ x < 4294967296 := by
  obtain ⟨hd, hi, h2⟩ := Hp.move_desc ok to
  have hb := hi.bound ok.heads
  have hll := ok.ll
  have hrel : ∀ x, 0 ≤ x ∧ x < 4294967296 → 0 ≤ Hp.rel ls a to (Hp.ordAll ls a rs) x ∧ Hp.rel ls a to (Hp.ordAll ls a rs) x < 4294967296 := by
    intro x hx
    unfold Hp.rel
    split
    · cases hp : Hp.pos ls (Hp.ordAll ls a rs) 0 (Hp.idx a x) with
      | none => first | exact hx | (simp only; omega)
      | some n =>
        have := Hp.pos_le ls _ 0 _ n hp
        have := hd.len
        simp only
        omega
    · exact hx
  constructor
  · intro x hx
    obtain ⟨p, hp, rfl⟩ := List.getElem_of_mem hx
    obtain ⟨q, j, hq, hj, hpe⟩ := Hp.q_cover ls (Hp.ordAll ls a rs) p (by rw [← hd.len]; exact hp)
    have v := hd.val q hq j hj
    rw [← hpe, List.getElem?_eq_getElem hp] at v
    cases hg : ls[(Hp.ordAll ls a rs)[q] + j]? with
    | none => rw [hg] at v; cases v
    | some y =>
      rw [hg] at v
      have hy := hl y (List.mem_of_getElem? hg)
      rw [Option.some.inj v]
      split
      · exact hrel y hy
      · exact hy
  · rw [h2]
    intro x hx
    obtain ⟨y, hy, rfl⟩ := List.mem_map.1 hx
    exact hrel y (hr y hy)

end Go.Proofs.YtgohnekaolgblaaGreat

/- What the asked program leaves in the memory, and says. -/
namespace Go.Proofs.YtgohnekaolgblaaGreat

/-- The room's bytes. -/
def roomBs (ks ka n : Nat) (Z Y R : List Int) : List Int := putWs (putWs (putWs (List.replicate (4 * ka - 16 + 4 * n) 0) (4 * ka - 16) Z) (4 * ks - 16) Y) (4 * ka - 16) R
theorem roomBs_length (ks ka n : Nat) (Z Y R : List Int) : (roomBs ks ka n Z Y R).length = 4 * ka - 16 + 4 * n := by
  unfold roomBs
  rw [putWs_length, putWs_length, putWs_length, List.length_replicate]
theorem roomBs_range (ks ka n : Nat) (Z Y R : List Int) : ∀ x ∈ roomBs ks ka n Z Y R, 0 ≤ x ∧ x < 256 :=
  putWs_range _ _ _ (putWs_range _ _ _ (putWs_range _ _ _ fun y hy => by
    rw [List.mem_replicate] at hy
    omega))
def roomGs (ks k2 k3 ka kt n r : Nat) : List Nat := [4 * (ks + r), 4 * ka + 4 * n, 4 * ka, 4 * ka + (4 * k3 - 4 * k2), 4 * kt]

structure Laid (ks k2 k3 ka kt : Nat) : Prop where
  s : 4 ≤ ks
  one : 4 * ks + 400 ≤ 4 * k2
  two : 4 * k2 + 2000 ≤ 4 * k3
  end_ : 4 * k3 + 2000 ≤ 262144
  e2 : 4 * k2 % 8 = 0
  e3 : 4 * k3 % 8 = 0
  at_ : (ka = k2 ∧ kt = k3) ∨ (ka = k3 ∧ kt = k2)

theorem asked {ls roots R Z : List Int} {hs : List Nat} {ks k2 k3 ka kt : Nat} (ok : Hp.Ok ls 16 roots hs) (hr : ∀ x ∈ ls, 0 ≤ x ∧ x < 4294967296) (hrr : ∀ x ∈ roots, 0 ≤ x ∧ x < 4294967296) (hn : ls.length ≤ 500) (hm : roots.length ≤ 100) (l : Laid ks k2 k3 ka kt) (rl : Hp.Rl ls hs 16 ((4 * ka : Nat) : Int) ls.length R) (hZ : Z.length = ls.length) :
    Hp.Ok R ((4 * ka : Nat) : Int) (roots.map (Hp.shift 16 ((4 * ka : Nat) : Int))) hs ∧ (∀ x ∈ R, 0 ≤ x ∧ x < 4294967296) ∧
    ∀ mv, mv = Hp.move R ((4 * ka : Nat) : Int) (roots.map (Hp.shift 16 ((4 * ka : Nat) : Int))) ((4 * kt : Nat) : Int) → mv.1.length ≤ ls.length ∧ mv.2.length = roots.length ∧
    ∃ s1, Runs (askFns ((4 * ks : Nat) : Int)) 6 (.call 4 []) (St.start (roomGs ks k2 k3 ka kt ls.length roots.length) (roomBs ks ka ls.length Z (roots.map (Hp.shift 16 ((4 * ka : Nat) : Int))) R) 4 (1000 + 100 * (ls.length + roots.length) + 30)) s1 0 ∧
      s1.out = bytesOf 0 ++ bytesOf (4 * (ks + roots.length)) ++ bytesOf (4 * (kt + mv.1.length)) ++ bytesOf (4 * kt) ++ bytesOf (4 * kt + (4 * k3 - 4 * k2)) ++ bytesOf (4 * ka) ∧
      (∀ (i : Nat) (x : Int), mv.1[i]? = some x → Mm.word s1.L (4 * ((kt + i : Nat) : Int)) = x) ∧
      (∀ q t : Nat, 4 ≤ q → q < k2 → t < 4 → Mm.get s1.L (4 * (q : Int) + (t : Int)) = if ks ≤ q ∧ q < ks + mv.2.length then mv.2.getD (q - ks) 0 / 256 ^ t % 256 else 0) ∧ Mm.Byt s1.L := by
  obtain ⟨l1, l2, l3, l4, l5, l6, l7⟩ := l
  have hka : k2 ≤ ka ∧ ka ≤ k3 := by omega
  have hkt : k2 ≤ kt ∧ kt ≤ k3 := by omega
  have hpa : Hp.place ((4 * ka : Nat) : Int) := ⟨by omega, by omega, by omega⟩
  have hpt : Hp.place ((4 * kt : Nat) : Int) := ⟨by omega, by omega, by omega⟩
  obtain ⟨ok', hR⟩ := Hp.relaid_ok ok hr hrr rl hn hpa (by omega) (by omega)
  obtain ⟨Y, hY⟩ : ∃ Y, Y = roots.map (Hp.shift 16 ((4 * ka : Nat) : Int)) := ⟨_, rfl⟩
  have hYl : Y.length = roots.length := by rw [hY, List.length_map]
  have hYr : ∀ x ∈ Y, 0 ≤ x ∧ x < 4294967296 := by
    intro x hx
    rw [hY] at hx
    obtain ⟨y, hy, rfl⟩ := List.mem_map.1 hx
    have := hrr y hy
    unfold Hp.shift
    split
    · exact ⟨Int.emod_nonneg _ (by decide), Int.emod_lt_of_pos _ (by decide)⟩
    · exact this
  rw [← hY] at ok' ⊢
  refine ⟨ok', hR, fun mv hmv => ?_⟩
  have hml := Hp.move_len ok' ((4 * kt : Nat) : Int)
  have hmr := Hp.move_range ok' (to := ((4 * kt : Nat) : Int)) ⟨by omega, by omega⟩ hR hYr
  rw [← hmv] at hml hmr
  have hRl := rl.len
  refine ⟨by omega, by omega, ?_⟩
  obtain ⟨bs, hbs⟩ : ∃ bs, bs = roomBs ks ka ls.length Z Y R := ⟨_, rfl⟩
  have hbl : bs.length = 4 * ka - 16 + 4 * ls.length := by rw [hbs, roomBs_length]
  have hbr : ∀ x ∈ bs, 0 ≤ x ∧ x < 256 := by rw [hbs]; exact roomBs_range _ _ _ _ _ _
  have mw := Mw.lay hbr
  rw [← hbs]
  have lenA : (putWs (putWs (List.replicate (4 * ka - 16 + 4 * ls.length) 0) (4 * ka - 16) Z) (4 * ks - 16) Y).length = 4 * ka - 16 + 4 * ls.length := by rw [putWs_length, putWs_length, List.length_replicate]
  have lenB : (putWs (List.replicate (4 * ka - 16 + 4 * ls.length) (0 : Int)) (4 * ka - 16) Z).length = 4 * ka - 16 + 4 * ls.length := by rw [putWs_length, List.length_replicate]
  have hls : ∀ p x, R[p]? = some x → (((Mm.word (Mm.lay [] 16 bs bs.length) (4 * ((ka + p : Nat) : Int))).toNat : Nat) : Int) = x := by
    intro p x hx
    obtain ⟨hp, rfl⟩ := List.getElem?_eq_some_iff.1 hx
    rw [Mm.word_lay (i := 4 * ka - 16 + 4 * p) (by omega) (by omega), hbs, roomBs, word4_in hp (by rw [lenA]; omega) hR]
    have := hR _ (List.getElem_mem hp)
    omega
  have hst : ∀ q, 4 ≤ q → q < k2 → Mm.word (Mm.lay [] 16 bs bs.length) (4 * (q : Int)) = if ks ≤ q ∧ q < ks + Y.length then Y.getD (q - ks) 0 else 0 := by
    intro q hq hq2
    rw [Mm.word_lay (i := 4 * q - 16) (by omega) (by omega), hbs, roomBs, word4_out (by rw [lenA]; omega) (by omega)]
    by_cases h : ks ≤ q ∧ q < ks + Y.length
    · rw [if_pos h, show 4 * q - 16 = 4 * ks - 16 + 4 * (q - ks) by omega, word4_in (j := q - ks) (by omega) (by rw [lenB]; omega) hYr, List.getD_eq_getElem?_getD, List.getElem?_eq_getElem (by omega)]
      rfl
    · rw [if_neg h, word4_out (by rw [lenB]; omega) (by omega), word4_out (by rw [List.length_replicate]; omega) (by omega), word4_zero]
  have hrs : ∀ j x, Y[j]? = some x → (((Mm.word (Mm.lay [] 16 bs bs.length) (4 * ((ks + j : Nat) : Int))).toNat : Nat) : Int) = x := by
    intro j x hx
    obtain ⟨hj, rfl⟩ := List.getElem?_eq_some_iff.1 hx
    rw [hst (ks + j) (by omega) (by omega), if_pos (by omega), show ks + j - ks = j by omega, List.getD_eq_getElem?_getD, hx]
    have := hYr _ (List.getElem_mem hj)
    simp only [Option.getD_some]
    omega
  have key := asksRuns (fs := askFns ((4 * ks : Nat) : Int)) (ls := R) (roots := Y) (hs := hs) (ka := ka) (kt := kt) (ks := ks) ⟨ok'.heads, hR, by omega, by omega, by omega⟩ rfl rfl rfl rfl rfl ok' hls hrs (fun q h1 h2 => ⟨by omega, by omega⟩) (by omega)
    (f0 := 4 * ka + 4 * ls.length) (en := 4 * ka + (4 * k3 - 4 * k2)) (n := 0) ⟨by omega, by omega, by omega⟩ (s := St.start (roomGs ks k2 k3 ka kt ls.length roots.length) bs 4 (1000 + 100 * (ls.length + roots.length) + 30)) mw rfl (by rw [hYl]; rfl) rfl rfl (by rw [← hmv]; simp only [St.start]; omega)
  rw [← hmv, hYl, show 4 * ka + (4 * k3 - 4 * k2) - 4 * ka = 4 * k3 - 4 * k2 by omega] at key
  obtain ⟨s1, O, M', hrun, hmw, hout, gc⟩ := key
  refine ⟨s1, hrun, hout, fun i x hx => ?_, fun q t h4 hq ht => ?_, hmw.byt⟩
  · rw [hmw.word]
    exact gc.to i x hx
  · rw [hmw.byte q t ht, gc.rest q (by omega) (by omega), putAll_get]
    by_cases h : ks ≤ q ∧ q < ks + mv.2.length
    · rw [if_pos h, if_pos h]
      have hg : 0 ≤ mv.2.getD (q - ks) 0 := by
        rw [List.getD_eq_getElem?_getD, List.getElem?_eq_getElem (by omega)]
        exact (hmr.2 _ (List.getElem_mem (by omega))).1
      rw [Int.toNat_of_nonneg hg]
    · rw [if_neg h, if_neg h, hst q h4 hq, if_neg (by omega)]
      have : ∀ k : Nat, (0 : Int) / 256 ^ k % 256 = 0 := fun k => by rw [Int.zero_ediv]; rfl
      exact this t

end Go.Proofs.YtgohnekaolgblaaGreat

/- What the asked program says, by addresses. -/
namespace Go.Proofs.YtgohnekaolgblaaGreat

structure Pl (p1 p2 p3 p4 at_ : Int) : Prop where
  p1l : 16 ≤ p1
  m1 : p1 % 4 = 0
  m2 : p2 % 8 = 0
  m3 : p3 % 8 = 0
  one : p1 + 400 ≤ p2
  two : p2 + 2000 ≤ p3
  end_ : p3 + 2000 ≤ p4
  hi : p4 ≤ 262136
  at_ : at_ = p2 ∨ at_ = p3

theorem pl_of (st : Int) (h0 : 0 ≤ st) (h1 : st ≤ 1000) (at_ : Int) (h : at_ = Wd.one 4 st ∨ at_ = Wd.one 4 st + Wd.space 4 st) : Pl (Wd.stack st) (Wd.one 4 st) (Wd.one 4 st + Wd.space 4 st) (Wd.one 4 st + 2 * Wd.space 4 st) at_ := by
  refine ⟨?_, ?_, ?_, ?_, ?_, ?_, ?_, ?_, h⟩ <;> clear h <;> simp only [Wd.space, Wd.one, Wd.left, Wd.stack] <;> omega

/-- What the asked program leaves and says. -/
structure Says (s1 : St) (mv : List Int × List Int) (p1 p2 p3 at_ : Int) : Prop where
  byt : Mm.Byt s1.L
  words : ∀ (i : Nat) (x : Int), mv.1[i]? = some x → Mm.word s1.L (p2 + p3 - at_ + 4 * (i : Int)) = x
  low : ∀ i : Int, 16 ≤ i → i < p2 → Mm.get s1.L i = if p1 ≤ i ∧ (i - p1) / 4 < (mv.2.length : Int) then mv.2.getD ((i - p1) / 4).toNat 0 / 256 ^ ((i - p1) % 4).toNat % 256 else 0
  outl : s1.out.length = 24
  outr : ∀ x ∈ s1.out.map (fun n : Nat => (n : Int)), 0 ≤ x ∧ x < 256
  said0 : word4 (s1.out.map fun n : Nat => (n : Int)) 0 = 0
  said1 : word4 (s1.out.map fun n : Nat => (n : Int)) 4 = p1 + 4 * (mv.2.length : Int)
  said2 : word4 (s1.out.map fun n : Nat => (n : Int)) 8 = p2 + p3 - at_ + 4 * (mv.1.length : Int)
  said3 : word4 (s1.out.map fun n : Nat => (n : Int)) 12 = p2 + p3 - at_
  said4 : word4 (s1.out.map fun n : Nat => (n : Int)) 16 = p2 + p3 - at_ + p3 - p2
  said5 : word4 (s1.out.map fun n : Nat => (n : Int)) 20 = at_

theorem word4_bytesOf (v : Nat) (hv : v < 4294967296) (A B : List Nat) (p : Nat) (hp : p = A.length) : word4 ((A ++ bytesOf v ++ B).map fun n : Nat => (n : Int)) p = (v : Int) := by
  subst hp
  have h : ∀ j (x : Nat), j < 4 → (bytesOf v)[j]? = some x → ((A ++ bytesOf v ++ B).map fun n : Nat => (n : Int)).getD (A.length + j) 0 = (x : Int) := by
    intro j x hj hx
    rw [List.getD_eq_getElem?_getD, List.getElem?_map, List.append_assoc, List.getElem?_append_right (by omega), show A.length + j - A.length = j by omega, List.getElem?_append_left (by simpa [bytesOf] using hj), hx]
    rfl
  have h0 := h 0 _ (by decide) rfl
  have h1 := h 1 _ (by decide) rfl
  have h2 := h 2 _ (by decide) rfl
  have h3 := h 3 _ (by decide) rfl
  rw [Nat.add_zero] at h0
  unfold word4
  rw [h0, h1, h2, h3]
  omega

theorem bytesOf_lt (v : Nat) : ∀ x ∈ bytesOf v, x < 256 := by
  intro x hx
  simp only [bytesOf, List.mem_cons, List.not_mem_nil, or_false] at hx
  omega

theorem askedI {ls roots R : List Int} {hs : List Nat} {p1 p2 p3 p4 at_ : Int} (ok : Hp.Ok ls 16 roots hs) (hr : ∀ x ∈ ls, 0 ≤ x ∧ x < 4294967296) (hrr : ∀ x ∈ roots, 0 ≤ x ∧ x < 4294967296) (hn : ls.length ≤ 500) (hm : roots.length ≤ 100) (l : Pl p1 p2 p3 p4 at_) (rl : Hp.Rl ls hs 16 at_ ls.length R) (mv : List Int × List Int) (hmv : mv = Hp.move R at_ (roots.map (Hp.shift 16 at_)) (p2 + p3 - at_)) :
    Hp.Ok R at_ (roots.map (Hp.shift 16 at_)) hs ∧ (∀ x ∈ R, 0 ≤ x ∧ x < 4294967296) ∧ mv.1.length ≤ ls.length ∧ mv.2.length = roots.length ∧
    ∃ (gs : List Nat) (s1 : St), gs.map (fun n : Nat => (n : Int)) = [p1 + 4 * (roots.length : Int), at_ + 4 * (ls.length : Int), at_, at_ + p3 - p2, p2 + p3 - at_] ∧ (∀ v ∈ gs, v < 4294967296) ∧
      Runs (askFns p1) 6 (.call 4 []) (St.start gs (putWs (putWs (putWs (List.replicate (at_.toNat - 16 + 4 * ls.length) 0) (at_.toNat - 16) ((List.replicate ls.length 0).map (Hp.shift 16 at_))) (p1.toNat - 16) (roots.map (Hp.shift 16 at_))) (at_.toNat - 16) R) 4 (1000 + 100 * (ls.length + roots.length) + 30)) s1 0 ∧ Says s1 mv p1 p2 p3 at_ := by
  obtain ⟨q1, q2, q3, q4, q5, q6, q7, q8, q9⟩ := l
  obtain ⟨ks, rfl⟩ : ∃ k : Nat, p1 = ((4 * k : Nat) : Int) := ⟨(p1 / 4).toNat, by omega⟩
  obtain ⟨k2, rfl⟩ : ∃ k : Nat, p2 = ((4 * k : Nat) : Int) := ⟨(p2 / 4).toNat, by omega⟩
  obtain ⟨k3, rfl⟩ : ∃ k : Nat, p3 = ((4 * k : Nat) : Int) := ⟨(p3 / 4).toNat, by omega⟩
  obtain ⟨ka, rfl⟩ : ∃ k : Nat, at_ = ((4 * k : Nat) : Int) := ⟨(at_ / 4).toNat, by omega⟩
  obtain ⟨kt, hkt⟩ : ∃ k : Nat, k = k2 + k3 - ka := ⟨_, rfl⟩
  have eto : ((4 * k2 : Nat) : Int) + ((4 * k3 : Nat) : Int) - ((4 * ka : Nat) : Int) = ((4 * kt : Nat) : Int) := by omega
  rw [eto] at hmv ⊢
  have L : Laid ks k2 k3 ka kt := ⟨by omega, by omega, by omega, by omega, by omega, by omega, by omega⟩
  obtain ⟨a1, a2, a3⟩ := asked ok hr hrr hn hm L rl (Z := (List.replicate ls.length 0).map (Hp.shift 16 ((4 * ka : Nat) : Int))) (by simp)
  obtain ⟨b1, b2, s1, c1, c2, c3, c4, c5⟩ := a3 mv hmv
  refine ⟨a1, a2, b1, b2, roomGs ks k2 k3 ka kt ls.length roots.length, s1, ?_, ?_, c1, ?_⟩
  · have e1 : ((4 * (ks + roots.length) : Nat) : Int) = ((4 * ks : Nat) : Int) + 4 * (roots.length : Int) := by omega
    have e2 : ((4 * ka + 4 * ls.length : Nat) : Int) = ((4 * ka : Nat) : Int) + 4 * (ls.length : Int) := by omega
    have e4 : ((4 * ka + (4 * k3 - 4 * k2) : Nat) : Int) = ((4 * ka : Nat) : Int) + ((4 * k3 : Nat) : Int) - ((4 * k2 : Nat) : Int) := by omega
    simp only [roomGs, List.map]
    rw [e1, e2, e4]
  · intro v hv
    simp only [roomGs, List.mem_cons, List.not_mem_nil, or_false] at hv
    omega
  have z1 : 4 * (ks + roots.length) < 4294967296 := by omega
  have z2 : 4 * (kt + mv.1.length) < 4294967296 := by omega
  have z3 : 4 * kt < 4294967296 := by omega
  have z4 : 4 * kt + (4 * k3 - 4 * k2) < 4294967296 := by omega
  have z5 : 4 * ka < 4294967296 := by omega
  refine ⟨c5, ?_, ?_, ?_, ?_, ?_, ?_, ?_, ?_, ?_, ?_⟩
  · intro i x hx
    rw [eto, ← c3 i x hx]
    congr 1
    omega
  · intro i h0 h1
    have := c4 (i / 4).toNat (i % 4).toNat (by omega) (by omega) (by omega)
    rw [show 4 * ((i / 4).toNat : Int) + ((i % 4).toNat : Int) = i by omega] at this
    rw [this]
    by_cases h : ks ≤ (i / 4).toNat ∧ (i / 4).toNat < ks + mv.2.length
    · rw [if_pos h, if_pos (by omega), show (i / 4).toNat - ks = ((i - ((4 * ks : Nat) : Int)) / 4).toNat by omega, show (i % 4).toNat = ((i - ((4 * ks : Nat) : Int)) % 4).toNat by omega]
    · rw [if_neg h, if_neg (by omega)]
  · rw [c2]
    simp [bytesOf]
  · intro x hx
    rw [List.mem_map] at hx
    obtain ⟨n, hn', rfl⟩ := hx
    have : n < 256 := by
      rw [c2] at hn'
      simp only [List.mem_append] at hn'
      rcases hn' with ((((h | h) | h) | h) | h) | h <;> exact bytesOf_lt _ _ h
    omega
  · rw [c2]
    have := word4_bytesOf 0 (by decide) [] (bytesOf (4 * (ks + roots.length)) ++ bytesOf (4 * (kt + mv.1.length)) ++ bytesOf (4 * kt) ++ bytesOf (4 * kt + (4 * k3 - 4 * k2)) ++ bytesOf (4 * ka)) 0 rfl
    simp only [List.nil_append, List.append_assoc] at this ⊢
    exact this
  · rw [c2]
    have := word4_bytesOf _ z1 (bytesOf 0) (bytesOf (4 * (kt + mv.1.length)) ++ bytesOf (4 * kt) ++ bytesOf (4 * kt + (4 * k3 - 4 * k2)) ++ bytesOf (4 * ka)) 4 rfl
    simp only [List.append_assoc] at this ⊢
    rw [this]
    omega
  · rw [c2]
    have := word4_bytesOf _ z2 (bytesOf 0 ++ bytesOf (4 * (ks + roots.length))) (bytesOf (4 * kt) ++ bytesOf (4 * kt + (4 * k3 - 4 * k2)) ++ bytesOf (4 * ka)) 8 rfl
    simp only [List.append_assoc] at this ⊢
    rw [this]
    omega
  · rw [c2]
    have := word4_bytesOf _ z3 (bytesOf 0 ++ bytesOf (4 * (ks + roots.length)) ++ bytesOf (4 * (kt + mv.1.length))) (bytesOf (4 * kt + (4 * k3 - 4 * k2)) ++ bytesOf (4 * ka)) 12 rfl
    simp only [List.append_assoc] at this ⊢
    rw [this]
    omega
  · rw [c2]
    have := word4_bytesOf _ z4 (bytesOf 0 ++ bytesOf (4 * (ks + roots.length)) ++ bytesOf (4 * (kt + mv.1.length)) ++ bytesOf (4 * kt)) (bytesOf (4 * ka)) 16 rfl
    simp only [List.append_assoc] at this ⊢
    rw [this]
    omega
  · rw [c2]
    have := word4_bytesOf _ z5 (bytesOf 0 ++ bytesOf (4 * (ks + roots.length)) ++ bytesOf (4 * (kt + mv.1.length)) ++ bytesOf (4 * kt) ++ bytesOf (4 * kt + (4 * k3 - 4 * k2))) [] 20 rfl
    simp only [List.append_assoc, List.append_nil] at this ⊢
    rw [this]

end Go.Proofs.YtgohnekaolgblaaGreat

/- The bytes that the machine's end shows, as a row. -/
namespace Go.Proofs.YtgohnekaolgblaaGreat
open Go.RowKit

def bytesAt (L : List (Int × Int)) (n : Nat) : List Int := (List.range n).map fun k : Nat => Mm.get L (16 + (k : Int))
theorem bytesAt_length (L : List (Int × Int)) (n : Nat) : (bytesAt L n).length = n := by simp [bytesAt]
theorem bytesAt_get {L : List (Int × Int)} {n i : Nat} (h : i < n) : (bytesAt L n)[i]? = some (Mm.get L (16 + (i : Int))) := by simp [bytesAt, h]
theorem bytesAt_getD {L : List (Int × Int)} {n i : Nat} (h : i < n) : (bytesAt L n).getD i 0 = Mm.get L (16 + (i : Int)) := by
  rw [List.getD_eq_getElem?_getD, bytesAt_get h]; rfl
theorem bytesAt_range {L : List (Int × Int)} (h : Mm.Byt L) (n : Nat) : ∀ x ∈ bytesAt L n, 0 ≤ x ∧ x < 256 := by
  intro x hx
  simp only [bytesAt, List.mem_map] at hx
  obtain ⟨k, -, rfl⟩ := hx
  exact h.get _
theorem bytesAt_word {L : List (Int × Int)} {n p : Nat} (h : p + 4 ≤ n) : word4 (bytesAt L n) p = Mm.word L (16 + (p : Int)) := by
  unfold word4 Mm.word
  rw [bytesAt_getD (by omega), bytesAt_getD (by omega), bytesAt_getD (by omega), bytesAt_getD (by omega), show (16 : Int) + ((p + 1 : Nat) : Int) = 16 + (p : Int) + 1 by omega, show (16 : Int) + ((p + 2 : Nat) : Int) = 16 + (p : Int) + 2 by omega, show (16 : Int) + ((p + 3 : Nat) : Int) = 16 + (p : Int) + 3 by omega]
  omega
theorem Owns.ofBytes {E : TypeId} {w : World} {g n B : Nat} {L : List (Int × Int)} (h : w.rowIs g E n (fun k => Value.int .u8 (Mm.get L (16 + (k : Int))))) (hB : B ≤ g) (hm : n ≤ maxLen) : Owns E .u8 B w (.slice (some ⟨g, 0, none⟩) n n) (bytesAt L n) := by
  have hr := row_toList h
  have hl : (List.range n).map (fun k : Nat => Value.int .u8 (Mm.get L (16 + (k : Int)))) = (bytesAt L n).map (Value.int .u8) := by
    simp [bytesAt]
  rw [hl] at hr
  refine ⟨by simp [bytesAt_length], .inr ⟨g, n, _, by simp [bytesAt_length], hB, hr, by simp [bytesAt_length], hm, by simp [bytesAt_length], ?_⟩⟩
  simp only [Nat.mul_one]
  exact List.take_of_length_le (by simp [bytesAt_length])

end Go.Proofs.YtgohnekaolgblaaGreat
