/- What is moved once more is what was moved: plain. -/
import Derived.Test.YtgohnekaolgblaaHpLaw4
namespace Go.Proofs.Ytgohnekaolgblaa

theorem nodup_map_on {α β : Type} (f : α → β) : ∀ l : List α, l.Nodup → (∀ i ∈ l, ∀ j ∈ l, f i = f j → i = j) → (l.map f).Nodup := by
  intro l
  induction l with
  | nil => intro _ _; exact List.nodup_nil
  | cons x l ih =>
    intro hn hi
    rw [List.nodup_cons] at hn
    rw [List.map_cons, List.nodup_cons]
    refine ⟨fun h => ?_, ih hn.2 (fun i h1 j h2 => hi i (by simp [h1]) j (by simp [h2]))⟩
    obtain ⟨y, hy, e⟩ := List.mem_map.1 h
    have := hi y (by simp [hy]) x (by simp) e
    subst this
    exact hn.1 hy
theorem Hp.move_len {ls : List Int} {hs : List Nat} {a : Int} {rs : List Int} (ok : Hp.Ok ls a rs hs) (to : Int) : (Hp.move ls a rs to).1.length = Hp.sum ls (Hp.ordAll ls a rs) ∧ (Hp.move ls a rs to).1.length ≤ ls.length ∧ (Hp.move ls a rs to).2.length = rs.length := by
  obtain ⟨h1, h2, h3⟩ := Hp.move_desc ok to
  refine ⟨h1.len, (h2.bound ok.heads).1, by rw [h3]; simp⟩
theorem Hp.mvd {ls : List Int} {hs : List Nat} {a : Int} {rs : List Int} (ok : Hp.Ok ls a rs hs) {to : Int} (ht : Hp.place to) (hlow : ∀ i ∈ hs, Hp.noLow a to (Hp.fields ls i)) : Hp.Mvd ls a hs to (Hp.ordAll ls a rs) (Hp.move ls a rs to).1 := by
  obtain ⟨h1, h2, h3⟩ := Hp.move_desc ok to
  have hb := h2.bound ok.heads
  refine ⟨ok.heads, h2.nodup, h2.sub, h1, ok.fields, fun i hi w hw ha => ?_, fun i hi => hlow i (h2.sub i hi), ht⟩
  obtain ⟨q, hq, rfl⟩ := List.getElem_of_mem hi
  have hb' : (Hp.ordAll ls a rs).length ≤ 0 + (ls.length + 1) := by omega
  exact Hp.ord_closed (ls.length + 1) 0 (Hp.visAll a rs []) rfl hb' q hq (Nat.zero_le _) w hw ha
theorem Hp.roots_mem {ls : List Int} {a : Int} {rs : List Int} {w : Int} (h : w ∈ rs) (ha : Hp.adr a w) : Hp.idx a w ∈ Hp.ordAll ls a rs := (Hp.ord_pre _ _ _ _ _).mem (Hp.visAll_mem rs [] w h ha)

section
variable {ls : List Int} {a : Int} {hs : List Nat} {to : Int} {O : List Nat} {m : List Int} (M : Hp.Mvd ls a hs to O m)
include M
theorem Hp.Mvd.place' : m.length ≤ ls.length := by
  have h := Hp.sum_le ls ls.length 0 hs (by omega) M.heads O M.nodup M.sub
  rw [M.desc.len]
  omega
def Hp.newHeads (ls : List Int) (O : List Nat) : List Nat := (List.range' 0 O.length).map (Hp.q ls O)
theorem Hp.Mvd.heads' : Hp.heads m = some (Hp.newHeads ls O) := by
  have h := M.from O.length 0 (by omega) (Nat.zero_le _)
  have e : Hp.q ls O 0 = 0 := rfl
  rw [e] at h
  exact h
theorem Hp.Mvd.okw' {w : Int} (hok : Hp.okw (Hp.mem hs) a w = true) (hlow : w % 2 = 0 → w < a → w < to) (hm : Hp.adr a w → Hp.idx a w ∈ O) : Hp.okw (Hp.mem (Hp.newHeads ls O)) to (Hp.rel ls a to O w) = true := by
  unfold Hp.okw
  by_cases h : Hp.adr a w
  · obtain ⟨_, e2, e3⟩ := M.word_new h (hm h)
    rw [e2.1, e2.2, e3]
    obtain ⟨q, hq, hqe⟩ := List.getElem_of_mem (hm h)
    rw [← hqe, Hp.P_q M.nodup q hq]
    simp [Hp.mem, Hp.newHeads]
    exact ⟨q, hq, rfl⟩
  · obtain ⟨e1, e2, _⟩ := Hp.word_old hok h hlow
    rw [e1, e2]
    rfl
theorem Hp.Mvd.okws' {ws : List Int} (hok : Hp.okws (Hp.mem hs) a ws = true) (hlow : Hp.noLow a to ws) (hm : ∀ w ∈ ws, Hp.adr a w → Hp.idx a w ∈ O) : Hp.okws (Hp.mem (Hp.newHeads ls O)) to (ws.map (Hp.rel ls a to O)) = true := by
  unfold Hp.okws at hok ⊢
  rw [List.all_eq_true] at hok ⊢
  intro x hx
  obtain ⟨w, hw, rfl⟩ := List.mem_map.1 hx
  exact M.okw' (hok w hw) (hlow w hw) (hm w hw)
theorem Hp.Mvd.ok' {rs : List Int} (hll : ls.length ≤ 65536) (hrl : rs.length ≤ 4096) (hro : Hp.okws (Hp.mem hs) a rs = true) (hlow : Hp.noLow a to rs) (hm : ∀ w ∈ rs, Hp.adr a w → Hp.idx a w ∈ O) : Hp.Ok m to (rs.map (Hp.rel ls a to O)) (Hp.newHeads ls O) := by
  refine ⟨by have := M.place'; omega, by rw [List.length_map]; exact hrl, M.heads', M.place, M.okws' hro hlow hm, fun i hi => ?_⟩
  unfold Hp.newHeads at hi
  obtain ⟨q, hq, rfl⟩ := List.mem_map.1 hi
  have hq' : q < O.length := by rw [List.mem_range'_1] at hq; omega
  have him : O[q] ∈ O := List.getElem_mem hq'
  rw [M.fields hq']
  exact M.okws' (M.fok _ (M.sub _ him)) (M.low _ him) (M.closed _ him)

theorem Hp.Mvd.map_get {q : Nat} (hq : q < O.length) : (O.map (Hp.P ls O))[q]'(by rw [List.length_map]; exact hq) = Hp.q ls O q := by
  rw [List.getElem_map, Hp.P_q M.nodup]
theorem Hp.Mvd.q' : ∀ k, k ≤ O.length → Hp.q m (O.map (Hp.P ls O)) k = Hp.q ls O k := by
  intro k
  induction k with
  | zero => intro _; rfl
  | succ k ih =>
    intro hk
    have hq : k < O.length := by omega
    rw [Hp.q_succ m _ k (by rw [List.length_map]; exact hq), Hp.q_succ ls O k hq, ih (by omega), M.map_get hq, M.wn hq]
theorem Hp.Mvd.nodup' : (O.map (Hp.P ls O)).Nodup := by
  exact nodup_map_on _ O M.nodup (fun i hi j hj h => M.inj hi hj h)
/-- The word of a word. -/
theorem Hp.Mvd.rel' {w : Int} (hok : Hp.okw (Hp.mem hs) a w = true) (hlow : w % 2 = 0 → w < a → w < to) (hm : Hp.adr a w → Hp.idx a w ∈ O) (t2 : Int) : Hp.rel m to t2 (O.map (Hp.P ls O)) (Hp.rel ls a to O w) = Hp.rel ls a t2 O w := by
  by_cases h : Hp.adr a w
  · obtain ⟨e1, e2, e3⟩ := M.word_new h (hm h)
    obtain ⟨q, hq, hqe⟩ := List.getElem_of_mem (hm h)
    have hp : Hp.P ls O (Hp.idx a w) = Hp.q ls O q := by rw [← hqe, Hp.P_q M.nodup]
    have hpos : Hp.pos m (O.map (Hp.P ls O)) 0 (Hp.idx to (Hp.rel ls a to O w)) = some (Hp.q ls O q) := by
      rw [e3, hp, ← M.map_get hq, Hp.pos_q m _ 0 q (by rw [List.length_map]; exact hq) M.nodup', M.q' q (by omega), M.map_get hq, Nat.zero_add]
    rw [Hp.rel_adr e2 hpos, Hp.rel_adr h (Hp.P_pos (hm h)), hp]
  · obtain ⟨e1, _, e3⟩ := Hp.word_old hok h hlow
    rw [e1, Hp.rel_non e3, Hp.rel_non h]
theorem Hp.Mvd.again {m2 m3 : List Int} {t2 : Int} (h2 : Hp.Desc m to t2 (O.map (Hp.P ls O)) m2) (h3 : Hp.Desc ls a t2 O m3) : m2 = m3 := by
  have hsum : Hp.sum m (O.map (Hp.P ls O)) = Hp.sum ls O := by
    rw [← Hp.q_all, ← Hp.q_all, List.length_map]
    exact M.q' _ (Nat.le_refl _)
  apply List.ext_getElem?
  intro p
  by_cases hp : p < Hp.sum ls O
  · obtain ⟨q, j, hq, hj, rfl⟩ := Hp.q_cover ls O p hp
    have v3 := h3.val q hq j hj
    have v2 := h2.val q (by rw [List.length_map]; exact hq) j (by rw [M.map_get hq, M.wn hq]; exact hj)
    rw [M.q' q (by omega), M.map_get hq, M.desc.val q hq j hj] at v2
    rw [v2, v3]
    have hfe : Hp.isField m (Hp.q ls O q) j ↔ Hp.isField ls O[q] j := by
      unfold Hp.isField
      rw [M.fields hq, List.length_map]
    cases hx : ls[O[q] + j]? with
    | none => rfl
    | some x =>
      simp only [Option.map_some]
      by_cases hf : Hp.isField ls O[q] j
      · have him : O[q] ∈ O := List.getElem_mem hq
        have hxm : x ∈ Hp.fields ls O[q] := by
          have h1 := hf.1
          have hl : j - 1 < (Hp.fields ls O[q]).length := by have := hf.2; omega
          have hg := Hp.fields_get hl
          rw [show O[q] + 1 + (j - 1) = O[q] + j by omega, hx] at hg
          rw [Option.some.inj hg]
          exact List.getElem_mem hl
        have hok : Hp.okw (Hp.mem hs) a x = true := by
          have := M.fok _ (M.sub _ him)
          unfold Hp.okws at this
          exact List.all_eq_true.1 this x hxm
        rw [if_pos hf, if_pos (hfe.2 hf), if_pos hf, M.rel' hok (M.low _ him x hxm) (M.closed _ him x hxm)]
      · rw [if_neg hf, if_neg (fun h => hf (hfe.1 h)), if_neg hf]
  · rw [List.getElem?_eq_none (by rw [h2.len, hsum]; omega), List.getElem?_eq_none (by rw [h3.len]; omega)]
/-- The order of what was moved. -/
theorem Hp.Mvd.ordAll {rs : List Int} (hO : O = Hp.ordAll ls a rs) (hro : Hp.okws (Hp.mem hs) a rs = true) (hlr : Hp.noLow a to rs) (hmem : ∀ w ∈ rs, Hp.adr a w → Hp.idx a w ∈ O) : Hp.ordAll m to (rs.map (Hp.rel ls a to O)) = O.map (Hp.P ls O) := by
  have h0 := M.visAll rs [] (fun i h => by cases h) hro hlr hmem
  rw [List.map_nil] at h0
  have h1 := M.ord (ls.length + 1) 0 (Hp.visAll a rs []) h0.2 (by rw [hO]; rfl)
  unfold Hp.ordAll
  rw [h0.1]
  have hb : O.length ≤ m.length := by
    have h2 := Hp.len_le_sum ls O (fun i hi => Hp.wnAt_pos (M.head hi))
    rw [M.desc.len]; exact h2
  have hb2 := M.place'
  exact Hp.ord_stable (ls.length + 1) 0 _ h1 (by rw [List.length_map]; omega) (m.length + 1) (by rw [List.length_map]; omega)
end

/-- What was moved may be a heap; moved, it is what its origin is, moved. -/
theorem Hp.move_again {ls : List Int} {hs : List Nat} {a : Int} {rs : List Int} (ok : Hp.Ok ls a rs hs) {to : Int} (ht : Hp.place to) (hlow : ∀ i ∈ hs, Hp.noLow a to (Hp.fields ls i)) (hlr : Hp.noLow a to rs) :
    (∃ hs', Hp.Ok (Hp.move ls a rs to).1 to (Hp.move ls a rs to).2 hs') ∧ ∀ t2, Hp.move (Hp.move ls a rs to).1 to (Hp.move ls a rs to).2 t2 = Hp.move ls a rs t2 := by
  have M := Hp.mvd ok ht hlow
  have hd := Hp.move_desc ok to
  have hmem : ∀ w ∈ rs, Hp.adr a w → Hp.idx a w ∈ Hp.ordAll ls a rs := fun w hw ha => Hp.roots_mem hw ha
  have ok' := M.ok' ok.ll ok.rl ok.roots hlr hmem
  rw [hd.2.2]
  refine ⟨⟨_, ok'⟩, fun t2 => ?_⟩
  obtain ⟨m, hm⟩ : ∃ m, m = (Hp.move ls a rs to).1 := ⟨_, rfl⟩
  rw [← hm] at M ok' ⊢
  obtain ⟨O, hO⟩ : ∃ O, O = Hp.ordAll ls a rs := ⟨_, rfl⟩
  rw [← hO] at M ok' hmem ⊢
  have hord : Hp.ordAll m to (rs.map (Hp.rel ls a to O)) = O.map (Hp.P ls O) := M.ordAll hO ok.roots hlr hmem
  have d2 := Hp.move_desc ok' t2
  have d3 := Hp.move_desc ok t2
  rw [hord] at d2
  rw [← hO] at d3
  apply Prod.ext
  · exact M.again d2.1 d3.1
  · rw [d2.2.2, d3.2.2, List.map_map]
    apply List.map_congr_left
    intro w hw
    have hok : Hp.okw (Hp.mem hs) a w = true := by
      have := ok.roots
      unfold Hp.okws at this
      exact List.all_eq_true.1 this w hw
    exact M.rel' hok (hlr w hw) (hmem w hw) t2

end Go.Proofs.Ytgohnekaolgblaa
