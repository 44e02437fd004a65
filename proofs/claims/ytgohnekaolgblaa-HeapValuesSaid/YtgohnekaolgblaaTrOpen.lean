/- A value that came in is a tree. -/
import Derived.Test.YtgohnekaolgblaaTrNum
import Derived.Test.YtgohnekaolgblaaSees
import Derived.WalkKit
import Derived.ProofKit
import Derived.OpenShut
import Derived.ChangeOld
namespace Go.Proofs.Ytgohnekaolgblaa
open Go.ChangeShapes Go.WideShapes Go.ChangeAt Go.RowKit

theorem list4 {α : Type} (l : List α) (h : l.length = 4) : ∃ a b c d, l = [a, b, c, d] := by
  match l, h with
  | [a, b, c, d], _ => exact ⟨a, b, c, d, rfl⟩

theorem cells4 {W : World} {a : Addr} {cs : List Value} (h : W.cells? 0 a 4 = some cs) : ∃ v0 v1 v2 v3, cs = [v0, v1, v2, v3] ∧ W.cell? (a.add 0) = some v0 ∧ W.cell? (a.add 1) = some v1 ∧ W.cell? (a.add 2) = some v2 ∧ W.cell? (a.add 3) = some v3 := by
  unfold World.cells? at h
  rw [if_pos (Nat.zero_le _)] at h
  simp only [List.range, List.range.loop, List.mapM_cons, List.mapM_nil, Option.bind_eq_bind, Option.pure_def, Option.bind_eq_some_iff, Option.some.injEq] at h
  obtain ⟨v0, h0, r0, ⟨v1, h1, r1, ⟨v2, h2, r2, ⟨v3, h3, r3, rfl, rfl⟩, rfl⟩, rfl⟩, rfl⟩ := h
  exact ⟨v0, v1, v2, v3, rfl, h0, h1, h2, h3⟩

theorem trod_value {H : Type} {enc : TypeId × Value → H} {W : World} {sp : Nat → Bool} {held : Bool} : ∀ (fuel : Nat) (cs : List Value) (x : DataW H × List MemPlace), DataW.trod enc Try.prog W 0 sp held fuel 58 cs = some x → ∃ t : Tr, Tr.at (fun b _ => b < W.heap.size) W t (.agg cs.toArray) := by
  intro fuel
  induction fuel using Nat.strongRecOn
  rename_i fuel ih
  intro cs x h
  obtain ⟨xs, n, rfl, rfl, hcl, hxl, hf⟩ := DataW.trod_struct Try.underlying58 h
  rw [show Try.prog.cellsOf 58 = 4 by kernel_rfl] at hcl
  obtain ⟨c0, c1, c2, c3, rfl⟩ : ∃ c0 c1 c2 c3, cs = [c0, c1, c2, c3] := list4 cs hcl
  obtain ⟨x0, x1, x2, x3, rfl⟩ : ∃ x0 x1 x2 x3, xs = [x0, x1, x2, x3] := list4 xs hxl
  have cI : Try.prog.cellsOf 3 = 1 := by kernel_rfl
  have cS : Try.prog.cellsOf 9 = 1 := by kernel_rfl
  have cL : Try.prog.cellsOf 56 = 1 := by kernel_rfl
  have e0 : DataW.trod enc Try.prog W 0 sp held n 3 [c0] = some x0 := by have := hf 0 _ rfl; simpa [cI] using this
  have e1 : DataW.trod enc Try.prog W 0 sp held n 3 [c1] = some x1 := by have := hf 1 _ rfl; simpa [cI] using this
  have e2 : DataW.trod enc Try.prog W 0 sp held n 9 [c2] = some x2 := by have := hf 2 _ rfl; simpa [cS] using this
  have e3 : DataW.trod enc Try.prog W 0 sp held n 56 [c3] = some x3 := by have := hf 3 _ rfl; simpa [cL] using this
  clear hf h
  obtain ⟨k, hk, _, _⟩ := DataW.trod_int Try.underlying3 e0
  obtain ⟨m, hm, _, _⟩ := DataW.trod_int Try.underlying3 e1
  obtain ⟨s, hs, _, _⟩ := DataW.trod_string Try.underlying9 e2
  simp only [List.cons.injEq, and_true] at hk hm hs
  subst hk hm hs
  rcases DataW.trod_slice Try.underlying56 e3 with ⟨h, _⟩ | ⟨a, len, cap, elems, rest, n', hn', h, _, _, hlc, hcm, hel, hget, _, _⟩
  · simp only [List.cons.injEq, and_true] at h
    subst h
    refine ⟨.mk k m s [], ?_⟩
    rw [Tr.at_mk]
    exact ⟨none, 0, rfl, by simp, by unfold maxLen; omega, fun h => absurd rfl h⟩
  · simp only [List.cons.injEq, and_true] at h
    subst h hn'
    rw [show Try.prog.cellsOf 58 = 4 by kernel_rfl] at hget
    have hall : ∀ i, i < len → ∃ (t : Tr) (v0 v1 v2 v3 : Value), W.cells? 0 (a.add (i * 4)) 4 = some [v0, v1, v2, v3] ∧ Tr.at (fun b _ => b < W.heap.size) W t (.agg #[v0, v1, v2, v3]) := by
      intro i hi
      have hg := hget i hi
      rw [List.getElem?_eq_getElem (by omega)] at hg
      obtain ⟨cs', h1, h2⟩ := Option.bind_eq_some_iff.1 hg
      obtain ⟨v0, v1, v2, v3, rfl, _⟩ := cells4 h1
      obtain ⟨t, ht⟩ := ih n' (by omega) _ _ h2
      exact ⟨t, v0, v1, v2, v3, h1, ht⟩
    obtain ⟨l, hll, hl⟩ : ∃ l : List Tr, l.length = len ∧ ∀ i (hi : i < l.length), ∃ (v0 v1 v2 v3 : Value), W.cells? 0 (a.add (i * 4)) 4 = some [v0, v1, v2, v3] ∧ Tr.at (fun b _ => b < W.heap.size) W l[i] (.agg #[v0, v1, v2, v3]) := by
      clear hget hel
      refine ⟨(List.range len).attach.map fun i => (hall i.1 (List.mem_range.1 i.2)).choose, by simp, fun i hi => ?_⟩
      simp only [List.length_map, List.length_attach, List.length_range] at hi
      have := (hall i hi).choose_spec
      simpa using this
    refine ⟨.mk k m s l, ?_⟩
    rw [Tr.at_mk]
    subst hll
    refine ⟨some a, cap, rfl, hlc, hcm, fun hne => ?_⟩
    have hpos : 0 < l.length := List.length_pos_iff.2 hne
    obtain ⟨v0, v1, v2, v3, h1, _⟩ := hl 0 hpos
    obtain ⟨_, _, _, _, _, g0, _⟩ := cells4 h1
    obtain ⟨b, off, spot⟩ := a
    have hsp : spot = none := by simpa [Addr.add] using World.cell?_spot g0
    subst hsp
    have hb : b < W.heap.size := by
      rw [addr_add, addr_add] at g0
      simpa using World.block_lt_of_cell? W _ g0
    refine ⟨b, off, rfl, hb, Tr.ats_of fun i hi => ?_⟩
    obtain ⟨v0, v1, v2, v3, h1, h2⟩ := hl i hi
    obtain ⟨u0, u1, u2, u3, hu, g0, g1, g2, g3⟩ := cells4 h1
    simp only [List.cons.injEq, and_true] at hu
    obtain ⟨rfl, rfl, rfl, rfl⟩ := hu
    simp only [addr_add] at g0 g1 g2 g3
    exact ⟨_, _, _, _, g0, g1, g2, g3, h2⟩

theorem open_value {H : Type} {enc : TypeId × Value → H} {W : World} {sp : Nat → Bool} {held : Bool} {v : Value} {d : DataW H} {ps : List MemPlace} (hv : ∃ cs, v = .agg cs) (h : DataW.Trod enc Try.prog W 0 sp held 58 v d ps) : ∃ t : Tr, Tr.at (fun b _ => b < W.heap.size) W t v := by
  obtain ⟨cs, rfl⟩ := hv
  obtain ⟨fuel, hf⟩ := h
  obtain ⟨t, ht⟩ := trod_value fuel _ _ hf
  exact ⟨t, by simpa [Value.cells] using ht⟩

end Go.Proofs.Ytgohnekaolgblaa
