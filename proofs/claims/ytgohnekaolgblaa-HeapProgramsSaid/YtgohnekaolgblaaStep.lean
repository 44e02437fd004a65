/- append(out, xs...) as one step of a region that draws its order. -/
import Derived.Test.YtgohnekaolgblaaApp
import Derived.Deep.RegionHeld3
namespace Go.Proofs.Ytgohnekaolgblaa
open Go.RowKit

theorem step_app {P : Program} {T E : TypeId} {k : IntKind} {bytes : Nat} {i : TypeInfo} (hT : P.underlying T = some (.slice E)) (hi : P.info? E = some i) (hz : i.zero = some (.int k 0)) (hsz : i.size = 1) (hby : i.bytes = bytes)
    {ops : Array Oper} {o : Oper} {a : Act} {K : Act → World → Prop} {Q : Exit → Act → World → Prop} {R : Prop} (hgd : o.guard = none) (s x : Operand)
    (ho : o.op = .call { callee := .builtin .append, args := #[s, x], argTypes := #[T, T] })
    {B : Nat} {w0 w : World} {v u : Value} {xs ys : List Int} (hs : a.eval s = v) (hx : a.eval x = u) (hu : Sees k w u ys)
    (hown : Owns E k B w v xs) (hbel : Below B w0 w) (hB : B ≤ w.heap.size) (hlen : (xs.length + ys.length) * bytes ≤ 140737488355328) (hml : xs.length + ys.length ≤ maxLen)
    (h : ∀ v' w', Owns E k B w' v' (xs ++ ys) → Below B w0 w' → B ≤ w'.heap.size → w.grownBy w' v.ownBlock → K (a.put o.dst v') w') :
    if Region.wanted o (yielded ops a.tmps) = true then Oper.wp P o a w K Q else R := by
  have hw : Region.wanted o (yielded ops a.tmps) = true := by simp [Region.wanted, hgd]
  rw [if_pos hw]
  obtain ⟨A, cap, rfl, _, _, hc⟩ := hu
  rcases A with _ | ad
  · have hy : ys = [] := by
      by_cases hne : ys = []
      · exact hne
      · obtain ⟨b, off, he, _⟩ := hc hne; cases he
    subst hy
    simp only [List.length_nil] at hx
    have hrun := run_app_nil (P := P) (w := w) (ty := o.type) hT hi hown cap
    unfold Oper.wp execOp
    simp only [ho, resolve, invoke, builtin, Sem.run_bind, Sem.run_pure, Result.andThen_ok, List.map_toArray, List.map_cons, List.map_nil, hs, hx, hrun]
    exact h _ _ (by simpa using hown) hbel hB (World.grownBy.refl w _)
  · refine wp_append_own w s x T ho B E i (.int k 0) 1 bytes hT hi hz hsz hby rfl (by decide) v xs.length (xs.map (Value.int k)) hs hown ad ys.length cap (ys.map (Value.int k)) hx (by simp) ?_ ?_ hml hlen hB ?_
    · intro j z hj
      have hlt : j < ys.length := by
        have := (List.getElem?_eq_some_iff.1 hj).1; simpa using this
      obtain ⟨b, off, he, hcell⟩ := hc (by intro e; subst e; simp at hlt)
      simp only [Option.some.injEq] at he
      subst he
      rw [addr_add, hcell j hlt]
      simp only [List.getElem?_map, List.getElem?_eq_getElem hlt, Option.map_some, Option.some.injEq] at hj
      rw [hj]
    · intro z hz
      obtain ⟨n, _, rfl⟩ := List.mem_map.1 hz
      rfl
    · intro v' w' ho' hg _
      refine h v' w' ?_ (hbel.grown hg hB (fun j hj => (hown.lt j hj).1)) (by have := hg.size; omega) hg
      unfold Owns; simpa using ho'

/-- What is seen, that lies not in the block that has grown, is seen behind the growth. -/
theorem Sees.grown {k : IntKind} {w w' : World} {v : Value} {xs : List Int} {r : Option Nat} (h : Sees k w v xs) (hg : w.grownBy w' r) (hr : ∀ g, r = some g → ∀ b off, (∃ n c, v = .slice (some ⟨b, off, none⟩) n c) → b ≠ g) : Sees k w' v xs := by
  obtain ⟨A, cap, rfl, hc, hm, h⟩ := h
  refine ⟨A, cap, rfl, hc, hm, fun hne => ?_⟩
  obtain ⟨b, off, rfl, hcell⟩ := h hne
  refine ⟨b, off, rfl, fun j hj => ?_⟩
  have h1 := hcell j hj
  have hlt := World.block_lt_of_cell? w _ h1
  have hb := hg.block b (by simpa using hlt) (fun e => hr b e.symm b off ⟨_, _, rfl⟩ rfl)
  rw [World.cell?_of_block (w := w) (by simpa using hb)]
  exact h1

end Go.Proofs.Ytgohnekaolgblaa
