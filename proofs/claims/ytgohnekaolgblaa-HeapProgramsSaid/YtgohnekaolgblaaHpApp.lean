/- append, with where the new slice lies. -/
import Derived.Test.YtgohnekaolgblaaStep
import Derived.Test.YtgohnekaolgblaaBase
import Derived.Maps.AppendAt
namespace Go.Proofs.Ytgohnekaolgblaa
open Go.RowKit

theorem run_app_at {P : Program} {T ty E : TypeId} {k : IntKind} {bytes : Nat} {i : TypeInfo} (hT : P.underlying T = some (.slice E)) (hi : P.info? E = some i) (hz : i.zero = some (.int k 0)) (hsz : i.size = 1) (hby : i.bytes = bytes)
    {B : Nat} {w : World} {v u : Value} {xs ys : List Int} (hu : Sees k w u ys) (hown : Owns E k B w v xs) (hB : B ≤ w.heap.size) (hlen : (xs.length + ys.length) * bytes ≤ 140737488355328) (hml : xs.length + ys.length ≤ maxLen) :
    ∃ v' w', (Builtin.append_ #[T, T] ty #[v, u]).run P w = .ok v' w' ∧ Owns E k B w' v' (xs ++ ys) ∧ w.grownBy w' v.ownBlock ∧ (v'.ownBlock = v.ownBlock ∨ v'.ownBlock = some w.heap.size) := by
  obtain ⟨A, cap, rfl, _, _, hc⟩ := hu
  rcases A with _ | ad
  · have hy : ys = [] := by
      by_cases hne : ys = []
      · exact hne
      · obtain ⟨b, off, he, _⟩ := hc hne; cases he
    subst hy
    have hrun := run_app_nil (P := P) (w := w) (ty := ty) hT hi hown cap
    exact ⟨v, w, hrun, by simpa using hown, World.grownBy.refl w _, .inl rfl⟩
  · obtain ⟨v', w', h1, h2, h3, _, h5⟩ := run_append_own_at (P := P) w B T ty E i (.int k 0) 1 bytes hT hi hz hsz hby rfl (by decide) v xs.length (xs.map (Value.int k)) hown ad ys.length cap (ys.map (Value.int k)) (by simp) (by
      intro j z hj
      have hlt : j < ys.length := by
        have := (List.getElem?_eq_some_iff.1 hj).1; simpa using this
      obtain ⟨b, off, he, hcell⟩ := hc (by intro e; subst e; simp at hlt)
      simp only [Option.some.injEq] at he
      subst he
      rw [addr_add, hcell j hlt]
      simp only [List.getElem?_map, List.getElem?_eq_getElem hlt, Option.map_some, Option.some.injEq] at hj
      rw [hj]) (by
      intro z hz
      obtain ⟨n, _, rfl⟩ := List.mem_map.1 hz
      rfl) hml hlen hB
    exact ⟨v', w', h1, by unfold Owns; simpa using h2, h3, h5⟩

/-- append at the walk. -/
theorem app_at {P : Program} {T E : TypeId} {k : IntKind} {bytes : Nat} {i : TypeInfo} (hT : P.underlying T = some (.slice E)) (hi : P.info? E = some i) (hz : i.zero = some (.int k 0)) (hsz : i.size = 1) (hby : i.bytes = bytes)
    {ops : Array Oper} {rest : List Oper} {o : Oper} {a : Act} {Q : Exit → Act → World → Prop} (hgd : o.guard = none) (s x : Operand)
    (ho : o.op = .call { callee := .builtin .append, args := #[s, x], argTypes := #[T, T] })
    {B : Nat} {w : World} {v u : Value} {xs ys : List Int} (hs : a.eval s = v) (hx : a.eval x = u) (hu : Sees k w u ys)
    (hown : Owns E k B w v xs) (hB : B ≤ w.heap.size) (hlen : (xs.length + ys.length) * bytes ≤ 140737488355328) (hml : xs.length + ys.length ≤ maxLen)
    (h : ∀ v' w', Owns E k B w' v' (xs ++ ys) → w.grownBy w' v.ownBlock → (v'.ownBlock = v.ownBlock ∨ v'.ownBlock = some w.heap.size) → wpList P ops Q rest (a.put o.dst v') w') :
    wpList P ops Q (o :: rest) a w := by
  refine wpList_plain hgd fun K' hK' => ?_
  obtain ⟨v', w', hrun, h1, h2, h3⟩ := run_app_at (P := P) (ty := o.type) hT hi hz hsz hby hu hown hB hlen hml
  unfold Oper.wp execOp
  simp only [ho, resolve, invoke, builtin, Sem.run_bind, Sem.run_pure, Result.andThen_ok, List.map_toArray, List.map_cons, List.map_nil, hs, hx, hrun]
  exact hK' _ _ (h v' w' h1 h2 h3)

/-- append as one step of a region that draws its order. -/
theorem step_app_at {P : Program} {T E : TypeId} {k : IntKind} {bytes : Nat} {i : TypeInfo} (hT : P.underlying T = some (.slice E)) (hi : P.info? E = some i) (hz : i.zero = some (.int k 0)) (hsz : i.size = 1) (hby : i.bytes = bytes)
    {ops : Array Oper} {o : Oper} {a : Act} {K : Act → World → Prop} {Q : Exit → Act → World → Prop} {R : Prop} (hgd : o.guard = none) (s x : Operand)
    (ho : o.op = .call { callee := .builtin .append, args := #[s, x], argTypes := #[T, T] })
    {B : Nat} {w : World} {v u : Value} {xs ys : List Int} (hs : a.eval s = v) (hx : a.eval x = u) (hu : Sees k w u ys)
    (hown : Owns E k B w v xs) (hB : B ≤ w.heap.size) (hlen : (xs.length + ys.length) * bytes ≤ 140737488355328) (hml : xs.length + ys.length ≤ maxLen)
    (h : ∀ v' w', Owns E k B w' v' (xs ++ ys) → w.grownBy w' v.ownBlock → (v'.ownBlock = v.ownBlock ∨ v'.ownBlock = some w.heap.size) → K (a.put o.dst v') w') :
    if Region.wanted o (yielded ops a.tmps) = true then Oper.wp P o a w K Q else R := by
  have hw : Region.wanted o (yielded ops a.tmps) = true := by simp [Region.wanted, hgd]
  rw [if_pos hw]
  obtain ⟨v', w', hrun, h1, h2, h3⟩ := run_app_at (P := P) (ty := o.type) hT hi hz hsz hby hu hown hB hlen hml
  unfold Oper.wp execOp
  simp only [ho, resolve, invoke, builtin, Sem.run_bind, Sem.run_pure, Result.andThen_ok, List.map_toArray, List.map_cons, List.map_nil, hs, hx, hrun]
  exact h v' w' h1 h2 h3

/-- One number in a new block is seen. -/
theorem Sees.one (k : IntKind) (w : World) (E : TypeId) (y : Int) (g : Nat) (hg : g = w.heap.size) : Sees k (w.alloc (.cells #[.int k y] E)) (.slice (some ⟨g, 0, none⟩) 1 1) [y] := by
  subst hg
  exact ⟨_, 1, rfl, by simp, by simp [maxLen], fun _ => ⟨w.heap.size, 0, rfl, fun j hj => by
    obtain rfl : j = 0 := by simp at hj; omega
    exact (VB.new w E #[.int k y]).cell 0⟩⟩
theorem Sees.grownRow {k : IntKind} {w w' : World} {v : Value} {xs : List Int} {r : Option Nat} (h : Sees k w v xs) (hg : w.grownBy w' r) (hr : ∀ b off c, v = .slice (some ⟨b, off, none⟩) xs.length c → xs ≠ [] → r ≠ some b) : Sees k w' v xs := by
  obtain ⟨A, cap, rfl, hc, hm, h⟩ := h
  refine ⟨A, cap, rfl, hc, hm, fun hne => ?_⟩
  obtain ⟨b, off, rfl, hcell⟩ := h hne
  refine ⟨b, off, rfl, fun j hj => ?_⟩
  exact hg.cell (hcell j hj) (fun e => hr b off cap rfl hne e.symm)

end Go.Proofs.Ytgohnekaolgblaa
