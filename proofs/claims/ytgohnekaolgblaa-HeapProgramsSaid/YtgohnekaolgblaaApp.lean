/- append(out, xs...): out a slice of the call's own, xs any slice that can be read, nil or not. -/
import Derived.Test.YtgohnekaolgblaaSees
namespace Go.Proofs.Ytgohnekaolgblaa
open Go.RowKit

theorem run_app_nil {P : Program} {w : World} {T ty E : TypeId} {i : TypeInfo} (hT : P.underlying T = some (.slice E)) (hi : P.info? E = some i)
    {B : Nat} {k : IntKind} {v : Value} {xs : List Int} (h : Owns E k B w v xs) (c : Nat) : (Builtin.append_ #[T, T] ty #[v, .slice none 0 c]).run P w = .ok v w := by
  rcases h.2 with ⟨rfl, hn⟩ | ⟨g, cap, cur, rfl, _, _, hnc, _⟩
  · simp [Builtin.append_, run_underlying hT, sizeOf, typeInfo, hi, Builtin.lenOf, Builtin.firstCells]
  · simp [Builtin.append_, run_underlying hT, sizeOf, typeInfo, hi, Builtin.lenOf, Builtin.firstCells, hnc, storeCells]

theorem app_nil {P : Program} {T E : TypeId} {i : TypeInfo} (hT : P.underlying T = some (.slice E)) (hi : P.info? E = some i) {w : World}
    {ops : Array Oper} {rest : List Oper} {o : Oper} {a : Act} {Q : Exit → Act → World → Prop} (hgd : o.guard = none) (s x : Operand)
    (ho : o.op = .call { callee := .builtin .append, args := #[s, x], argTypes := #[T, T] })
    {B : Nat} {k : IntKind} {v : Value} {xs : List Int} (hs : a.eval s = v) (hown : Owns E k B w v xs) {c : Nat} (hx : a.eval x = .slice none 0 c)
    (h : wpList P ops Q rest (a.put o.dst v) w) : wpList P ops Q (o :: rest) a w := by
  refine wpList_plain hgd fun K hK => ?_
  have hrun := run_app_nil (P := P) (w := w) (ty := o.type) hT hi hown c
  unfold Oper.wp execOp
  simp only [ho, resolve, invoke, builtin, Sem.run_bind, Sem.run_pure, Result.andThen_ok, List.map_toArray, List.map_cons, List.map_nil, hs, hx, hrun]
  exact hK _ _ h

/-- append(out, xs...). -/
theorem app_src {P : Program} {T E : TypeId} {k : IntKind} {bytes : Nat} {i : TypeInfo} (hT : P.underlying T = some (.slice E)) (hi : P.info? E = some i) (hz : i.zero = some (.int k 0)) (hsz : i.size = 1) (hby : i.bytes = bytes)
    {ops : Array Oper} {rest : List Oper} {o : Oper} {a : Act} {Q : Exit → Act → World → Prop} (hgd : o.guard = none) (s x : Operand)
    (ho : o.op = .call { callee := .builtin .append, args := #[s, x], argTypes := #[T, T] })
    {B : Nat} {w0 w : World} {v u : Value} {xs ys : List Int} (hs : a.eval s = v) (hx : a.eval x = u) (hu : Sees k w u ys)
    (hown : Owns E k B w v xs) (hbel : Below B w0 w) (hB : B ≤ w.heap.size) (hlen : (xs.length + ys.length) * bytes ≤ 140737488355328) (hml : xs.length + ys.length ≤ maxLen)
    (h : ∀ v' w', Owns E k B w' v' (xs ++ ys) → Below B w0 w' → B ≤ w'.heap.size → w.grownBy w' v.ownBlock → wpList P ops Q rest (a.put o.dst v') w') :
    wpList P ops Q (o :: rest) a w := by
  obtain ⟨A, cap, rfl, _, _, hc⟩ := hu
  rcases A with _ | ad
  · have hy : ys = [] := by
      by_cases hne : ys = []
      · exact hne
      · obtain ⟨b, off, he, _⟩ := hc hne; cases he
    subst hy
    exact app_nil hT hi hgd s x ho hs hown hx (h _ _ (by simpa using hown) hbel hB (World.grownBy.refl w _))
  · refine wpList_append_own _ hgd s x T ho B E i (.int k 0) 1 bytes hT hi hz hsz hby rfl (by decide) v xs.length (xs.map (Value.int k)) hs hown ad ys.length cap (ys.map (Value.int k)) hx (by simp) ?_ ?_ hml hlen hB ?_
    · intro j z hj
      have hlt : j < ys.length := by
        have := (List.getElem?_eq_some_iff.1 hj).1; simpa using this
      obtain ⟨b, off, he, hcell⟩ := hc (by intro e; subst e; simp at hlt)
      simp only [Option.some.injEq] at he
      subst he
      rw [addr_add, hcell j hlt]
      simp only [List.getElem?_map, List.getElem?_eq_getElem hlt, Option.map_some, Option.some.injEq] at hj
      rw [hj]
    · intro z hz
      obtain ⟨n, _, rfl⟩ := List.mem_map.1 hz
      rfl
    · intro v' w' ho' hg _
      refine h v' w' ?_ (hbel.grown hg hB (fun j hj => (hown.lt j hj).1)) (by have := hg.size; omega) hg
      unfold Owns; simpa using ho'

/-- A literal without elements. -/
theorem Owns.empty (E : TypeId) (k : IntKind) (w : World) : Owns E k w.heap.size (w.alloc (.cells #[] E)) (.slice (some ⟨w.heap.size, 0, none⟩) 0 0) [] :=
  World.ownsRow_made w #[] 0 (Nat.le_refl _) (by simp) (by simp)

/-- A literal, laid in a new block, is the call's own. -/
theorem Owns.lit (E : TypeId) (k : IntKind) (w : World) (xs : List Int) (B : Nat) (hB : B ≤ w.heap.size) (hm : xs.length ≤ maxLen) :
    Owns E k B (w.alloc (.cells (xs.map (Value.int k)).toArray E)) (.slice (some ⟨w.heap.size, 0, none⟩) xs.length xs.length) xs :=
  ⟨by simp, .inr ⟨w.heap.size, xs.length, _, rfl, hB, heap_alloc_new w _, Nat.le_refl _, hm, by simp, by simp only [Nat.mul_one]; exact List.take_of_length_le (by simp)⟩⟩

/-- What is owned stays owned where another row of the call's own may have grown. -/
theorem Owns.grown {E : TypeId} {k : IntKind} {B : Nat} {w w' : World} {v : Value} {xs : List Int} {row : Option Nat} (h : Owns E k B w v xs) (hg : w.grownBy w' row) (hne : v.ownBlock = none ∨ v.ownBlock ≠ row) : Owns E k B w' v xs :=
  World.ownsRow.kept h hg hne

end Go.Proofs.Ytgohnekaolgblaa
