/- append(out, make([]T, n)...); a number of what a call owns is set. -/
import Derived.Test.YtgohnekaolgblaaApp
import Derived.Test.YtgohnekaolgblaaBase
namespace Go.Proofs.Ytgohnekaolgblaa
open Go.RowKit

theorem zeros_toList (k : IntKind) (m : Nat) : (Builtin.zeroCells #[Value.int k 0] m).toList = (List.replicate m (0 : Int)).map (Value.int k) := by
  simp only [Builtin.zeroCells, List.map_replicate]
  apply List.ext_getElem?
  intro i
  by_cases hi : i < m
  · simp [hi, Nat.mod_one]
  · simp [hi]

theorem run_app_zeros {P : Program} {T U ty E : TypeId} {k : IntKind} {bytes : Nat} {i : TypeInfo} (hT : P.underlying T = some (.slice E)) (hU : P.underlying U = some (.int .i64)) (hi : P.info? E = some i) (hz : i.zero = some (.int k 0)) (hsz : i.size = 1) (hby : i.bytes = bytes)
    {w : World} {B : Nat} {v : Value} {xs : List Int} (hown : Owns E k B w v xs) (m : Nat) (hB : B ≤ w.heap.size) (hlen : (xs.length + m) * bytes ≤ 140737488355328) (hml : xs.length + m ≤ maxLen) (hm : m ≤ 1073741824) (hb8 : bytes ≤ 8) (hne : xs ≠ []) :
    ∃ v' w', (Builtin.append_ #[T, U] ty #[v, .int .i64 (m : Int)]).run P w = .ok v' w' ∧ Owns E k B w' v' (xs ++ List.replicate m 0) ∧ w.grownBy w' v.ownBlock := by
  subst hby
  have hw : IntKind.i64.wrap (m : Int) = m := by rw [IntKind.wrap_i64]; omega
  have hbig : ¬ ((281474976710656 : Int) < (m : Int) * (i.bytes : Int)) := by
    have : (m : Int) * (i.bytes : Int) ≤ 1073741824 * 8 := Int.mul_le_mul (by omega) (by omega) (by omega) (by omega)
    omega
  have hlt : ¬ ((m : Int) < 0) := by omega
  have hsmall : xs.length + m ≤ 9223372036854775807 := by unfold maxLen at hml; omega
  have h63' : ¬ (9223372036854775807 < ((xs.length : Int) + (m : Int))) := by omega
  have hz1 : (Value.int k 0).cells = #[Value.int k 0] := rfl
  rcases hown.2 with ⟨rfl, hn0⟩ | ⟨g, cap, cur, rfl, hbg, hg, hnc, hcm, hcs, htake⟩
  · exact absurd (List.eq_nil_of_length_eq_zero hn0) hne
  · simp only [Nat.mul_one] at hcs htake
    by_cases hroom : xs.length + m ≤ cap
    · have hst := run_storeCells_at P g xs.length E ((List.replicate m (0 : Int)).map (Value.int k)) 0 cur w hg (by simp; omega) (by intro u hu; obtain ⟨y, _, rfl⟩ := List.mem_map.1 hu; rfl)
      simp only [Nat.add_zero] at hst
      refine ⟨.slice (some ⟨g, 0, none⟩) (xs.length + m) cap, w.setRow g (cur.toList.take xs.length ++ (List.replicate m (0 : Int)).map (Value.int k) ++ cur.toList.drop (xs.length + m)).toArray, ?_, ?_, ?_⟩
      · by_cases hm0 : m = 0
        · subst hm0
          have hw0 : IntKind.i64.wrap 0 = 0 := by decide
          simp [Builtin.append_, run_underlying hT, run_underlying hU, sizeOf, typeInfo, hi, asInt, asIntOf, hw0, hnc, storeCells] at hst ⊢
          exact hst
        · simp [Builtin.append_, run_underlying hT, run_underlying hU, sizeOf, typeInfo, zeroValue, hi, hz, hsz, hz1, asInt, asIntOf, hw, hbig, hm0, hroom, Addr.add_lit, zeros_toList] at hst ⊢
          rw [hst]
          rfl
      · refine ⟨by simp, .inr ⟨g, cap, _, by simp, hbg, setRow_heap w g cur _ E _ hg, by simpa using hroom, hcm, ?_, ?_⟩⟩
        · simp; omega
        · rw [htake, List.take_append_of_le_length (by simp), List.take_of_length_le (by simp)]
          simp
      · exact ⟨rfl, rfl, rfl, by simp, fun j _ hk => setRow_other w g j _ (fun e => hk (by simp [Value.ownBlock, e]))⟩
    · have hm0 : ¬ m = 0 := by omega
      have h48' : ¬ (281474976710656 < Builtin.nextslicecap (xs.length + m) cap * i.bytes) := by
        have := growslice_fits (need := xs.length + m) (old := cap) (bytes := i.bytes) (by omega) hlen
        omega
      have hfo := run_firstCells_some (P := P) w.drew 1 xs.length ⟨g, 0, none⟩ xs.length cap (xs.map (Value.int k)) (by simp) (by
        intro j u hj
        have := World.ownsRow.cells (g := g) hown rfl j u hj
        simpa using this)
      refine ⟨.slice (some ⟨w.heap.size, 0, none⟩) (xs.length + m) (grownCap w (xs.length + m) cap E), w.drew.alloc (.cells ((xs.map (Value.int k)).toArray ++ Builtin.zeroCells #[.int k 0] m ++ Builtin.zeroCells #[.int k 0] (grownCap w (xs.length + m) cap E - (xs.length + m))) E), ?_, ?_, ?_⟩
      · simp [Builtin.append_, run_underlying hT, run_underlying hU, sizeOf, typeInfo, zeroValue, hi, hz, hsz, hz1, asInt, asIntOf, hw, hbig, hm0, hroom, h63', h48', Question.forced, newRow, grownCap, hfo]
        exact fun hneg => absurd hneg hlt
      · have hge := grownCap_ge w (xs.length + m) cap E
        have hcm' : grownCap w (xs.length + m) cap E ≤ maxLen := grownCap_le_maxLen w (xs.length + m) cap E hml
        refine ⟨by simp, .inr ⟨w.heap.size, _, _, by simp, hB, heap_alloc_new w.drew _, by simpa using hge, hcm', ?_, ?_⟩⟩
        · simp only [Array.size_append, size_zeroCells]; simp; omega
        · simp only [Array.toList_append, zeros_toList]
          rw [List.take_append_of_le_length (by simp), List.take_of_length_le (by simp)]
          simp
      · exact ⟨rfl, rfl, rfl, by simp, fun j hj _ => Below.heap_alloc w.drew _ j hj⟩

theorem app_zeros {P : Program} {T U E : TypeId} {k : IntKind} {bytes : Nat} {i : TypeInfo} (hT : P.underlying T = some (.slice E)) (hU : P.underlying U = some (.int .i64)) (hi : P.info? E = some i) (hz : i.zero = some (.int k 0)) (hsz : i.size = 1) (hby : i.bytes = bytes)
    {ops : Array Oper} {rest : List Oper} {o : Oper} {a : Act} {Q : Exit → Act → World → Prop} (hgd : o.guard = none) (s x : Operand)
    (ho : o.op = .call { callee := .builtin .append, args := #[s, x], argTypes := #[T, U] })
    {B : Nat} {w0 w : World} {v : Value} {xs : List Int} (m : Nat) (hs : a.eval s = v) (hx : a.eval x = .int .i64 (m : Int))
    (hown : Owns E k B w v xs) (hne : xs ≠ []) (hbel : Below B w0 w) (hB : B ≤ w.heap.size) (hlen : (xs.length + m) * bytes ≤ 140737488355328) (hml : xs.length + m ≤ maxLen) (hm : m ≤ 1073741824) (hb8 : bytes ≤ 8)
    (h : ∀ v' w', Owns E k B w' v' (xs ++ List.replicate m 0) → Below B w0 w' → B ≤ w'.heap.size → w.grownBy w' v.ownBlock → wpList P ops Q rest (a.put o.dst v') w') :
    wpList P ops Q (o :: rest) a w := by
  refine wpList_plain hgd fun K hK => ?_
  obtain ⟨v', w', hrun, h1, h2⟩ := run_app_zeros (ty := o.type) hT hU hi hz hsz hby hown m hB hlen hml hm hb8 hne
  unfold Oper.wp execOp
  simp only [ho, resolve, invoke, builtin, Sem.run_bind, Sem.run_pure, Result.andThen_ok, List.map_toArray, List.map_cons, List.map_nil, hs, hx, hrun]
  exact hK _ _ (h v' w' h1 (hbel.grown h2 hB (fun j hj => (hown.lt j hj).1)) (by have := h2.size; omega) h2)

/-- A number of what is owned is set. -/
theorem Owns.set {E : TypeId} {k : IntKind} {B : Nat} {w : World} {g n cap : Nat} {xs : List Int} (h : Owns E k B w (.slice (some ⟨g, 0, none⟩) n cap) xs) (j : Nat) (y : Int) :
    Owns E k B (w.setCell ⟨g, j, none⟩ (.int k y)) (.slice (some ⟨g, 0, none⟩) n cap) (xs.set j y) := by
  rcases h.2 with ⟨h, _⟩ | ⟨g', cap', cur, he, hbg, hg, hnc, hcm, hcs, htake⟩
  · cases h
  · simp only [Value.slice.injEq, Option.some.injEq, Addr.mk.injEq] at he
    obtain ⟨⟨rfl, _⟩, rfl, rfl⟩ := he
    have hv := VB.set (w := w) (t := g) (T := E) (cs := cur) hg j (.int k y)
    refine ⟨by simp, .inr ⟨g, cap, _, by simp, hbg, hv, by simpa using hnc, hcm, by simpa using hcs, ?_⟩⟩
    simp only [Array.toList_setIfInBounds, List.length_set, Nat.mul_one] at htake ⊢
    rw [List.take_set, htake, List.map_set]

end Go.Proofs.Ytgohnekaolgblaa
