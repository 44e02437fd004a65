/- Maps keyed by numbers that a call makes: sets (map[int]bool) and places (map[int]int), read, written, ranged over. -/
import Derived.Maps.RangeWalk
import Derived.Maps.OwnSet
import Derived.Test.YtgohnekaolgblaaWdNum
namespace Go.Proofs.Ytgohnekaolgblaa
open Go.RowKit Go.Maps


theorem wfNat {k : Nat} (h : k < 9223372036854775808) : (Lit.int .i64 (k : Int)).wf = true := by
  simp [Lit.wf, IntKind.min, IntKind.max, IntKind.bits, IntKind.signed]
  omega
theorem keyI : Keyed Try.prog 3 := int_keyed Try.underlying3
theorem keyOfI {k : Nat} (h : k < 9223372036854775808) : keyOf Try.prog 3 (.int .i64 (k : Int)) = some (.int .i64 (k : Int)) := keyOf_int_mk Try.underlying3 (wfNat h)
theorem isKeyI (k : Nat) : WideAt.IsKeyLit (.int .i64 (k : Int)) := trivial
theorem zeroB (w : World) : (zeroValue 4).run Try.prog w = .ok (.bool false) w := by kernel_rfl
theorem zeroI (w : World) : (zeroValue 3).run Try.prog w = .ok (.int .i64 0) w := by kernel_rfl

/-- Block b is a map of at most n places, which has at each number what M says. -/
def IsNum (w : World) (b n : Nat) (M : Nat → Option Nat) : Prop :=
  ∃ D : DataW Unit, w.ownsMap Try.prog 3 (plainElem Try.prog 3) b n D ∧ (∀ kl, Maps.has D kl = true → ∃ k : Nat, kl = .int .i64 (k : Int)) ∧ (∀ k : Nat, Maps.has D (.int .i64 (k : Int)) = (M k).isSome) ∧ ∀ (k v : Nat), M k = some v → ∀ z, D.atKey (.int .i64 (k : Int)) z = .lit (.int .i64 (v : Int))
/-- Block b is a set of at most n numbers. -/
def IsSet (w : World) (b n : Nat) (S : Nat → Bool) : Prop :=
  ∃ D : DataW Unit, w.ownsMap Try.prog 3 (plainElem Try.prog 4) b n D ∧ (∀ kl, Maps.has D kl = true → ∃ k : Nat, kl = .int .i64 (k : Int)) ∧ (∀ k : Nat, Maps.has D (.int .i64 (k : Int)) = S k) ∧ ∀ (k : Nat), S k = true → ∀ z, D.atKey (.int .i64 (k : Int)) z = .lit (.bool true)

theorem IsNum.made (w : World) : IsNum (w.alloc (.map #[] 0)) w.heap.size 0 (fun _ => none) :=
  ⟨_, World.ownsMap_made w _ _ _, fun _ h => by simp [Maps.has] at h, fun _ => rfl, fun _ _ h => by cases h⟩
theorem IsSet.made (w : World) : IsSet (w.alloc (.map #[] 0)) w.heap.size 0 (fun _ => false) :=
  ⟨_, World.ownsMap_made w _ _ _, fun _ h => by simp [Maps.has] at h, fun _ => rfl, fun _ h => by cases h⟩
theorem IsNum.lt {w : World} {b n : Nat} {M : Nat → Option Nat} (h : IsNum w b n M) : b < w.heap.size := by obtain ⟨D, h1, _⟩ := h; exact h1.lt
theorem IsSet.lt {w : World} {b n : Nat} {M : Nat → Bool} (h : IsSet w b n M) : b < w.heap.size := by obtain ⟨D, h1, _⟩ := h; exact h1.lt
theorem ownsMap_block {P : Program} {k : TypeId} {R : Value → Option (DataW Unit × List MemPlace)} {w w' : World} {b n : Nat} {D : DataW Unit} (h : w.ownsMap P k R b n D) (hb : w'.heap[b]? = w.heap[b]?) : w'.ownsMap P k R b n D := by
  obtain ⟨es, clock, h1, F, hs, hD⟩ := h
  exact ⟨es, clock, hb.trans h1, F, hs, hD⟩
theorem IsNum.block {w w' : World} {b n : Nat} {M : Nat → Option Nat} (h : IsNum w b n M) (hb : w'.heap[b]? = w.heap[b]?) : IsNum w' b n M := by
  obtain ⟨D, h1, h2⟩ := h; exact ⟨D, ownsMap_block h1 hb, h2⟩
theorem IsSet.block {w w' : World} {b n : Nat} {M : Nat → Bool} (h : IsSet w b n M) (hb : w'.heap[b]? = w.heap[b]?) : IsSet w' b n M := by
  obtain ⟨D, h1, h2⟩ := h; exact ⟨D, ownsMap_block h1 hb, h2⟩
theorem IsNum.alloc {w : World} {b n : Nat} {M : Nat → Option Nat} (h : IsNum w b n M) (o : Obj) : IsNum (w.alloc o) b n M := h.block (Below.heap_alloc w o b h.lt)
theorem IsSet.alloc {w : World} {b n : Nat} {M : Nat → Bool} (h : IsSet w b n M) (o : Obj) : IsSet (w.alloc o) b n M := h.block (Below.heap_alloc w o b h.lt)
theorem IsNum.call {w w' : World} {b n : Nat} {M : Nat → Option Nat} (h : IsNum w b n M) (hb : Below w.heap.size w w') : IsNum w' b n M := h.block (hb.block b h.lt)
theorem IsSet.call {w w' : World} {b n : Nat} {M : Nat → Bool} (h : IsSet w b n M) (hb : Below w.heap.size w w') : IsSet w' b n M := h.block (hb.block b h.lt)
theorem IsNum.far {w : World} {b n : Nat} {M : Nat → Option Nat} (h : IsNum w b n M) (c i : Nat) (hne : b ≠ c) (u : Value) : IsNum (w.setCell ⟨c, i, none⟩ u) b n M := h.block (Below.heap_setCell w ⟨c, i, none⟩ u b hne)
theorem IsSet.far {w : World} {b n : Nat} {M : Nat → Bool} (h : IsSet w b n M) (c i : Nat) (hne : b ≠ c) (u : Value) : IsSet (w.setCell ⟨c, i, none⟩ u) b n M := h.block (Below.heap_setCell w ⟨c, i, none⟩ u b hne)
theorem IsNum.mono {w : World} {b n n' : Nat} {M : Nat → Option Nat} (h : IsNum w b n M) (hn : n ≤ n') : IsNum w b n' M := by obtain ⟨D, h1, h2⟩ := h; exact ⟨D, h1.mono hn, h2⟩
theorem IsSet.mono {w : World} {b n n' : Nat} {M : Nat → Bool} (h : IsSet w b n M) (hn : n ≤ n') : IsSet w b n' M := by obtain ⟨D, h1, h2⟩ := h; exact ⟨D, h1.mono hn, h2⟩

theorem plainElem_bool_inv {e : TypeId} (he : Try.prog.underlying e = some .bool) {v : Value} {b : Bool} {ps : List MemPlace} (h : plainElem (H := Unit) Try.prog e v = some (.lit (.bool b), ps)) : v = .bool b := by
  unfold plainElem at h
  rw [he] at h
  cases v <;> simp at h
  rw [h.1]
theorem plainElem_bool_some {e : TypeId} (he : Try.prog.underlying e = some .bool) {v : Value} {y : DataW Unit × List MemPlace} (h : plainElem (H := Unit) Try.prog e v = some y) : ∃ c, v = .bool c := by
  unfold plainElem at h
  rw [he] at h
  cases v <;> simp at h
  exact ⟨_, rfl⟩

theorem litNe {j k : Nat} (h : j ≠ k) : (Lit.int .i64 (j : Int)) ≠ .int .i64 (k : Int) := by
  intro e
  simp only [Lit.int.injEq, true_and] at e
  omega

theorem IsSet.run {w : World} {b n : Nat} {S : Nat → Bool} (h : IsSet w b n S) (k : Nat) (hk : k < 9223372036854775808) : (Instr.lookup 96 (.map (some b)) (.int .i64 (k : Int)) false).run Try.prog w = .ok (.bool (S k)) w := by
  obtain ⟨D, h1, _, h3, h4⟩ := h
  obtain ⟨v, ps, hrun, hv⟩ := h1.lookup keyI Try.underlying96 (zeroB w) (plainElem_bool Try.underlying4 false) (keyOfI hk)
  have hv2 : v = .bool (S k) := by
    cases hS : S k with
    | true =>
      rw [h4 k hS] at hv
      exact plainElem_bool_inv Try.underlying4 hv
    | false =>
      rw [atKey_of_not_has (by rw [h3 k, hS])] at hv
      exact plainElem_bool_inv Try.underlying4 hv
  rw [← hv2]
  exact hrun
theorem IsNum.run_ok {w : World} {b n : Nat} {M : Nat → Option Nat} (h : IsNum w b n M) (k : Nat) (hk : k < 9223372036854775808) : (Instr.lookup 143 (.map (some b)) (.int .i64 (k : Int)) true).run Try.prog w = .ok (.tuple #[.int .i64 (((M k).getD 0 : Nat) : Int), .bool (M k).isSome]) w := by
  obtain ⟨D, h1, _, h3, h4⟩ := h
  obtain ⟨v, ps, hrun, hv⟩ := h1.look_ok keyI Try.underlying143 (zeroI w) (plainElem_int Try.underlying3 (wfNat (k := 0) (by omega))) (keyOfI hk)
  rw [h3 k] at hrun
  have hv2 : v = .int .i64 (((M k).getD 0 : Nat) : Int) := by
    obtain ⟨c, rfl, hc, _⟩ := plainElem_int_inv Try.underlying3 hv
    have hc1 := congrArg Prod.fst hc
    simp only at hc1
    cases hM : M k with
    | some j =>
      rw [h4 k j hM] at hc1
      simp only [DataW.lit.injEq, Lit.int.injEq, true_and] at hc1
      rw [← hc1]
      rfl
    | none =>
      rw [atKey_of_not_has (by rw [h3 k, hM]; rfl)] at hc1
      simp only [DataW.lit.injEq, Lit.int.injEq, true_and] at hc1
      rw [← hc1]
      rfl
  rw [← hv2]
  exact hrun
theorem IsNum.run {w : World} {b n : Nat} {M : Nat → Option Nat} (h : IsNum w b n M) (k : Nat) (hk : k < 9223372036854775808) (j : Nat) (hj : M k = some j) : (Instr.lookup 143 (.map (some b)) (.int .i64 (k : Int)) false).run Try.prog w = .ok (.int .i64 (j : Int)) w := by
  obtain ⟨D, h1, _, h3, h4⟩ := h
  obtain ⟨v, ps, hrun, hv⟩ := h1.lookup keyI Try.underlying143 (zeroI w) (plainElem_int Try.underlying3 (wfNat (k := 0) (by omega))) (keyOfI hk)
  have hv2 : v = .int .i64 (j : Int) := by
    obtain ⟨c, rfl, hc, _⟩ := plainElem_int_inv Try.underlying3 hv
    have hc1 := congrArg Prod.fst hc
    simp only at hc1
    rw [h4 k j hj] at hc1
    simp only [DataW.lit.injEq, Lit.int.injEq, true_and] at hc1
    rw [← hc1]
  rw [← hv2]
  exact hrun

section
variable {ops : Array Oper} {rest : List Oper} {o : Oper} {a : Act} {Q : Exit → Act → World → Prop}


/-- heads[i]. -/
theorem look_set (w : World) (hg : o.guard = none) (m x : Operand) (hop : o.op = Op.lookup 96 m x false) (b n : Nat) (S : Nat → Bool) (hm : a.eval m = .map (some b)) (h : IsSet w b n S) (k : Nat) (hk : k < 9223372036854775808) (hx : a.eval x = .int .i64 (k : Int))
    (hK : wpList Try.prog ops Q rest (a.put o.dst (.bool (S k))) w) : wpList Try.prog ops Q (o :: rest) a w := by
  refine wpList_plain hg fun K' hK' => ?_
  have hrun := h.run k hk
  unfold Oper.wp
  simp [execOp, hop, hm, hx, hrun, Result.andThen]
  exact hK' _ _ hK

/-- n, was := m[i]. -/
theorem look_num_ok (w : World) (hg : o.guard = none) (m x : Operand) (hop : o.op = Op.lookup 143 m x true) (b n : Nat) (M : Nat → Option Nat) (hm : a.eval m = .map (some b)) (h : IsNum w b n M) (k : Nat) (hk : k < 9223372036854775808) (hx : a.eval x = .int .i64 (k : Int))
    (hK : wpList Try.prog ops Q rest (a.put o.dst (.tuple #[.int .i64 (((M k).getD 0 : Nat) : Int), .bool (M k).isSome])) w) : wpList Try.prog ops Q (o :: rest) a w := by
  refine wpList_plain hg fun K' hK' => ?_
  have hrun := h.run_ok k hk
  unfold Oper.wp
  simp [execOp, hop, hm, hx, hrun, Result.andThen]
  exact hK' _ _ hK

/-- m[i] = true. -/
theorem put_set (w : World) (hg : o.guard = none) (m x v : Operand) (hop : o.op = Op.mapUpdate 96 m x v) (b n : Nat) (S : Nat → Bool) (hm : a.eval m = .map (some b)) (h : IsSet w b n S) (hn : n < maxLen) (k : Nat) (hk : k < 9223372036854775808) (hx : a.eval x = .int .i64 (k : Int)) (hv : a.eval v = .bool true)
    (hK : ∀ w', IsSet w' b (n + 1) (fun j => if j = k then true else S j) → w.grownBy w' (some b) → wpList Try.prog ops Q rest (a.put o.dst undef) w') : wpList Try.prog ops Q (o :: rest) a w := by
  obtain ⟨D, h1, h2, h3, h4⟩ := h
  obtain ⟨es, hD, _⟩ := h1.entries keyI
  refine wpList_mapUpdate_own w hg m x v _ hop _ _ keyI Try.underlying96 _ b n D hm h1 hn _ _ _ hx hv (keyOfI hk) _ _ (plainElem_bool Try.underlying4 true) (fun w' h5 h6 => hK w' ⟨_, h5, ?_, ?_, ?_⟩ h6)
  · intro kl hkl
    by_cases e : kl = .int .i64 (k : Int)
    · exact ⟨k, e⟩
    · rw [has_put_other e] at hkl
      exact h2 kl hkl
  · intro j
    show Maps.has _ _ = (if j = k then true else S j)
    by_cases e : j = k
    · subst e
      rw [has_put_same ⟨es, hD⟩ (isKeyI j), if_pos rfl]
    · rw [has_put_other (litNe e), h3 j, if_neg e]
  · intro j hj z
    have hj : (if j = k then true else S j) = true := hj
    by_cases e : j = k
    · subst e
      rw [atKey_put_same ⟨es, hD⟩ (isKeyI j)]
    · rw [if_neg e] at hj
      rw [atKey_put_other (litNe e), h4 j hj]

/-- m[i] = n. -/
theorem put_num (w : World) (hg : o.guard = none) (m x v : Operand) (hop : o.op = Op.mapUpdate 143 m x v) (b n : Nat) (M : Nat → Option Nat) (hm : a.eval m = .map (some b)) (h : IsNum w b n M) (hn : n < maxLen) (k : Nat) (hk : k < 9223372036854775808) (hx : a.eval x = .int .i64 (k : Int)) (y : Nat) (hy : y < 9223372036854775808) (hv : a.eval v = .int .i64 (y : Int))
    (hK : ∀ w', IsNum w' b (n + 1) (fun j => if j = k then some y else M j) → w.grownBy w' (some b) → wpList Try.prog ops Q rest (a.put o.dst undef) w') : wpList Try.prog ops Q (o :: rest) a w := by
  obtain ⟨D, h1, h2, h3, h4⟩ := h
  obtain ⟨es, hD, _⟩ := h1.entries keyI
  refine wpList_mapUpdate_own w hg m x v _ hop _ _ keyI Try.underlying143 _ b n D hm h1 hn _ _ _ hx hv (keyOfI hk) _ _ (plainElem_int Try.underlying3 (wfNat hy)) (fun w' h5 h6 => hK w' ⟨_, h5, ?_, ?_, ?_⟩ h6)
  · intro kl hkl
    by_cases e : kl = .int .i64 (k : Int)
    · exact ⟨k, e⟩
    · rw [has_put_other e] at hkl
      exact h2 kl hkl
  · intro j
    show Maps.has _ _ = (if j = k then some y else M j).isSome
    by_cases e : j = k
    · subst e
      rw [has_put_same ⟨es, hD⟩ (isKeyI j), if_pos rfl]
      rfl
    · rw [has_put_other (litNe e), h3 j, if_neg e]
  · intro j u hj z
    have hj : (if j = k then some y else M j) = some u := hj
    by_cases e : j = k
    · subst e
      rw [if_pos rfl] at hj
      cases hj
      rw [atKey_put_same ⟨es, hD⟩ (isKeyI j)]
    · rw [if_neg e] at hj
      rw [atKey_put_other (litNe e), h4 j u hj]

/-- A set that is ranged over: what is still to come; how many. -/
def SetRun (w : World) (b r n : Nat) (S : Nat → Bool) (left : Nat → Bool) (cnt : Nat) : Prop :=
  ∃ (D : DataW Unit) (lf : Lit → Bool), w.ranges Try.prog 3 (plainElem Try.prog 4) b r n D lf cnt ∧ (∀ kl, Maps.has D kl = true → ∃ k : Nat, kl = .int .i64 (k : Int)) ∧ (∀ k : Nat, Maps.has D (.int .i64 (k : Int)) = S k) ∧ (∀ (k : Nat), S k = true → ∀ z, D.atKey (.int .i64 (k : Int)) z = .lit (.bool true)) ∧ (∀ k : Nat, left k = lf (.int .i64 (k : Int))) ∧ (∀ kl, lf kl = true → Maps.has D kl = true)
theorem SetRun.set {w : World} {b r n : Nat} {S left : Nat → Bool} {cnt : Nat} (h : SetRun w b r n S left cnt) : IsSet w b n S := by
  obtain ⟨D, lf, h1, h2, h3, h4, _⟩ := h
  exact ⟨D, h1.owns, h2, h3, h4⟩
theorem SetRun.kept {w w' : World} {b r n : Nat} {S left : Nat → Bool} {cnt : Nat} (h : SetRun w b r n S left cnt) {row : Option Nat} (hg : w.grownBy w' row) (hb' : some b ≠ row) (hr' : some r ≠ row) : SetRun w' b r n S left cnt := by
  obtain ⟨D, lf, h1, h2⟩ := h
  exact ⟨D, lf, h1.kept hg hb' hr', h2⟩
theorem SetRun.lt {w : World} {b r n : Nat} {S left : Nat → Bool} {cnt : Nat} (h : SetRun w b r n S left cnt) : b < w.heap.size ∧ r < w.heap.size := by
  obtain ⟨D, lf, h1, h2⟩ := h
  exact ⟨h1.owns.lt, h1.lt⟩
theorem SetRun.call {w w' : World} {b r n : Nat} {S left : Nat → Bool} {cnt : Nat} (h : SetRun w b r n S left cnt) (hb : Below w.heap.size w w') : SetRun w' b r n S left cnt :=
  h.kept (row := none) ⟨hb.os, hb.tape, hb.output, hb.size, fun i hi _ => hb.block i hi⟩ (by simp) (by simp)
theorem SetRun.left_eq {w : World} {b r n : Nat} {S left : Nat → Bool} {cnt : Nat} (h : SetRun w b r n S left cnt) : w.rangeLeft b r = cnt := by
  obtain ⟨D, lf, h1, h2⟩ := h
  exact h1.left_eq

/-- for i := range heads. -/
theorem range_set (w : World) (hg : o.guard = none) (m : Operand) (hop : o.op = Op.range 96 m) (b n : Nat) (S : Nat → Bool) (hm : a.eval m = .map (some b)) (h : IsSet w b n S)
    (hK : ∀ w' cnt, SetRun w' b w.heap.size n S S cnt → w.grownBy w' none → w'.heap.size = w.heap.size + 1 → wpList Try.prog ops Q rest (a.put o.dst (.pointer (some ⟨w.heap.size, 0, none⟩))) w') : wpList Try.prog ops Q (o :: rest) a w := by
  obtain ⟨D, h1, h2, h3, h4⟩ := h
  exact wpList_range_own w hg m _ hop _ _ keyI Try.underlying96 _ b n D hm h1 (fun w' h5 h6 h7 => hK w' _ ⟨D, _, h5, h2, h3, h4, fun k => (h3 k).symm, fun _ h => h⟩ h6 h7)

/-- The step. -/
theorem next_set (w : World) (hg : o.guard = none) (it : Operand) (hop : o.op = Op.next it false) (b r n : Nat) (S left : Nat → Bool) (cnt : Nat) (hit : a.eval it = .pointer (some ⟨r, 0, none⟩)) (h : SetRun w b r n S left cnt)
    (hDone : (∀ k, left k = false) → wpList Try.prog ops Q rest (a.put o.dst (.tuple #[.bool false])) w)
    (hMore : ∀ (k : Nat) (w' : World) (cnt' : Nat), left k = true → S k = true → SetRun w' b r n S (fun j => if j = k then false else left j) cnt' → cnt' < cnt → w.grownBy w' (some r) → w'.heap.size = w.heap.size → k < 9223372036854775808 →
      (Instr.entry (.pointer (some ⟨r, 0, none⟩))).run Try.prog w' = .ok (.tuple #[.int .i64 (k : Int), .bool true]) w' → wpList Try.prog ops Q rest (a.put o.dst (.tuple #[.bool true, .int .i64 (k : Int), .bool true])) w') :
    wpList Try.prog ops Q (o :: rest) a w := by
  obtain ⟨D, lf, h1, h2, h3, h4, h5, h6⟩ := h
  refine wpList_next_ranges w hg it hop _ keyI _ (Value.int .i64) Value.bool (fun key kl hkey => by obtain ⟨x, rfl, _⟩ := Maps.keyOf_int_inv Try.underlying3 hkey; exact ⟨x, rfl⟩) ?_ b r n D lf cnt hit h1 (fun _ hl => hDone fun k => by rw [h5 k]; exact hl _) ?_
  · intro v y hv
    exact plainElem_bool_some Try.underlying4 hv
  · intro x c kl y w' cnt' hkey hl hR hat hrg hlt hgr hsz hen
    obtain ⟨x', ex, rfl, hwx⟩ := Maps.keyOf_int_inv Try.underlying3 hkey
    cases ex
    have hh := h6 _ hl
    obtain ⟨k, ek⟩ := h2 _ hh
    simp only [Lit.int.injEq, true_and] at ek
    subst ek
    have hSk : S k = true := by rw [← h3 k]; exact hh
    have hc : c = true := by
      have e1 := hat (.lit (.bool true))
      rw [h4 k hSk] at e1
      rw [plainElem_bool Try.underlying4] at hR
      simp only [Option.some.injEq] at hR
      rw [← hR] at e1
      simpa using e1.symm
    subst hc
    have hk : k < 9223372036854775808 := by
      simp [Lit.wf, IntKind.min, IntKind.max, IntKind.bits, IntKind.signed] at hwx
      omega
    refine hMore k w' cnt' (by rw [h5 k]; exact hl) hSk ⟨D, _, hrg, h2, h3, h4, fun j => ?_, fun kl hkl => h6 kl (by simp at hkl; exact hkl.1)⟩ hlt hgr hsz hk hen
    show (if j = k then false else left j) = (lf _ && !_)
    by_cases e : j = k
    · subst e
      rw [if_pos rfl, WideAt.sameKey_self (isKeyI j)]
      simp
    · rw [if_neg e, h5 j, sameKey_ne (litNe e)]
      simp
end

end Go.Proofs.Ytgohnekaolgblaa
