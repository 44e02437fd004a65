/- Maps keyed by numbers that a call makes: sets (map[int]bool) and places (map[int]int), read, written, ranged over. -/
import Derived.Maps.RangeWalk
import Derived.Maps.OwnSet
import Derived.Test.YtgohnekaolgblaaGreatQ01
import Derived.Test.YtgohnekaolgblaaGreatProg
namespace Go.Proofs.YtgohnekaolgblaaGreat
open Go.RowKit Go.Maps


theorem wfNat {k : Nat} (h : k < 9223372036854775808) : (Lit.int .i64 (k : Int)).wf = true := by
  simp [Lit.wf, IntKind.min, IntKind.max, IntKind.bits, IntKind.signed]
  omega
theorem keyI : Keyed Tryz.prog 3 := int_keyed Tryz.underlying3
theorem keyOfI {k : Nat} (h : k < 9223372036854775808) : keyOf Tryz.prog 3 (.int .i64 (k : Int)) = some (.int .i64 (k : Int)) := keyOf_int_mk Tryz.underlying3 (wfNat h)
theorem isKeyI (k : Nat) : WideAt.IsKeyLit (.int .i64 (k : Int)) := trivial
theorem zeroB (w : World) : (zeroValue 4).run Tryz.prog w = .ok (.bool false) w := by kernel_rfl
theorem zeroI (w : World) : (zeroValue 3).run Tryz.prog w = .ok (.int .i64 0) w := by kernel_rfl

/-- Block b is a map of at most n places, which has at each number what M says. -/
def IsNum (w : World) (b n : Nat) (M : Nat → Option Nat) : Prop :=
  ∃ D : DataW Unit, w.ownsMap Tryz.prog 3 (plainElem Tryz.prog 3) b n D ∧ (∀ kl, Maps.has D kl = true → ∃ k : Nat, kl = .int .i64 (k : Int)) ∧ (∀ k : Nat, Maps.has D (.int .i64 (k : Int)) = (M k).isSome) ∧ ∀ (k v : Nat), M k = some v → ∀ z, D.atKey (.int .i64 (k : Int)) z = .lit (.int .i64 (v : Int))
/-- Block b is a set of at most n numbers. -/
def IsSet (w : World) (b n : Nat) (S : Nat → Bool) : Prop :=
  ∃ D : DataW Unit, w.ownsMap Tryz.prog 3 (plainElem Tryz.prog 4) b n D ∧ (∀ kl, Maps.has D kl = true → ∃ k : Nat, kl = .int .i64 (k : Int)) ∧ (∀ k : Nat, Maps.has D (.int .i64 (k : Int)) = S k) ∧ ∀ (k : Nat), S k = true → ∀ z, D.atKey (.int .i64 (k : Int)) z = .lit (.bool true)

theorem IsNum.made (w : World) : IsNum (w.alloc (.map #[] 0)) w.heap.size 0 (fun _ => none) :=
  ⟨_, World.ownsMap_made w _ _ _, fun _ h => by simp [Maps.has] at h, fun _ => rfl, fun _ _ h => by cases h⟩
theorem IsSet.made (w : World) : IsSet (w.alloc (.map #[] 0)) w.heap.size 0 (fun _ => false) :=
  ⟨_, World.ownsMap_made w _ _ _, fun _ h => by simp [Maps.has] at h, fun _ => rfl, fun _ h => by cases h⟩
theorem IsNum.lt {w : World} {b n : Nat} {M : Nat → Option Nat} (h : IsNum w b n M) : b < w.heap.size := by obtain ⟨D, h1, _⟩ := h; exact h1.lt
theorem IsSet.lt {w : World} {b n : Nat} {M : Nat → Bool} (h : IsSet w b n M) : b < w.heap.size := by obtain ⟨D, h1, _⟩ := h; exact h1.lt
theorem ownsMap_block {P : Program} {k : TypeId} {R : Value → Option (DataW Unit × List MemPlace)} {w w' : World} {b n : Nat} {D : DataW Unit} (h : w.ownsMap P k R b n D) (hb : w'.heap[b]? = w.heap[b]?) : w'.ownsMap P k R b n D := by
  obtain ⟨es, clock, h1, F, hs, hD⟩ := h
  exact ⟨es, clock, hb.trans h1, F, hs, hD⟩
theorem IsNum.block {w w' : World} {b n : Nat} {M : Nat → Option Nat} (h : IsNum w b n M) (hb : w'.heap[b]? = w.heap[b]?) : IsNum w' b n M := by
  obtain ⟨D, h1, h2⟩ := h; exact ⟨D, ownsMap_block h1 hb, h2⟩
theorem IsSet.block {w w' : World} {b n : Nat} {M : Nat → Bool} (h : IsSet w b n M) (hb : w'.heap[b]? = w.heap[b]?) : IsSet w' b n M := by
  obtain ⟨D, h1, h2⟩ := h; exact ⟨D, ownsMap_block h1 hb, h2⟩
theorem IsNum.alloc {w : World} {b n : Nat} {M : Nat → Option Nat} (h : IsNum w b n M) (o : Obj) : IsNum (w.alloc o) b n M := h.block (Below.heap_alloc w o b h.lt)
theorem IsSet.alloc {w : World} {b n : Nat} {M : Nat → Bool} (h : IsSet w b n M) (o : Obj) : IsSet (w.alloc o) b n M := h.block (Below.heap_alloc w o b h.lt)
theorem IsNum.call {w w' : World} {b n : Nat} {M : Nat → Option Nat} (h : IsNum w b n M) (hb : Below w.heap.size w w') : IsNum w' b n M := h.block (hb.block b h.lt)
theorem IsSet.call {w w' : World} {b n : Nat} {M : Nat → Bool} (h : IsSet w b n M) (hb : Below w.heap.size w w') : IsSet w' b n M := h.block (hb.block b h.lt)
theorem IsNum.far {w : World} {b n : Nat} {M : Nat → Option Nat} (h : IsNum w b n M) (c i : Nat) (hne : b ≠ c) (u : Value) : IsNum (w.setCell ⟨c, i, none⟩ u) b n M := h.block (Below.heap_setCell w ⟨c, i, none⟩ u b hne)
theorem IsSet.far {w : World} {b n : Nat} {M : Nat → Bool} (h : IsSet w b n M) (c i : Nat) (hne : b ≠ c) (u : Value) : IsSet (w.setCell ⟨c, i, none⟩ u) b n M := h.block (Below.heap_setCell w ⟨c, i, none⟩ u b hne)
theorem IsNum.mono {w : World} {b n n' : Nat} {M : Nat → Option Nat} (h : IsNum w b n M) (hn : n ≤ n') : IsNum w b n' M := by obtain ⟨D, h1, h2⟩ := h; exact ⟨D, h1.mono hn, h2⟩
theorem IsSet.mono {w : World} {b n n' : Nat} {M : Nat → Bool} (h : IsSet w b n M) (hn : n ≤ n') : IsSet w b n' M := by obtain ⟨D, h1, h2⟩ := h; exact ⟨D, h1.mono hn, h2⟩

theorem plainElem_bool_inv {e : TypeId} (he : Tryz.prog.underlying e = some .bool) {v : Value} {b : Bool} {ps : List MemPlace} (h : plainElem (H := Unit) Tryz.prog e v = some (.lit (.bool b), ps)) : v = .bool b := by
  unfold plainElem at h
  rw [he] at h
  cases v <;> simp at h
  rw [h.1]
theorem plainElem_bool_some {e : TypeId} (he : Tryz.prog.underlying e = some .bool) {v : Value} {y : DataW Unit × List MemPlace} (h : plainElem (H := Unit) Tryz.prog e v = some y) : ∃ c, v = .bool c := by
  unfold plainElem at h
  rw [he] at h
  cases v <;> simp at h
  exact ⟨_, rfl⟩

theorem litNe {j k : Nat} (h : j ≠ k) : (Lit.int .i64 (j : Int)) ≠ .int .i64 (k : Int) := by
  intro e
  simp only [Lit.int.injEq, true_and] at e
  omega

theorem IsSet.run {w : World} {b n : Nat} {S : Nat → Bool} (h : IsSet w b n S) (k : Nat) (hk : k < 9223372036854775808) : (Instr.lookup 120 (.map (some b)) (.int .i64 (k : Int)) false).run Tryz.prog w = .ok (.bool (S k)) w := by
  obtain ⟨D, h1, _, h3, h4⟩ := h
  obtain ⟨v, ps, hrun, hv⟩ := h1.lookup keyI Tryz.underlying120 (zeroB w) (plainElem_bool Tryz.underlying4 false) (keyOfI hk)
  have hv2 : v = .bool (S k) := by
    cases hS : S k with
    | true =>
      rw [h4 k hS] at hv
      exact plainElem_bool_inv Tryz.underlying4 hv
    | false =>
      rw [atKey_of_not_has (by rw [h3 k, hS])] at hv
      exact plainElem_bool_inv Tryz.underlying4 hv
  rw [← hv2]
  exact hrun
theorem IsNum.run_ok {w : World} {b n : Nat} {M : Nat → Option Nat} (h : IsNum w b n M) (k : Nat) (hk : k < 9223372036854775808) : (Instr.lookup 126 (.map (some b)) (.int .i64 (k : Int)) true).run Tryz.prog w = .ok (.tuple #[.int .i64 (((M k).getD 0 : Nat) : Int), .bool (M k).isSome]) w := by
  obtain ⟨D, h1, _, h3, h4⟩ := h
  obtain ⟨v, ps, hrun, hv⟩ := h1.look_ok keyI Tryz.underlying126 (zeroI w) (plainElem_int Tryz.underlying3 (wfNat (k := 0) (by omega))) (keyOfI hk)
  rw [h3 k] at hrun
  have hv2 : v = .int .i64 (((M k).getD 0 : Nat) : Int) := by
    obtain ⟨c, rfl, hc, _⟩ := plainElem_int_inv Tryz.underlying3 hv
    have hc1 := congrArg Prod.fst hc
    simp only at hc1
    cases hM : M k with
    | some j =>
      rw [h4 k j hM] at hc1
      simp only [DataW.lit.injEq, Lit.int.injEq, true_and] at hc1
      rw [← hc1]
      rfl
    | none =>
      rw [atKey_of_not_has (by rw [h3 k, hM]; rfl)] at hc1
      simp only [DataW.lit.injEq, Lit.int.injEq, true_and] at hc1
      rw [← hc1]
      rfl
  rw [← hv2]
  exact hrun
theorem IsNum.run {w : World} {b n : Nat} {M : Nat → Option Nat} (h : IsNum w b n M) (k : Nat) (hk : k < 9223372036854775808) (j : Nat) (hj : M k = some j) : (Instr.lookup 126 (.map (some b)) (.int .i64 (k : Int)) false).run Tryz.prog w = .ok (.int .i64 (j : Int)) w := by
  obtain ⟨D, h1, _, h3, h4⟩ := h
  obtain ⟨v, ps, hrun, hv⟩ := h1.lookup keyI Tryz.underlying126 (zeroI w) (plainElem_int Tryz.underlying3 (wfNat (k := 0) (by omega))) (keyOfI hk)
  have hv2 : v = .int .i64 (j : Int) := by
    obtain ⟨c, rfl, hc, _⟩ := plainElem_int_inv Tryz.underlying3 hv
    have hc1 := congrArg Prod.fst hc
    simp only at hc1
    rw [h4 k j hj] at hc1
    simp only [DataW.lit.injEq, Lit.int.injEq, true_and] at hc1
    rw [← hc1]
  rw [← hv2]
  exact hrun

section
variable {ops : Array Oper} {rest : List Oper} {o : Oper} {a : Act} {Q : Exit → Act → World → Prop}


/-- heads[i]. -/
theorem look_set (w : World) (hg : o.guard = none) (m x : Operand) (hop : o.op = Op.lookup 120 m x false) (b n : Nat) (S : Nat → Bool) (hm : a.eval m = .map (some b)) (h : IsSet w b n S) (k : Nat) (hk : k < 9223372036854775808) (hx : a.eval x = .int .i64 (k : Int))
    (hK : wpList Tryz.prog ops Q rest (a.put o.dst (.bool (S k))) w) : wpList Tryz.prog ops Q (o :: rest) a w := by
  refine wpList_plain hg fun K' hK' => ?_
  have hrun := h.run k hk
  unfold Oper.wp
  simp [execOp, hop, hm, hx, hrun, Result.andThen]
  exact hK' _ _ hK

/-- n, was := m[i]. -/
theorem look_num_ok (w : World) (hg : o.guard = none) (m x : Operand) (hop : o.op = Op.lookup 126 m x true) (b n : Nat) (M : Nat → Option Nat) (hm : a.eval m = .map (some b)) (h : IsNum w b n M) (k : Nat) (hk : k < 9223372036854775808) (hx : a.eval x = .int .i64 (k : Int))
    (hK : wpList Tryz.prog ops Q rest (a.put o.dst (.tuple #[.int .i64 (((M k).getD 0 : Nat) : Int), .bool (M k).isSome])) w) : wpList Tryz.prog ops Q (o :: rest) a w := by
  refine wpList_plain hg fun K' hK' => ?_
  have hrun := h.run_ok k hk
  unfold Oper.wp
  simp [execOp, hop, hm, hx, hrun, Result.andThen]
  exact hK' _ _ hK

/-- m[i] = true. -/
theorem put_set (w : World) (hg : o.guard = none) (m x v : Operand) (hop : o.op = Op.mapUpdate 120 m x v) (b n : Nat) (S : Nat → Bool) (hm : a.eval m = .map (some b)) (h : IsSet w b n S) (hn : n < maxLen) (k : Nat) (hk : k < 9223372036854775808) (hx : a.eval x = .int .i64 (k : Int)) (hv : a.eval v = .bool true)
    (hK : ∀ w', IsSet w' b (n + 1) (fun j => if j = k then true else S j) → w.grownBy w' (some b) → wpList Tryz.prog ops Q rest (a.put o.dst undef) w') : wpList Tryz.prog ops Q (o :: rest) a w := by
  obtain ⟨D, h1, h2, h3, h4⟩ := h
  obtain ⟨es, hD, _⟩ := h1.entries keyI
  refine wpList_mapUpdate_own w hg m x v _ hop _ _ keyI Tryz.underlying120 _ b n D hm h1 hn _ _ _ hx hv (keyOfI hk) _ _ (plainElem_bool Tryz.underlying4 true) (fun w' h5 h6 => hK w' ⟨_, h5, ?_, ?_, ?_⟩ h6)
  · intro kl hkl
    by_cases e : kl = .int .i64 (k : Int)
    · exact ⟨k, e⟩
    · rw [has_put_other e] at hkl
      exact h2 kl hkl
  · intro j
    show Maps.has _ _ = (if j = k then true else S j)
    by_cases e : j = k
    · subst e
      rw [has_put_same ⟨es, hD⟩ (isKeyI j), if_pos rfl]
    · rw [has_put_other (litNe e), h3 j, if_neg e]
  · intro j hj z
    have hj : (if j = k then true else S j) = true := hj
    by_cases e : j = k
    · subst e
      rw [atKey_put_same ⟨es, hD⟩ (isKeyI j)]
    · rw [if_neg e] at hj
      rw [atKey_put_other (litNe e), h4 j hj]

/-- m[i] = n. -/
theorem put_num (w : World) (hg : o.guard = none) (m x v : Operand) (hop : o.op = Op.mapUpdate 126 m x v) (b n : Nat) (M : Nat → Option Nat) (hm : a.eval m = .map (some b)) (h : IsNum w b n M) (hn : n < maxLen) (k : Nat) (hk : k < 9223372036854775808) (hx : a.eval x = .int .i64 (k : Int)) (y : Nat) (hy : y < 9223372036854775808) (hv : a.eval v = .int .i64 (y : Int))
    (hK : ∀ w', IsNum w' b (n + 1) (fun j => if j = k then some y else M j) → w.grownBy w' (some b) → wpList Tryz.prog ops Q rest (a.put o.dst undef) w') : wpList Tryz.prog ops Q (o :: rest) a w := by
  obtain ⟨D, h1, h2, h3, h4⟩ := h
  obtain ⟨es, hD, _⟩ := h1.entries keyI
  refine wpList_mapUpdate_own w hg m x v _ hop _ _ keyI Tryz.underlying126 _ b n D hm h1 hn _ _ _ hx hv (keyOfI hk) _ _ (plainElem_int Tryz.underlying3 (wfNat hy)) (fun w' h5 h6 => hK w' ⟨_, h5, ?_, ?_, ?_⟩ h6)
  · intro kl hkl
    by_cases e : kl = .int .i64 (k : Int)
    · exact ⟨k, e⟩
    · rw [has_put_other e] at hkl
      exact h2 kl hkl
  · intro j
    show Maps.has _ _ = (if j = k then some y else M j).isSome
    by_cases e : j = k
    · subst e
      rw [has_put_same ⟨es, hD⟩ (isKeyI j), if_pos rfl]
      rfl
    · rw [has_put_other (litNe e), h3 j, if_neg e]
  · intro j u hj z
    have hj : (if j = k then some y else M j) = some u := hj
    by_cases e : j = k
    · subst e
      rw [if_pos rfl] at hj
      cases hj
      rw [atKey_put_same ⟨es, hD⟩ (isKeyI j)]
    · rw [if_neg e] at hj
      rw [atKey_put_other (litNe e), h4 j u hj]

/-- A set that is ranged over: what is still to come; how many. -/
def SetRun (w : World) (b r n : Nat) (S : Nat → Bool) (left : Nat → Bool) (cnt : Nat) : Prop :=
  ∃ (D : DataW Unit) (lf : Lit → Bool), w.ranges Tryz.prog 3 (plainElem Tryz.prog 4) b r n D lf cnt ∧ (∀ kl, Maps.has D kl = true → ∃ k : Nat, kl = .int .i64 (k : Int)) ∧ (∀ k : Nat, Maps.has D (.int .i64 (k : Int)) = S k) ∧ (∀ (k : Nat), S k = true → ∀ z, D.atKey (.int .i64 (k : Int)) z = .lit (.bool true)) ∧ (∀ k : Nat, left k = lf (.int .i64 (k : Int))) ∧ (∀ kl, lf kl = true → Maps.has D kl = true)
theorem SetRun.set {w : World} {b r n : Nat} {S left : Nat → Bool} {cnt : Nat} (h : SetRun w b r n S left cnt) : IsSet w b n S := by
  obtain ⟨D, lf, h1, h2, h3, h4, _⟩ := h
  exact ⟨D, h1.owns, h2, h3, h4⟩
theorem SetRun.kept {w w' : World} {b r n : Nat} {S left : Nat → Bool} {cnt : Nat} (h : SetRun w b r n S left cnt) {row : Option Nat} (hg : w.grownBy w' row) (hb' : some b ≠ row) (hr' : some r ≠ row) : SetRun w' b r n S left cnt := by
  obtain ⟨D, lf, h1, h2⟩ := h
  exact ⟨D, lf, h1.kept hg hb' hr', h2⟩
theorem SetRun.lt {w : World} {b r n : Nat} {S left : Nat → Bool} {cnt : Nat} (h : SetRun w b r n S left cnt) : b < w.heap.size ∧ r < w.heap.size := by
  obtain ⟨D, lf, h1, h2⟩ := h
  exact ⟨h1.owns.lt, h1.lt⟩
theorem SetRun.call {w w' : World} {b r n : Nat} {S left : Nat → Bool} {cnt : Nat} (h : SetRun w b r n S left cnt) (hb : Below w.heap.size w w') : SetRun w' b r n S left cnt :=
  h.kept (row := none) ⟨hb.os, hb.tape, hb.output, hb.size, fun i hi _ => hb.block i hi⟩ (by simp) (by simp)
theorem SetRun.left_eq {w : World} {b r n : Nat} {S left : Nat → Bool} {cnt : Nat} (h : SetRun w b r n S left cnt) : w.rangeLeft b r = cnt := by
  obtain ⟨D, lf, h1, h2⟩ := h
  exact h1.left_eq

/-- for i := range heads. -/
theorem range_set (w : World) (hg : o.guard = none) (m : Operand) (hop : o.op = Op.range 120 m) (b n : Nat) (S : Nat → Bool) (hm : a.eval m = .map (some b)) (h : IsSet w b n S)
    (hK : ∀ w' cnt, SetRun w' b w.heap.size n S S cnt → w.grownBy w' none → w'.heap.size = w.heap.size + 1 → wpList Tryz.prog ops Q rest (a.put o.dst (.pointer (some ⟨w.heap.size, 0, none⟩))) w') : wpList Tryz.prog ops Q (o :: rest) a w := by
  obtain ⟨D, h1, h2, h3, h4⟩ := h
  exact wpList_range_own w hg m _ hop _ _ keyI Tryz.underlying120 _ b n D hm h1 (fun w' h5 h6 h7 => hK w' _ ⟨D, _, h5, h2, h3, h4, fun k => (h3 k).symm, fun _ h => h⟩ h6 h7)

/-- The step. -/
theorem next_set (w : World) (hg : o.guard = none) (it : Operand) (hop : o.op = Op.next it false) (b r n : Nat) (S left : Nat → Bool) (cnt : Nat) (hit : a.eval it = .pointer (some ⟨r, 0, none⟩)) (h : SetRun w b r n S left cnt)
    (hDone : (∀ k, left k = false) → wpList Tryz.prog ops Q rest (a.put o.dst (.tuple #[.bool false])) w)
    (hMore : ∀ (k : Nat) (w' : World) (cnt' : Nat), left k = true → S k = true → SetRun w' b r n S (fun j => if j = k then false else left j) cnt' → cnt' < cnt → w.grownBy w' (some r) → w'.heap.size = w.heap.size → k < 9223372036854775808 →
      (Instr.entry (.pointer (some ⟨r, 0, none⟩))).run Tryz.prog w' = .ok (.tuple #[.int .i64 (k : Int), .bool true]) w' → wpList Tryz.prog ops Q rest (a.put o.dst (.tuple #[.bool true, .int .i64 (k : Int), .bool true])) w') :
    wpList Tryz.prog ops Q (o :: rest) a w := by
  obtain ⟨D, lf, h1, h2, h3, h4, h5, h6⟩ := h
  refine wpList_next_ranges w hg it hop _ keyI _ (Value.int .i64) Value.bool (fun key kl hkey => by obtain ⟨x, rfl, _⟩ := Maps.keyOf_int_inv Tryz.underlying3 hkey; exact ⟨x, rfl⟩) ?_ b r n D lf cnt hit h1 (fun _ hl => hDone fun k => by rw [h5 k]; exact hl _) ?_
  · intro v y hv
    exact plainElem_bool_some Tryz.underlying4 hv
  · intro x c kl y w' cnt' hkey hl hR hat hrg hlt hgr hsz hen
    obtain ⟨x', ex, rfl, hwx⟩ := Maps.keyOf_int_inv Tryz.underlying3 hkey
    cases ex
    have hh := h6 _ hl
    obtain ⟨k, ek⟩ := h2 _ hh
    simp only [Lit.int.injEq, true_and] at ek
    subst ek
    have hSk : S k = true := by rw [← h3 k]; exact hh
    have hc : c = true := by
      have e1 := hat (.lit (.bool true))
      rw [h4 k hSk] at e1
      rw [plainElem_bool Tryz.underlying4] at hR
      simp only [Option.some.injEq] at hR
      rw [← hR] at e1
      simpa using e1.symm
    subst hc
    have hk : k < 9223372036854775808 := by
      simp [Lit.wf, IntKind.min, IntKind.max, IntKind.bits, IntKind.signed] at hwx
      omega
    refine hMore k w' cnt' (by rw [h5 k]; exact hl) hSk ⟨D, _, hrg, h2, h3, h4, fun j => ?_, fun kl hkl => h6 kl (by simp at hkl; exact hkl.1)⟩ hlt hgr hsz hk hen
    show (if j = k then false else left j) = (lf _ && !_)
    by_cases e : j = k
    · subst e
      rw [if_pos rfl, WideAt.sameKey_self (isKeyI j)]
      simp
    · rw [if_neg e, h5 j, sameKey_ne (litNe e)]
      simp
end

end Go.Proofs.YtgohnekaolgblaaGreat

/- heap.place, names, fields, things: contracts. -/
namespace Go.Proofs.YtgohnekaolgblaaGreat
open Go.RowKit

theorem hpPlace (a : Int) (w : World) (h0 : 0 ≤ a) (h1 : a < 4294967296) : Calls Tryz.prog 36 #[.int .u32 a] w fun e w' => e = .returned (.bool (decide (Hp.place a))) ∧ w' = w := by
  have hm : bits .and .u32 a 7 = a % 8 := bits_mask .u32 a 3 (by decide)
  by_cases c1 : 8 ≤ a
  · by_cases c2 : a % 8 = 0
    · by_cases c3 : a ≤ 2147483648
      · rw [show decide (Hp.place a) = true by simpa using ⟨c1, c2, c3⟩]
        go_enter Tryz.func36, Tryz.ntmps36
        go_wp2
        go_returns
        exact ⟨rfl, rfl⟩
      · rw [show decide (Hp.place a) = false from decide_eq_false fun h => by have := h.2.2; omega]
        go_enter Tryz.func36, Tryz.ntmps36
        go_wp2
        go_returns
        exact ⟨rfl, rfl⟩
    · rw [show decide (Hp.place a) = false from decide_eq_false fun h => by have := h.2.1; omega]
      have c2' : (a % 8 == 0) = false := by simpa using c2
      go_enter Tryz.func36, Tryz.ntmps36
      go_wp2
      go_returns
      exact ⟨rfl, rfl⟩
  · rw [show decide (Hp.place a) = false from decide_eq_false fun h => by have := h.1; omega]
    go_enter Tryz.func36, Tryz.ntmps36
    go_wp2
    go_returns
    exact ⟨rfl, rfl⟩

/-- What names tells: the place, where the word is an address; else 0. -/
theorem hpNames (u a : Int) (w : World) (h0 : 0 ≤ u) (h1 : u < 4294967296) (k0 : 0 ≤ a) (k1 : a < 4294967296) : Calls Tryz.prog 56 #[.int .u32 u, .int .u32 a] w fun e w' => e = .returned (.tuple #[.int .i64 (((if Hp.isAdr a u = true then Hp.idx a u else 0 : Nat)) : Int), .bool (Hp.isAdr a u && Hp.whole a u)]) ∧ w' = w := by
  have hm : bits .and .u32 u 1 = u % 2 := bits_mask .u32 u 1 (by decide)
  have hm2 : bits .and .u32 (u - a) 3 = (u - a) % 4 := bits_mask .u32 (u - a) 2 (by decide)
  by_cases c1 : u % 2 = 1
  · rw [show Hp.isAdr a u = false by simp [Hp.isAdr]; omega]
    go_enter Tryz.func56, Tryz.ntmps56
    go_wp2
    go_returns
    exact ⟨rfl, rfl⟩
  · have c1' : (u % 2 == 1) = false := by simpa using c1
    by_cases c2 : u < a
    · rw [show Hp.isAdr a u = false by simp [Hp.isAdr]; omega]
      go_enter Tryz.func56, Tryz.ntmps56
      go_wp2
      go_returns
      exact ⟨rfl, rfl⟩
    · rw [show Hp.isAdr a u = true by simp [Hp.isAdr]; omega]
      have hi : ((Hp.idx a u : Nat) : Int) = (u - a) / 4 := by unfold Hp.idx; omega
      rw [if_pos rfl, hi, Bool.true_and]
      obtain ⟨b, hb⟩ : ∃ b, b = Hp.whole a u := ⟨_, rfl⟩
      rw [← hb]
      unfold Hp.whole at hb
      by_cases c3 : (u - a) % 4 = 0
      · obtain rfl : b = true := by rw [hb, c3]; rfl
        clear hb
        go_enter Tryz.func56, Tryz.ntmps56
        go_wp2
        go_returns
        exact ⟨rfl, rfl⟩
      · obtain rfl : b = false := by rw [hb]; simpa using c3
        clear hb
        have c3' : ((u - a) % 4 == 0) = false := by simpa using c3
        go_enter Tryz.func56, Tryz.ntmps56
        go_wp2
        go_returns
        exact ⟨rfl, rfl⟩

/-- A slice of what is seen: where its address is known, and where it is not looked at. -/
theorem Sees.cut {k : IntKind} {w : World} {b off : Nat} {xs : List Int} (h : ∀ j (hj : j < xs.length), w.cell? ⟨b, off + j, none⟩ = some (.int k xs[j])) (l n cap' : Nat) (A : Option Addr) (hA : 0 < n → A = some ⟨b, off + l, none⟩) (hl : l + n ≤ xs.length) (hc : n ≤ cap') (hm : cap' ≤ maxLen) :
    Sees k w (.slice A n cap') ((xs.drop l).take n) := by
  have e : ((xs.drop l).take n).length = n := by simp; omega
  refine ⟨A, cap', by rw [e], by rw [e]; exact hc, hm, fun hne => ?_⟩
  have hn : 0 < n := by rw [← e]; exact List.length_pos_iff.2 hne
  refine ⟨b, off + l, hA hn, fun j hj => ?_⟩
  rw [e] at hj
  have := h (l + j) (by omega)
  rw [Nat.add_assoc, this]
  simp

set_option maxHeartbeats 1000000 in
theorem hpFields (v : Value) (ls : List Int) (i : Nat) (w : World) (hv : Sees .u32 w v ls) (hr : ∀ x ∈ ls, 0 ≤ x ∧ x < 4294967296) (hh : Hp.Head ls i) :
    Calls Tryz.prog 57 #[v, .int .i64 (i : Int)] w fun e w' => ∃ o, e = .returned o ∧ Sees .u32 w o (Hp.fields ls i) ∧ w' = w := by
  obtain ⟨hlt, hyes, hfit⟩ := hh
  obtain ⟨hp1, hp2, hp3, hp4⟩ := Wd.words_pos hyes
  obtain ⟨A, c, rfl, h1, h2, h3⟩ := hv
  obtain ⟨b, off, rfl, hc⟩ := h3 (by intro e; subst e; simp at hlt)
  unfold maxLen at h2
  obtain ⟨h, hhd⟩ : ∃ h, h = ls[i] := ⟨_, rfl⟩
  have hrr := hr _ (List.getElem_mem hlt)
  have hci := hc i hlt
  rw [← hhd] at hrr hci hyes hfit hp1 hp2 hp3 hp4
  have hfe : Hp.fields ls i = if (Wd.unhead h).1 = 2 then [] else (ls.drop (i + 1)).take (Hp.sz h) := by
    unfold Hp.fields
    rw [List.getElem?_eq_getElem hlt, ← hhd]
  obtain ⟨kd, n, s0, ok, hun⟩ : ∃ kd n s0 ok, Wd.unhead h = (kd, n, s0, ok) := ⟨_, _, _, _, rfl⟩
  have hs0 := Wd.unhead_size h
  unfold Hp.sz at hfe hp3
  have HU : ∀ w, Calls Tryz.prog 86 #[.int .u32 h] w fun e w' => e = .returned (.tuple #[.int .i64 kd, .int .i64 n, .int .i64 s0, .bool ok]) ∧ w' = w := fun w => by
    have h := wdUnhead h w hrr.1 hrr.2
    rw [hun] at h
    exact h
  rw [hun] at hfe hs0 hp2 hp3
  simp only at hfe hs0 hp2 hp3
  replace HU := Lib.hid HU
  have HC := Lib.hid hc
  clear hun hhd hr hc h3
  by_cases hk : kd = 2
  · rw [if_pos hk] at hfe
    subst hk
    replace hfe := Lib.hid hfe
    go_enter Tryz.func57, Tryz.ntmps57
    go_wp2_with fail
    refine (HU.out _).mono ?_
    rintro _ w1 ⟨rfl, hw1⟩
    subst hw1
    go_wp2_with fail
    go_returns
    exact ⟨_, rfl, by rw [hfe.out]; exact Sees.nil _ _, rfl⟩
  · rw [if_neg hk] at hfe
    have hk' : (kd == 2) = false := by simpa using hk
    have hsz := hp3 hk
    obtain ⟨s, hs⟩ : ∃ s : Nat, s = s0.toNat := ⟨_, rfl⟩
    obtain rfl : s0 = (s : Int) := by omega
    rw [← hs] at hfe hsz
    clear hp3 hs
    by_cases hcq : c = i + 1
    · have hs00 : s = 0 := by omega
      subst hs00
      replace hfe := Lib.hid hfe
      go_enter Tryz.func57, Tryz.ntmps57
      go_wp2_with fail
      refine (HU.out _).mono ?_
      rintro _ w1 ⟨rfl, hw1⟩
      subst hw1
      go_wp2_with fail
      go_returns
      exact ⟨_, rfl, by rw [hfe.out]; simpa using Sees.cut HC.out (i + 1) 0 0 _ (by omega) (by omega) (by omega) (by simp), rfl⟩
    · replace hfe := Lib.hid hfe
      go_enter Tryz.func57, Tryz.ntmps57
      go_wp2_with fail
      refine (HU.out _).mono ?_
      rintro _ w1 ⟨rfl, hw1⟩
      subst hw1
      go_wp2_with fail
      go_returns
      refine ⟨_, rfl, ?_, rfl⟩
      rw [hfe.out]
      show Sees .u32 _ (.slice _ (i + 1 + s - (i + 1)) _) _
      rw [show i + 1 + s - (i + 1) = s by omega]
      exact Sees.cut HC.out (i + 1) s (c - (i + 1)) _ (by intro _; rfl) (by omega) (by omega) (by unfold maxLen; omega)

def ThingsPost (ls : List Int) (w w' : World) (v : Value) : Prop :=
  match Hp.heads ls with
  | none => v = .map none
  | some hs => ∃ b n, v = .map (some b) ∧ w.heap.size ≤ b ∧ n ≤ ls.length ∧ IsSet w' b n (Hp.mem hs)

set_option maxHeartbeats 2000000 in
set_option maxRecDepth 100000 in
theorem hpThings (v : Value) (ls : List Int) (w : World) (hv : Sees .u32 w v ls) (hr : ∀ x ∈ ls, 0 ≤ x ∧ x < 4294967296) :
    Calls Tryz.prog 54 #[v] w fun e w' => ∃ o, e = .returned (.tuple #[o, .bool (Hp.heads ls).isSome]) ∧ ThingsPost ls w w' o ∧ Below w.heap.size w w' := by
  obtain ⟨A, c, rfl, h1, h2, h3⟩ := hv
  unfold maxLen at h2
  obtain ⟨q, hq⟩ : ∃ q, q = Hp.heads ls := ⟨_, rfl⟩
  have hq0 : q = Hp.from ls 0 := by rw [hq]; rfl
  unfold ThingsPost
  rw [← hq]
  replace hq := Lib.hid hq
  replace hq0 := Lib.hid hq0
  replace h3 := Lib.hid h3
  replace hr := Lib.hid hr
  have hmm := @run_makeMap Tryz.prog
  go_enter Tryz.func54, Tryz.ntmps54
  go_wp2_with fail
  go_loopw [5] (fun p wr => ∃ (i n : Nat) (acc : List Nat), p = .int .i64 (i : Int) ∧ i ≤ ls.length ∧ n ≤ i ∧ IsSet wr w.heap.size n (Hp.mem acc) ∧ q = (Hp.from ls i).map (acc ++ ·) ∧ Below w.heap.size w wr)
    (fun p _ => ls.length - (intOf p).toNat)
  case atStart => exact ⟨0, 0, [], rfl, by omega, by omega, by rw [show Hp.mem [] = fun _ => false by funext k; simp [Hp.mem]]; exact IsSet.made w, by rw [hq0.out]; simp, (B.refl w).alloc (Nat.le_refl _) _⟩
  case round =>
    obtain ⟨i, n, acc, rfl, hi, hni, hset, hqe, hb⟩ := hrel
    by_cases hil : i < ls.length
    · obtain ⟨b, off, rfl, hc⟩ := h3.out (by intro e; subst e; simp at hil)
      have hci := cellK hb (hc i hil)
      have hri := hr.out _ (List.getElem_mem hil)
      obtain ⟨h, hh⟩ : ∃ h, h = ls[i] := ⟨_, rfl⟩
      have hbad := Hp.from_bad ls i hil
      have hnext := Hp.from_next ls i hil
      rw [← hh] at hci hri hbad hnext
      obtain ⟨wn, ok, hwd⟩ : ∃ wn ok, Wd.words h = (wn, ok) := ⟨_, _, rfl⟩
      have hpos := Wd.words_pos (h := h)
      unfold Hp.wn at hbad hnext hpos
      have HW : ∀ w, Calls Tryz.prog 85 #[.int .u32 h] w fun e w' => e = .returned (.tuple #[.int .i64 wn, .bool ok]) ∧ w' = w := fun w => by
        have h := wdWords h w hri.1 hri.2
        rw [hwd] at h
        exact h
      have hw0 : 0 ≤ wn ∧ wn ≤ 5000 := by
        have hs := Wd.unhead_size h
        have e : wn = (Wd.words h).1 := by rw [hwd]
        rw [e]
        unfold Wd.words
        split
        · split <;> simp only <;> omega
        · simp
      rw [hwd] at hbad hnext hpos
      simp only at hbad hnext hpos
      obtain ⟨m, rfl⟩ : ∃ m : Nat, wn = (m : Int) := ⟨wn.toNat, by omega⟩
      simp only [Int.toNat_natCast] at hbad hnext hpos
      replace HW := Lib.hid HW
      have HB := Lib.hid hb
      have HS := Lib.hid hset
      replace hqe := Lib.hid hqe
      replace hbad := Lib.hid hbad
      replace hnext := Lib.hid hnext
      clear hc hb hset hh hwd
      cases ok
      · have hn0 : q = none := by rw [hqe.out, hbad.out (.inl rfl)]; rfl
        clear hq hq0 hqe hbad hnext hpos
        subst hn0
        go_wp2_with fail
        refine (HW.out _).mono ?_
        rintro _ w1 ⟨rfl, hw1⟩
        subst hw1
        go_wp2_with fail
        go_returns
        exact ⟨_, rfl, rfl, HB.out⟩
      · by_cases hfit : ls.length < i + m
        · have hn0 : q = none := by rw [hqe.out, hbad.out (.inr hfit)]; rfl
          clear hq hq0 hqe hbad hnext hpos
          subst hn0
          go_wp2_with fail
          refine (HW.out _).mono ?_
          rintro _ w1 ⟨rfl, hw1⟩
          subst hw1
          go_wp2_with fail
          go_returns
          exact ⟨_, rfl, rfl, HB.out⟩
        · have hm1 := (hpos rfl).1
          clear hpos
          go_wp2_with fail
          refine (HW.out _).mono ?_
          rintro _ w1 ⟨rfl, hw1⟩
          subst hw1
          go_wp2_with (first | (at_mapUpdate; refine put_set _ rfl _ _ _ rfl w.heap.size n _ rfl HS.out (by unfold maxLen; omega) i (by omega) rfl rfl ?_; intro w2 hs2 hg2) | go_in)
          go_roundw
          case measure => simp only [intOf]; omega
          case rel =>
            refine ⟨i + m, n + 1, acc ++ [i], by simp, by omega, by omega, ?_, ?_, ?_⟩
            · have e : Hp.mem (acc ++ [i]) = fun j => if j = i then true else Hp.mem acc j := by
                funext j
                by_cases e : j = i <;> simp [Hp.mem, e]
              rw [e]
              exact hs2
            · rw [hqe.out, hnext.out trivial (by omega), Option.map_map]
              congr 1
              funext l
              simp
            · exact HB.out.grown hg2 (Nat.le_of_lt HS.out.lt) (fun j hj => by cases hj; exact Nat.le_refl _)
    · have hie : i = ls.length := by omega
      have hqs : q = some acc := by rw [hqe, Hp.from_end ls i (by omega)]; simp
      clear hq hq0 hqe
      subst hqs
      have HB := Lib.hid hb
      have HS := Lib.hid hset
      clear hb hset
      go_wp2_with fail
      go_returns
      exact ⟨_, rfl, ⟨w.heap.size, rfl, Nat.le_refl _, n, by omega, HS.out⟩, HB.out⟩

end Go.Proofs.YtgohnekaolgblaaGreat

/- heap.Check$1, Check: contracts. -/
namespace Go.Proofs.YtgohnekaolgblaaGreat
open Go.RowKit

theorem Hp.okws_fail {S : Nat → Bool} {a : Int} {ws : List Int} {i : Nat} (hi : i < ws.length) (h : Hp.okw S a ws[i] = false) : Hp.okws S a ws = false := by
  unfold Hp.okws
  rw [List.all_eq_false]
  exact ⟨_, List.getElem_mem hi, by rw [h]; simp⟩
theorem Hp.okws_take {S : Nat → Bool} {a : Int} {ws : List Int} {i : Nat} (hi : i < ws.length) (h : Hp.okws S a (ws.take i) = true) (h2 : Hp.okw S a ws[i] = true) : Hp.okws S a (ws.take (i + 1)) = true := by
  unfold Hp.okws at *
  rw [List.take_add_one, List.getElem?_eq_getElem hi, List.all_append, h]
  simp [h2]

set_option maxHeartbeats 1000000 in
set_option maxRecDepth 100000 in
theorem hpFine (v : Value) (ws : List Int) (S : Nat → Bool) (a : Int) (pa ph bm n : Nat) (w : World) (hv : Sees .u32 w v ws) (hr : ∀ x ∈ ws, 0 ≤ x ∧ x < 4294967296) (k0 : 0 ≤ a) (k1 : a < 4294967296) (hpa : w.cell? ⟨pa, 0, none⟩ = some (.int .u32 a)) (hph : w.cell? ⟨ph, 0, none⟩ = some (.map (some bm))) (hs : IsSet w bm n S) :
    Calls Tryz.prog 55 #[v, .pointer (some ⟨pa, 0, none⟩), .pointer (some ⟨ph, 0, none⟩)] w fun e w' => e = .returned (.bool (Hp.okws S a ws)) ∧ Below w.heap.size w w' := by
  obtain ⟨A, c, rfl, h1, h2, h3⟩ := hv
  unfold maxLen at h2
  obtain ⟨q, hq⟩ : ∃ q, q = Hp.okws S a ws := ⟨_, rfl⟩
  rw [← hq]
  replace hq := Lib.hid hq
  replace h3 := Lib.hid h3
  replace hr := Lib.hid hr
  have HS := Lib.hid hs
  have HPA := Lib.hid hpa
  have HPH := Lib.hid hph
  clear hs hpa hph
  go_enter Tryz.func55, Tryz.ntmps55
  go_wp2_with fail
  go_loopw [11] (fun p wr => ∃ (i : Nat), p = .int .i64 (i : Int) ∧ i ≤ ws.length ∧ Hp.okws S a (ws.take i) = true ∧ Below w.heap.size w wr)
    (fun p _ => ws.length - (intOf p).toNat)
  case atStart => exact ⟨0, rfl, by omega, by simp [Hp.okws], B.refl w⟩
  case round =>
    obtain ⟨i, rfl, hi, hpre, hb⟩ := hrel
    by_cases hil : i < ws.length
    · obtain ⟨b, off, rfl, hc⟩ := h3.out (by intro e; subst e; simp at hil)
      have hci := cellK hb (hc i hil)
      have hri := hr.out _ (List.getElem_mem hil)
      have hfail := Hp.okws_fail (S := S) (a := a) hil
      have hstep := Hp.okws_take hil hpre
      have cpa := cellK hb HPA.out
      have cph := cellK hb HPH.out
      have hset := HS.out.call hb
      obtain ⟨x, hx⟩ : ∃ x, x = ws[i] := ⟨_, rfl⟩
      rw [← hx] at hci hri hfail hstep
      have hm : bits .and .u32 x 1 = x % 2 := bits_mask .u32 x 1 (by decide)
      have HN0 := fun w => hpNames x a w hri.1 hri.2 k0 k1
      have hidx : Hp.idx a x < 4294967296 := by unfold Hp.idx; omega
      unfold Hp.okw at hfail hstep
      obtain ⟨ad, had⟩ : ∃ b, b = Hp.isAdr a x := ⟨_, rfl⟩
      obtain ⟨wh, hwh⟩ : ∃ b, b = Hp.whole a x := ⟨_, rfl⟩
      obtain ⟨k, hk⟩ : ∃ b, b = Hp.idx a x := ⟨_, rfl⟩
      rw [← had, ← hwh, ← hk] at HN0 hfail hstep
      rw [← hk] at hidx
      have HB := Lib.hid hb
      replace hpre := Lib.hid hpre
      replace hfail := Lib.hid hfail
      replace hstep := Lib.hid hstep
      clear hb hc hx hwh hk
      cases ad
      · have HN : ∀ w, Calls Tryz.prog 56 #[.int .u32 x, .int .u32 a] w fun e w' => e = .returned (.tuple #[.int .i64 0, .bool false]) ∧ w' = w := fun w => by simpa using HN0 w
        clear HN0
        replace HN := Lib.hid HN
        have hnot : x % 2 = 1 ∨ x < a := by
          unfold Hp.isAdr at had
          by_cases h : x % 2 = 1
          · exact .inl h
          · refine .inr ?_
            have h0 : x % 2 = 0 := by omega
            simp [h0] at had
            omega
        clear had
        by_cases hodd : x % 2 = 1
        · have hodd' : (x % 2 == 0) = false := by simp; omega
          go_wp2_with fail
          refine (HN.out _).mono ?_
          rintro _ w1 ⟨rfl, hw1⟩
          subst hw1
          go_wp2_with fail
          go_roundw
          case measure => simp only [intOf]; omega
          case rel => exact ⟨i + 1, by simp, by omega, hstep.out rfl, HB.out⟩
        · have hev : (x % 2 == 0) = true := by simp; omega
          have hlta : x < a := by omega
          go_wp2_with fail
          refine (HN.out _).mono ?_
          rintro _ w1 ⟨rfl, hw1⟩
          subst hw1
          go_wp2_with fail
          go_roundw
          case measure => simp only [intOf]; omega
          case rel => exact ⟨i + 1, by simp, by omega, hstep.out rfl, HB.out⟩
      · have HN : ∀ w, Calls Tryz.prog 56 #[.int .u32 x, .int .u32 a] w fun e w' => e = .returned (.tuple #[.int .i64 (k : Int), .bool wh]) ∧ w' = w := fun w => by simpa using HN0 w
        clear HN0
        replace HN := Lib.hid HN
        have hyes : x % 2 = 0 ∧ a ≤ x := by
          unfold Hp.isAdr at had
          simpa using had.symm
        have hev : (x % 2 == 0) = true := by simp; omega
        obtain ⟨_, hge⟩ := hyes
        clear had
        have hlook := fun w' (h : Below w.heap.size w w') => IsSet.run (HS.out.call h) k (by omega)
        cases wh
        · have hno := hfail.out rfl
          rw [← hq.out] at hno
          subst hno
          clear hfail hstep hpre
          go_wp2_with fail
          refine (HN.out _).mono ?_
          rintro _ w1 ⟨rfl, hw1⟩
          subst hw1
          go_wp2_with fail
          go_returns
          exact ⟨rfl, HB.out⟩
        · have hlk := hlook _ HB.out
          clear hlook
          obtain ⟨s, hse⟩ : ∃ s, s = S k := ⟨_, rfl⟩
          rw [← hse] at hlk hfail hstep
          clear hse
          cases s
          · have hno := hfail.out rfl
            rw [← hq.out] at hno
            subst hno
            clear hfail hstep hpre
            go_wp2_with fail
            refine (HN.out _).mono ?_
            rintro _ w1 ⟨rfl, hw1⟩
            subst hw1
            go_wp2_with fail
            go_returns
            exact ⟨rfl, HB.out⟩
          · go_wp2_with fail
            refine (HN.out _).mono ?_
            rintro _ w1 ⟨rfl, hw1⟩
            subst hw1
            go_wp2_with fail
            go_roundw
            case measure => simp only [intOf]; omega
            case rel => exact ⟨i + 1, by simp, by omega, hstep.out rfl, HB.out⟩
    · have hie : i = ws.length := by omega
      have hyes : q = true := by rw [hq.out, ← hpre, List.take_of_length_le (by omega)]
      subst hyes
      have HB := Lib.hid hb
      clear hb hpre
      go_wp2_with fail
      go_returns
      exact ⟨rfl, HB.out⟩

end Go.Proofs.YtgohnekaolgblaaGreat

/- heap.Check: contract. -/
namespace Go.Proofs.YtgohnekaolgblaaGreat
open Go.RowKit

theorem VB.grownRow {w w' : World} {t : Nat} {T : TypeId} {cs : Array Value} (h : VB w t T cs) {row : Option Nat} (hg : w.grownBy w' row) (hne : some t ≠ row) : VB w' t T cs := (hg.block t h.lt hne).trans h

theorem grownNone_below {w w' : World} (hg : w.grownBy w' none) : Below w.heap.size w w' := ⟨hg.os, hg.tape, hg.output, hg.size, fun i hi => hg.block i hi (by simp)⟩

theorem Hp.fields_range {ls : List Int} (hr : ∀ x ∈ ls, 0 ≤ x ∧ x < 4294967296) (i : Nat) : ∀ x ∈ Hp.fields ls i, 0 ≤ x ∧ x < 4294967296 := by
  intro x hx
  unfold Hp.fields at hx
  split at hx
  · cases hx
  · split at hx
    · cases hx
    · exact hr x (List.mem_of_mem_drop (List.mem_of_mem_take hx))

set_option maxHeartbeats 2000000 in
set_option maxRecDepth 100000 in
theorem hpCheckMain (vl vr : Value) (ls rs : List Int) (a : Int) (w : World) (hs : List Nat) (hhs : Hp.heads ls = some hs) (hl : Sees .u32 w vl ls) (hlr : ∀ x ∈ ls, 0 ≤ x ∧ x < 4294967296) (hv : Sees .u32 w vr rs) (hrr : ∀ x ∈ rs, 0 ≤ x ∧ x < 4294967296) (k0 : 0 ≤ a) (k1 : a < 4294967296) (hp : Hp.place a) (hn1 : ls.length ≤ 65536) (hn2 : rs.length ≤ 4096)
    (r : Int) (hr : r = if Hp.okws (Hp.mem hs) a rs = true ∧ ∀ i ∈ hs, Hp.okws (Hp.mem hs) a (Hp.fields ls i) = true then 0 else 2) :
    Calls Tryz.prog 34 #[vl, .int .u32 a, vr] w fun e w' => e = .returned (.int .i64 r) ∧ Below w.heap.size w w' := by
  obtain ⟨A1, c1, rfl, l1, l2⟩ := hl.len
  obtain ⟨A2, c2, rfl, l3, l4⟩ := hv.len
  unfold maxLen at l2 l4
  have HT := Lib.hid fun w' (h : Below w.heap.size w w') => hpThings _ ls w' (hl.below h (Nat.le_refl _)) hlr
  have HR := Lib.hid fun w' (h : Below w.heap.size w w') S bm n pa ph (hpa : w'.cell? ⟨pa, 0, none⟩ = some (.int .u32 a)) (hph : w'.cell? ⟨ph, 0, none⟩ = some (.map (some bm))) (hset : IsSet w' bm n S) => hpFine _ rs S a pa ph bm n w' (hv.below h (Nat.le_refl _)) hrr k0 k1 hpa hph hset
  have HF := Lib.hid fun w' (h : Below w.heap.size w w') i (hi : i ∈ hs) => hpFields _ ls i w' (hl.below h (Nat.le_refl _)) hlr (Hp.heads_head hhs hi)
  have HG := Lib.hid fun w' (v : Value) i (hv : Sees .u32 w' v (Hp.fields ls i)) S bm n pa ph (hpa : w'.cell? ⟨pa, 0, none⟩ = some (.int .u32 a)) (hph : w'.cell? ⟨ph, 0, none⟩ = some (.map (some bm))) (hset : IsSet w' bm n S) => hpFine v _ S a pa ph bm n w' hv (Hp.fields_range hlr i) k0 k1 hpa hph hset
  have HP := Lib.hid fun w' => hpPlace a w' k0 k1
  rw [show decide (Hp.place a) = true by simpa using hp] at HP
  obtain ⟨q, hq⟩ : ∃ q, q = Hp.okws (Hp.mem hs) a rs := ⟨_, rfl⟩
  rw [← hq] at hr
  replace hq := Lib.hid hq
  replace hr := Lib.hid hr
  replace hhs := Lib.hid hhs
  clear hl hv hlr hrr hp
  go_enter Tryz.func34, Tryz.ntmps34
  go_wp2_with fail
  refine (HT.out _ (B.alloc (B.refl w) _)).mono ?_
  rintro _ w1 ⟨o1, rfl, t1, b1⟩
  unfold ThingsPost at t1
  rw [hhs.out] at t1 ⊢
  obtain ⟨bm, n, rfl, hbm, hnl, hset⟩ := t1
  have BB1 := B.call (B.alloc (B.refl w) (.cells #[.int .u32 a] 22)) b1
  have PA1 := (VB.new w 22 #[.int .u32 a]).call b1
  have hbml := hset.lt
  have SE2 := Lib.hid (hset.alloc (.cells #[.map (some bm)] 120))
  have PA2 := Lib.hid (PA1.alloc (.cells #[.map (some bm)] 120))
  have PH2 := Lib.hid (VB.new w1 120 #[.map (some bm)])
  have BB2 := Lib.hid (B.alloc BB1 (.cells #[.map (some bm)] 120))
  have pa0 := PA2.out.cell 0
  simp at pa0
  have ph0 : World.cell? _ ⟨w1.heap.size, 0, none⟩ = some (.map (some bm)) := PH2.out.cell 0
  have hz1 := BB1.size
  have hz1' : w.heap.size < w1.heap.size := PA1.lt
  simp only [World.size_alloc] at hbm
  clear b1 BB1 PA1 hset
  go_wp2_with fail
  refine (HP.out _).mono ?_
  rintro _ w2 ⟨rfl, hw2⟩
  subst hw2
  go_wp2_with fail
  refine (HR.out _ BB2.out _ bm n _ _ pa0 ph0 SE2.out).mono ?_
  rintro _ w3 ⟨rfl, b3⟩
  rw [← hq.out]
  have SE3 := Lib.hid (SE2.out.call b3)
  have PA3 := Lib.hid (PA2.out.call b3)
  have PH3 := Lib.hid (PH2.out.call b3)
  have BB3 := Lib.hid (B.call BB2.out b3)
  have p3 := PH3.out.cell 0
  simp at p3
  have hz3 := PH3.out.lt
  have hz4 := SE3.out.lt
  clear pa0 ph0 SE2 PA2 PH2 BB2 b3
  go_wp2_with (first | (at_range; refine range_set _ rfl _ rfl bm n (Hp.mem hs) rfl SE3.out ?_; intro w4 cnt4 sr4 g4 hz4') | go_in)
  go_frame
  have PA4 := Lib.hid (PA3.out.grownRow g4 (by simp))
  have PH4 := Lib.hid (PH3.out.grownRow g4 (by simp))
  have BB4 := Lib.hid (B.call BB3.out (grownNone_below g4))
  go_loopw [8] (fun p wr => ∃ (okv : Bool) (left : Nat → Bool) (cnt : Nat), p = .bool okv ∧ SetRun wr bm w3.heap.size n (Hp.mem hs) left cnt ∧ (okv = true ↔ q = true ∧ ∀ k, k ∈ hs → left k = false → Hp.okws (Hp.mem hs) a (Hp.fields ls k) = true) ∧ VB wr w.heap.size 22 #[.int .u32 a] ∧ VB wr w1.heap.size 120 #[.map (some bm)] ∧ Below w.heap.size w wr)
    (fun _ wr => wr.rangeLeft bm w3.heap.size)
  case atStart => exact ⟨q, _, cnt4, rfl, sr4, ⟨fun h => ⟨h, fun k hk hl => by simp [Hp.mem, hk] at hl⟩, fun h => h.1⟩, PA4.out, PH4.out, BB4.out⟩
  case round =>
    obtain ⟨okv, left, cnt, rfl, sr, hok, pa, ph, bb⟩ := hrel
    have SR := Lib.hid sr
    have PA := Lib.hid pa
    have PH := Lib.hid ph
    have BB := Lib.hid bb
    replace hok := Lib.hid hok
    have hrne : w3.heap.size ≠ bm := by omega
    clear sr pa ph bb PA4 PH4 BB4 sr4
    go_wp2_with (first | (at_next; refine next_set _ rfl _ rfl bm w3.heap.size n (Hp.mem hs) left cnt rfl SR.out ?_ ?_) | go_in)
    · intro hl0
      have hres : r = if okv = true then 0 else 2 := by
        rw [hr.out]
        congr 1
        rw [hok.out]
        exact propext ⟨fun h => ⟨h.1, fun k hk _ => h.2 k hk⟩, fun h => ⟨h.1, fun k hk => h.2 k hk (hl0 k)⟩⟩
      clear hr hok
      cases okv
      · obtain rfl : r = 2 := by rw [hres]; rfl
        clear hres
        go_wp2_with fail
        go_returns
        exact ⟨rfl, BB.out⟩
      · obtain rfl : r = 0 := by rw [hres]; rfl
        clear hres
        go_wp2_with fail
        go_returns
        exact ⟨rfl, BB.out⟩
    · intro k w5 cnt5 hlk hSk sr5 hlt g5 hs5 hk63 hen
      have hkm : k ∈ hs := by simpa [Hp.mem] using hSk
      have PA5 := Lib.hid (PA.out.grownRow g5 (by simp; omega))
      have PH5 := Lib.hid (PH.out.grownRow g5 (by simp; omega))
      have BB5 : Below w.heap.size w w5 := BB.out.grown g5 BB.out.size (fun j hj => by cases hj; omega)
      have SR5 := Lib.hid sr5
      have pa5 := PA5.out.cell 0
      have ph5 := PH5.out.cell 0
      simp at pa5 ph5
      have hFK := fun w' h => HF.out w' h k hkm
      replace BB5 := Lib.hid BB5
      clear sr5
      cases okv
      · have hno : ¬ (q = true ∧ ∀ k, k ∈ hs → left k = false → Hp.okws (Hp.mem hs) a (Hp.fields ls k) = true) := by rw [← hok.out]; simp
        go_wp2_with fail
        go_roundw
        case measure => rw [SR5.out.left_eq, SR.out.left_eq]; omega
        case rel =>
          refine ⟨false, _, cnt5, rfl, SR5.out, ⟨fun h => (by cases h), fun h => absurd ⟨h.1, fun j hj hl => h.2 j hj (by simp [hl])⟩ hno⟩, PA5.out, PH5.out, BB5.out⟩
      · have hyes := hok.out.1 rfl
        replace hyes := Lib.hid hyes
        go_wp2_with fail
        refine (hFK _ BB5.out).mono ?_
        rintro _ w6 ⟨o6, rfl, s6, hw6⟩
        subst hw6
        go_wp2_with fail
        refine (HG.out _ _ _ s6 _ bm n _ _ pa5 ph5 SR5.out.set).mono ?_
        rintro _ w7 ⟨rfl, b7⟩
        go_wp2_with fail
        go_roundw
        case measure => rw [(SR5.out.call b7).left_eq, SR.out.left_eq]; omega
        case rel =>
          refine ⟨_, _, cnt5, rfl, SR5.out.call b7, ⟨fun h => ⟨hyes.out.1, fun j hj hl => ?_⟩, fun h => h.2 k hkm (by simp)⟩, PA5.out.call b7, PH5.out.call b7, B.call BB5.out b7⟩
          by_cases e : j = k
          · subst e; exact h
          · exact hyes.out.2 j hj (by simpa [e] using hl)

/-- heap.Check. -/
theorem hpCheck (vl vr : Value) (ls rs : List Int) (a : Int) (w : World) (hl : Sees .u32 w vl ls) (hlr : ∀ x ∈ ls, 0 ≤ x ∧ x < 4294967296) (hv : Sees .u32 w vr rs) (hrr : ∀ x ∈ rs, 0 ≤ x ∧ x < 4294967296) (k0 : 0 ≤ a) (k1 : a < 4294967296) :
    Calls Tryz.prog 34 #[vl, .int .u32 a, vr] w fun e w' => e = .returned (.int .i64 (Hp.chk ls a rs)) ∧ Below w.heap.size w w' := by
  by_cases hmany : 65536 < ls.length ∨ 4096 < rs.length
  · obtain ⟨A1, c1, rfl, l1, l2⟩ := hl.len
    obtain ⟨A2, c2, rfl, l3, l4⟩ := hv.len
    unfold maxLen at l2 l4
    unfold Hp.chk
    rw [if_pos hmany]
    by_cases h1 : 65536 < ls.length
    · go_enter Tryz.func34, Tryz.ntmps34
      go_wp2_with fail
      go_returns
      exact ⟨rfl, B.alloc (B.refl w) _⟩
    · have h2 : 4096 < rs.length := by omega
      go_enter Tryz.func34, Tryz.ntmps34
      go_wp2_with fail
      go_returns
      exact ⟨rfl, B.alloc (B.refl w) _⟩
  · have hn1 : ls.length ≤ 65536 := by omega
    have hn2 : rs.length ≤ 4096 := by omega
    unfold Hp.chk
    rw [if_neg hmany]
    cases hhs : Hp.heads ls with
    | some hs =>
      simp only
      by_cases hp : Hp.place a
      · refine hpCheckMain vl vr ls rs a w hs hhs hl hlr hv hrr k0 k1 hp hn1 hn2 _ ?_
        by_cases h : Hp.okws (Hp.mem hs) a rs = true ∧ ∀ i ∈ hs, Hp.okws (Hp.mem hs) a (Hp.fields ls i) = true
        · rw [if_pos h, if_pos ⟨hp, h⟩]
        · rw [if_neg h, if_neg (fun h' => h h'.2)]
      · rw [if_neg (fun h => hp h.1)]
        obtain ⟨A1, c1, rfl, l1, l2⟩ := hl.len
        obtain ⟨A2, c2, rfl, l3, l4⟩ := hv.len
        unfold maxLen at l2 l4
        have HT := Lib.hid fun w' (h : Below w.heap.size w w') => hpThings _ ls w' (hl.below h (Nat.le_refl _)) hlr
        have HP := Lib.hid fun w' => hpPlace a w' k0 k1
        rw [show decide (Hp.place a) = false by simpa using hp] at HP
        clear hp hmany
        replace hhs := Lib.hid hhs
        go_enter Tryz.func34, Tryz.ntmps34
        go_wp2_with fail
        refine (HT.out _ (B.alloc (B.refl w) _)).mono ?_
        rintro _ w1 ⟨o1, rfl, t1, b1⟩
        unfold ThingsPost at t1
        rw [hhs.out] at t1 ⊢
        obtain ⟨bm, n, rfl, hbm, hnl, hset⟩ := t1
        have BB1 := B.call (B.alloc (B.refl w) (.cells #[.int .u32 a] 22)) b1
        have pa0 := (((VB.new w 22 #[.int .u32 a]).call b1).alloc (.cells #[.map (some bm)] 120)).cell 0
        simp at pa0
        replace BB1 := Lib.hid BB1
        clear hset b1
        go_wp2_with fail
        refine (HP.out _).mono ?_
        rintro _ w2 ⟨rfl, hw2⟩
        subst hw2
        go_wp2_with fail
        go_returns
        exact ⟨rfl, B.alloc BB1.out _⟩
    | none =>
      simp only
      obtain ⟨A1, c1, rfl, l1, l2⟩ := hl.len
      obtain ⟨A2, c2, rfl, l3, l4⟩ := hv.len
      unfold maxLen at l2 l4
      have HT := Lib.hid fun w' (h : Below w.heap.size w w') => hpThings _ ls w' (hl.below h (Nat.le_refl _)) hlr
      clear hmany
      replace hhs := Lib.hid hhs
      go_enter Tryz.func34, Tryz.ntmps34
      go_wp2_with fail
      refine (HT.out _ (B.alloc (B.refl w) _)).mono ?_
      rintro _ w1 ⟨o1, rfl, t1, b1⟩
      unfold ThingsPost at t1
      rw [hhs.out] at t1 ⊢
      subst t1
      have BB1 := B.call (B.alloc (B.refl w) (.cells #[.int .u32 a] 22)) b1
      replace BB1 := Lib.hid BB1
      clear b1
      go_wp2_with fail
      go_returns
      exact ⟨rfl, B.alloc BB1.out _⟩

end Go.Proofs.YtgohnekaolgblaaGreat

/- Values with values in them, as trees: how they lie in memory; what stays of them. -/
namespace Go.Proofs.YtgohnekaolgblaaGreat
open Go.RowKit

inductive Tr where
  | mk (k n : Int) (s : ByteArray) (l : List Tr)

def Tr.k : Tr → Int | .mk k _ _ _ => k
def Tr.n : Tr → Int | .mk _ n _ _ => n
def Tr.s : Tr → ByteArray | .mk _ _ s _ => s
def Tr.l : Tr → List Tr | .mk _ _ _ l => l

mutual
/-- The value v is the tree t, whose parts lie in blocks of a set. -/
def Tr.at (S : Nat → Nat → Prop) (w : World) : Tr → Value → Prop
  | .mk k n s l, v => ∃ A cap, v = .agg #[.int .i64 k, .int .i64 n, .string s, .slice A l.length cap] ∧ l.length ≤ cap ∧ cap ≤ maxLen ∧ (l ≠ [] → ∃ b off, A = some ⟨b, off, none⟩ ∧ S b off ∧ Tr.ats S w l b off)
/-- From a place on, trees lie one behind the other. -/
def Tr.ats (S : Nat → Nat → Prop) (w : World) : List Tr → Nat → Nat → Prop
  | [], _, _ => True
  | t :: l, b, off => (∃ v0 v1 v2 v3, w.cell? ⟨b, off, none⟩ = some v0 ∧ w.cell? ⟨b, off + 1, none⟩ = some v1 ∧ w.cell? ⟨b, off + 2, none⟩ = some v2 ∧ w.cell? ⟨b, off + 3, none⟩ = some v3 ∧ Tr.at S w t (.agg #[v0, v1, v2, v3])) ∧ Tr.ats S w l b (off + 4)
end

theorem Tr.at_mk {S : Nat → Nat → Prop} {w : World} {k n : Int} {s : ByteArray} {l : List Tr} {v : Value} : Tr.at S w (.mk k n s l) v ↔ ∃ A cap, v = .agg #[.int .i64 k, .int .i64 n, .string s, .slice A l.length cap] ∧ l.length ≤ cap ∧ cap ≤ maxLen ∧ (l ≠ [] → ∃ b off, A = some ⟨b, off, none⟩ ∧ S b off ∧ Tr.ats S w l b off) := by rw [Tr.at]

theorem Tr.ind {P : Tr → Prop} (h : ∀ k n s l, (∀ t ∈ l, P t) → P (.mk k n s l)) (t : Tr) : P t :=
  Tr.rec (motive_1 := P) (motive_2 := fun l => ∀ t ∈ l, P t) (fun k n s l hl => h k n s l hl) (fun t ht => by cases ht)
    (fun x l hx hl t ht => by
      rcases List.mem_cons.1 ht with rfl | ht
      · exact hx
      · exact hl t ht) t

theorem Tr.ats_get {S : Nat → Nat → Prop} {w : World} {b : Nat} : ∀ {l : List Tr} {off : Nat}, Tr.ats S w l b off → ∀ i, (hi : i < l.length) →
    ∃ v0 v1 v2 v3, w.cell? ⟨b, off + i * 4, none⟩ = some v0 ∧ w.cell? ⟨b, off + i * 4 + 1, none⟩ = some v1 ∧ w.cell? ⟨b, off + i * 4 + 2, none⟩ = some v2 ∧ w.cell? ⟨b, off + i * 4 + 3, none⟩ = some v3 ∧ Tr.at S w l[i] (.agg #[v0, v1, v2, v3])
  | [], _, _, i, hi => absurd hi (by simp)
  | t :: l, off, h, 0, _ => by
    rw [Tr.ats] at h
    exact h.1
  | t :: l, off, h, i + 1, hi => by
    rw [Tr.ats] at h
    obtain ⟨v0, v1, v2, v3, h0, h1, h2, h3, ha⟩ := Tr.ats_get h.2 i (by simpa using hi)
    have e : off + 4 + i * 4 = off + (i + 1) * 4 := by omega
    rw [e] at h0 h1 h2 h3
    exact ⟨v0, v1, v2, v3, h0, h1, h2, h3, ha⟩

theorem Tr.ats_of {S : Nat → Nat → Prop} {w : World} {b : Nat} : ∀ {l : List Tr} {off : Nat}, (∀ i, (hi : i < l.length) →
    ∃ v0 v1 v2 v3, w.cell? ⟨b, off + i * 4, none⟩ = some v0 ∧ w.cell? ⟨b, off + i * 4 + 1, none⟩ = some v1 ∧ w.cell? ⟨b, off + i * 4 + 2, none⟩ = some v2 ∧ w.cell? ⟨b, off + i * 4 + 3, none⟩ = some v3 ∧ Tr.at S w l[i] (.agg #[v0, v1, v2, v3])) → Tr.ats S w l b off
  | [], _, _ => by rw [Tr.ats]; trivial
  | t :: l, off, h => by
    rw [Tr.ats]
    refine ⟨h 0 (by simp), Tr.ats_of fun i hi => ?_⟩
    obtain ⟨v0, v1, v2, v3, h0, h1, h2, h3, ha⟩ := h (i + 1) (by simpa using hi)
    have e : off + (i + 1) * 4 = off + 4 + i * 4 := by omega
    rw [e] at h0 h1 h2 h3
    exact ⟨v0, v1, v2, v3, h0, h1, h2, h3, ha⟩

/-- A tree lies wherever the cells of its blocks are the same. -/
theorem Tr.at_keep {S S' : Nat → Nat → Prop} {w w' : World} (hS : ∀ b off, S b off → S' b off) (hc : ∀ b off o u, S b off → w.cell? ⟨b, o, none⟩ = some u → w'.cell? ⟨b, o, none⟩ = some u) : ∀ t v, Tr.at S w t v → Tr.at S' w' t v := by
  intro t
  refine Tr.ind (P := fun t => ∀ v, Tr.at S w t v → Tr.at S' w' t v) ?_ t
  intro k n s l ih v h
  rw [Tr.at_mk] at h ⊢
  obtain ⟨A, cap, rfl, h1, h2, h3⟩ := h
  refine ⟨A, cap, rfl, h1, h2, fun hne => ?_⟩
  obtain ⟨b, off, rfl, hb, ha⟩ := h3 hne
  refine ⟨b, off, rfl, hS b off hb, Tr.ats_of fun i hi => ?_⟩
  obtain ⟨v0, v1, v2, v3, c0, c1, c2, c3, ha⟩ := Tr.ats_get ha i hi
  exact ⟨v0, v1, v2, v3, hc _ _ _ _ hb c0, hc _ _ _ _ hb c1, hc _ _ _ _ hb c2, hc _ _ _ _ hb c3, ih _ (List.getElem_mem hi) _ ha⟩

theorem Tr.at_below {S : Nat → Nat → Prop} {C : Nat} {w w' : World} {t : Tr} {v : Value} (h : Tr.at S w t v) (hb : Below C w w') (hC : ∀ b off, S b off → b < C) : Tr.at S w' t v :=
  Tr.at_keep (fun _ _ h => h) (fun b off o _ hlt hc => (hb.cell (p := ⟨b, o, none⟩) (hC b off hlt)).trans hc) t v h
theorem Tr.at_mono {S S' : Nat → Nat → Prop} {w : World} {t : Tr} {v : Value} (h : Tr.at S w t v) (hS : ∀ b off, S b off → S' b off) : Tr.at S' w t v := Tr.at_keep hS (fun _ _ _ _ _ hc => hc) t v h
theorem Tr.at_alloc {S : Nat → Nat → Prop} {w : World} {t : Tr} {v : Value} (h : Tr.at S w t v) (o : Obj) : Tr.at S (w.alloc o) t v :=
  Tr.at_keep (fun _ _ h => h) (fun _ _ _ _ _ hc => cellA hc o) t v h

/-- What a value is: its fields. -/
theorem Tr.at_agg {S : Nat → Nat → Prop} {w : World} {t : Tr} {v : Value} (h : Tr.at S w t v) : ∃ A cap, v = .agg #[.int .i64 t.k, .int .i64 t.n, .string t.s, .slice A t.l.length cap] ∧ t.l.length ≤ cap ∧ cap ≤ maxLen ∧ (t.l ≠ [] → ∃ b off, A = some ⟨b, off, none⟩ ∧ S b off ∧ Tr.ats S w t.l b off) := by
  obtain ⟨k, n, s, l⟩ := t
  rwa [Tr.at_mk] at h

/-- New blocks, and what stands in some of the old ones may have turned. -/
structure GrowS (S : Nat → Prop) (w w' : World) : Prop where
  os : w'.os = w.os
  tape : w'.tape = w.tape
  output : w'.output = w.output
  size : w.heap.size ≤ w'.heap.size
  block : ∀ k, k < w.heap.size → ¬ S k → w'.heap[k]? = w.heap[k]?

theorem GrowS.refl (S : Nat → Prop) (w : World) : GrowS S w w := ⟨rfl, rfl, rfl, Nat.le_refl _, fun _ _ _ => rfl⟩
theorem GrowS.trans {S : Nat → Prop} {a b c : World} (h : GrowS S a b) (k : GrowS S b c) : GrowS S a c :=
  ⟨k.os.trans h.os, k.tape.trans h.tape, k.output.trans h.output, Nat.le_trans h.size k.size, fun i hi hn => (k.block i (Nat.lt_of_lt_of_le hi h.size) hn).trans (h.block i hi hn)⟩
theorem GrowS.set {S : Nat → Prop} {a w : World} (h : GrowS S a w) {b i : Nat} (hS : S b) (u : Value) : GrowS S a (w.setCell ⟨b, i, none⟩ u) :=
  ⟨h.os, h.tape, h.output, by simpa [World.setCell] using h.size, fun k hk hn => (Below.heap_setCell w ⟨b, i, none⟩ u k (fun e => hn (by rw [e]; exact hS))).trans (h.block k hk hn)⟩
theorem GrowS.setNew {S : Nat → Prop} {a w : World} (h : GrowS S a w) {b i : Nat} (hS : a.heap.size ≤ b) (u : Value) : GrowS S a (w.setCell ⟨b, i, none⟩ u) :=
  ⟨h.os, h.tape, h.output, by simpa [World.setCell] using h.size, fun k hk hn => (Below.heap_setCell w ⟨b, i, none⟩ u k (by simp only; omega)).trans (h.block k hk hn)⟩
theorem GrowS.alloc {S : Nat → Prop} {a w : World} (h : GrowS S a w) (o : Obj) : GrowS S a (w.alloc o) :=
  ⟨h.os, h.tape, h.output, by simpa using Nat.le_succ_of_le h.size, fun k hk hn => (Below.heap_alloc w o k (by have := h.size; omega)).trans (h.block k hk hn)⟩
theorem GrowS.drew {S : Nat → Prop} {a w : World} (h : GrowS S a w) : GrowS S a w.drew := ⟨h.os, h.tape, h.output, h.size, h.block⟩
theorem GrowS.below {S : Nat → Prop} {a w w' : World} (h : GrowS S a w) (hb : Below w.heap.size w w') : GrowS S a w' :=
  ⟨hb.os.trans h.os, hb.tape.trans h.tape, hb.output.trans h.output, Nat.le_trans h.size hb.size, fun k hk hn => (hb.block k (by have := h.size; omega)).trans (h.block k hk hn)⟩
theorem GrowS.mono {S S' : Nat → Prop} {a w : World} (h : GrowS S a w) (hS : ∀ k, k < a.heap.size → S k → S' k) : GrowS S' a w :=
  ⟨h.os, h.tape, h.output, h.size, fun k hk hn => h.block k hk (fun hs => hn (hS k hk hs))⟩
theorem GrowS.toBelow {S : Nat → Prop} {a w : World} (h : GrowS S a w) {B : Nat} (hB : B ≤ a.heap.size) (hS : ∀ k, S k → B ≤ k) : Below B a w :=
  ⟨h.os, h.tape, h.output, h.size, fun k hk => h.block k (by omega) (fun hs => by have := hS k hs; omega)⟩
/-- A tree stays whose blocks are old and do not turn. -/
theorem Tr.at_grow {S : Nat → Nat → Prop} {T : Nat → Prop} {a w : World} {t : Tr} {v : Value} (h : Tr.at S a t v) (hg : GrowS T a w) (hS : ∀ b off, S b off → b < a.heap.size ∧ ¬ T b) : Tr.at S w t v :=
  Tr.at_keep (fun _ _ h => h) (fun b off o _ hb hc => by
    have e := hg.block b (hS b off hb).1 (hS b off hb).2
    rw [← hc]
    exact World.cell?_of_block (w := a) e) t v h
theorem GrowS.vb {S : Nat → Prop} {a w : World} (h : GrowS S a w) {t : Nat} {T : TypeId} {cs : Array Value} (hv : VB a t T cs) (hn : ¬ S t) : VB w t T cs := (h.block t hv.lt hn).trans hv

end Go.Proofs.YtgohnekaolgblaaGreat

/- word.may: contract. -/
namespace Go.Proofs.YtgohnekaolgblaaGreat
open Go.RowKit

def Wd.may (k n : Int) (s : ByteArray) (c : Nat) : Bool :=
  if k = 1 then decide (-1073741824 ≤ n ∧ n ≤ 1073741823 ∧ s.toList = [] ∧ c = 0) else if k = 2 then decide (n = 0 ∧ s.size ≤ 4096 ∧ c = 0) else if k = 3 ∨ k = 4 then decide (0 ≤ n ∧ n ≤ 65535 ∧ s.toList = [] ∧ c ≤ 1024) else false

end Go.Proofs.YtgohnekaolgblaaGreat

/- Trees: how many, how deep, which may be; their words; reading words: plain. -/
namespace Go.Proofs.YtgohnekaolgblaaGreat
open Go.RowKit

/-- The cells of trees that lie one behind the other, by what they hold. -/
theorem Tr.ats_cells {S : Nat → Nat → Prop} {w : World} {b : Nat} {l : List Tr} {off : Nat} (h : Tr.ats S w l b off) (i : Nat) (hi : i < l.length) :
    ∃ A cap, w.cell? ⟨b, off + i * 4, none⟩ = some (.int .i64 l[i].k) ∧ w.cell? ⟨b, off + i * 4 + 1, none⟩ = some (.int .i64 l[i].n) ∧ w.cell? ⟨b, off + i * 4 + 2, none⟩ = some (.string l[i].s) ∧ w.cell? ⟨b, off + i * 4 + 3, none⟩ = some (.slice A l[i].l.length cap) ∧ l[i].l.length ≤ cap ∧ cap ≤ maxLen ∧ Tr.at S w l[i] (.agg #[.int .i64 l[i].k, .int .i64 l[i].n, .string l[i].s, .slice A l[i].l.length cap]) := by
  obtain ⟨v0, v1, v2, v3, c0, c1, c2, c3, ht⟩ := Tr.ats_get h i hi
  obtain ⟨A, cap, he, h1, h2, _⟩ := Tr.at_agg ht
  have he' := he
  simp only [Value.agg.injEq, Array.mk.injEq, List.cons.injEq, and_true] at he
  obtain ⟨rfl, rfl, rfl, rfl⟩ := he
  exact ⟨A, cap, c0, c1, c2, c3, h1, h2, ht⟩

mutual
def Tr.count : Tr → Nat
  | .mk _ _ _ l => Tr.counts l + 1
def Tr.counts : List Tr → Nat
  | [] => 0
  | t :: l => t.count + Tr.counts l
end
mutual
def Tr.deep : Tr → Nat
  | .mk _ _ _ l => Tr.deeps l + 1
def Tr.deeps : List Tr → Nat
  | [] => 0
  | t :: l => max t.deep (Tr.deeps l)
end
mutual
def Tr.fine : Tr → Bool
  | .mk k n s l => Wd.may k n s l.length && Tr.fines l
def Tr.fines : List Tr → Bool
  | [] => true
  | t :: l => t.fine && Tr.fines l
end

theorem Tr.counts_take (l : List Tr) (i : Nat) (h : i < l.length) : Tr.counts (l.take (i + 1)) = Tr.counts (l.take i) + l[i].count := by
  induction l generalizing i with
  | nil => simp at h
  | cons x l ih =>
    cases i with
    | zero => simp [Tr.counts]
    | succ i =>
      simp only [List.take_succ_cons, Tr.counts, List.getElem_cons_succ]
      rw [ih i (by simpa using h)]; omega
theorem Tr.deeps_take (l : List Tr) (i : Nat) (h : i < l.length) : Tr.deeps (l.take (i + 1)) = max (Tr.deeps (l.take i)) l[i].deep := by
  induction l generalizing i with
  | nil => simp at h
  | cons x l ih =>
    cases i with
    | zero => simp [Tr.deeps]
    | succ i =>
      simp only [List.take_succ_cons, Tr.deeps, List.getElem_cons_succ]
      rw [ih i (by simpa using h)]; omega
theorem Tr.fines_take (l : List Tr) (i : Nat) (h : i < l.length) : Tr.fines (l.take (i + 1)) = (Tr.fines (l.take i) && l[i].fine) := by
  induction l generalizing i with
  | nil => simp at h
  | cons x l ih =>
    cases i with
    | zero => simp [Tr.fines]
    | succ i =>
      simp only [List.take_succ_cons, Tr.fines, List.getElem_cons_succ]
      rw [ih i (by simpa using h), Bool.and_assoc]
theorem Tr.counts_le (l : List Tr) (i : Nat) : Tr.counts (l.take i) ≤ Tr.counts l := by
  induction l generalizing i with
  | nil => simp
  | cons x l ih =>
    cases i with
    | zero => simp [Tr.counts]
    | succ i =>
      simp only [List.take_succ_cons, Tr.counts]
      have := ih i; omega
theorem Tr.deeps_le (l : List Tr) (i : Nat) : Tr.deeps (l.take i) ≤ Tr.deeps l := by
  induction l generalizing i with
  | nil => simp
  | cons x l ih =>
    cases i with
    | zero => simp [Tr.deeps]
    | succ i =>
      simp only [List.take_succ_cons, Tr.deeps]
      have := ih i; omega


/-- The number of bytes. -/
def Wd.wv : List Int → Int
  | [] => 0
  | b :: l => b + 256 * Wd.wv l
/-- So many words of bytes, noughts behind. -/
def Wd.tw (bs : List Int) (m : Nat) : List Int := (List.range m).map fun j => Wd.wv ((bs.drop (4 * j)).take 4)
/-- A text's bytes. -/
def Wd.byt (s : ByteArray) : List Int := s.data.toList.map fun b => (b.toNat : Int)

mutual
/-- How many words a tree has. -/
def Tr.size : Tr → Nat
  | .mk k _ s l => if k = 1 ∨ (k = 3 ∧ l.length = 0) then 0 else if k = 2 then 1 + (s.size + 3) / 4 else 1 + l.length + Tr.sizes l
def Tr.sizes : List Tr → Nat
  | [] => 0
  | t :: l => t.size + Tr.sizes l
end
/-- A tree's own word. -/
def Tr.word (a : Int) (t : Tr) : Int := if t.k = 1 ∨ (t.k = 3 ∧ t.l.length = 0) then Wd.odd t.n else a
/-- The words of trees that stand so many words behind an address. -/
def Tr.owns (a : Int) : Nat → List Tr → List Int
  | _, [] => []
  | p, t :: l => t.word ((a + 4 * p) % 4294967296) :: Tr.owns a (p + t.size) l
mutual
/-- What is laid of a tree. -/
def Tr.words (a : Int) : Tr → List Int
  | .mk k n s l => if k = 1 ∨ (k = 3 ∧ l.length = 0) then [] else if k = 2 then (Wd.head 2 0 s.size).1 :: Wd.tw (Wd.byt s) ((s.size + 3) / 4)
    else (Wd.head (if k = 4 then 1 else 0) n l.length).1 :: (Tr.owns a (1 + l.length) l ++ Tr.mores a (1 + l.length) l)
def Tr.mores (a : Int) : Nat → List Tr → List Int
  | _, [] => []
  | p, t :: l => t.words ((a + 4 * p) % 4294967296) ++ Tr.mores a (p + t.size) l
end

theorem Tr.owns_length (a : Int) (p : Nat) (l : List Tr) : (Tr.owns a p l).length = l.length := by
  induction l generalizing p with
  | nil => rfl
  | cons t l ih => simp [Tr.owns, ih]
theorem Wd.tw_length (bs : List Int) (m : Nat) : (Wd.tw bs m).length = m := by simp [Wd.tw]
theorem Tr.words_length (t : Tr) : ∀ a, (t.words a).length = t.size := by
  induction t using Tr.ind
  rename_i k n s l ih
  intro a
  have hm : ∀ l' p, (∀ t ∈ l', t ∈ l) → (Tr.mores a p l').length = Tr.sizes l' := by
    intro l'
    induction l' with
    | nil => intro p _; rfl
    | cons t l' ih' =>
      intro p hs
      simp only [Tr.mores, Tr.sizes, List.length_append]
      rw [ih t (hs t (by simp)), ih' _ (fun x hx => hs x (by simp [hx]))]
  simp only [Tr.words, Tr.size]
  split
  · rfl
  · split
    · simp only [List.length_cons, Wd.tw_length]; omega
    · simp only [List.length_cons, List.length_append, Tr.owns_length, hm l _ (fun _ h => h)]; omega
theorem Tr.mores_length (a : Int) (p : Nat) (l : List Tr) : (Tr.mores a p l).length = Tr.sizes l := by
  induction l generalizing p with
  | nil => rfl
  | cons t l ih => simp only [Tr.mores, Tr.sizes, List.length_append, Tr.words_length, ih]
theorem Tr.sizes_take (l : List Tr) (i : Nat) (h : i < l.length) : Tr.sizes (l.take (i + 1)) = Tr.sizes (l.take i) + l[i].size := by
  induction l generalizing i with
  | nil => simp at h
  | cons x l ih =>
    cases i with
    | zero => simp [Tr.sizes]
    | succ i =>
      simp only [List.take_succ_cons, Tr.sizes, List.getElem_cons_succ]
      rw [ih i (by simpa using h)]; omega
theorem Tr.owns_take (a : Int) (p : Nat) (l : List Tr) (i : Nat) (h : i < l.length) : Tr.owns a p (l.take (i + 1)) = Tr.owns a p (l.take i) ++ [l[i].word ((a + 4 * (p + Tr.sizes (l.take i) : Nat)) % 4294967296)] := by
  induction l generalizing i p with
  | nil => simp at h
  | cons x l ih =>
    cases i with
    | zero => simp [Tr.owns, Tr.sizes]
    | succ i =>
      simp only [List.take_succ_cons, Tr.owns, Tr.sizes, List.getElem_cons_succ, List.cons_append]
      rw [ih _ i (by simpa using h)]
      simp only [Nat.add_assoc]
theorem Tr.mores_take (a : Int) (p : Nat) (l : List Tr) (i : Nat) (h : i < l.length) : Tr.mores a p (l.take (i + 1)) = Tr.mores a p (l.take i) ++ l[i].words ((a + 4 * (p + Tr.sizes (l.take i) : Nat)) % 4294967296) := by
  induction l generalizing i p with
  | nil => simp at h
  | cons x l ih =>
    cases i with
    | zero => simp [Tr.mores, Tr.sizes]
    | succ i =>
      simp only [List.take_succ_cons, Tr.mores, Tr.sizes, List.getElem_cons_succ, List.append_assoc]
      rw [ih _ i (by simpa using h)]
      simp only [Nat.add_assoc]
theorem Tr.sizes_le (l : List Tr) (i : Nat) : Tr.sizes (l.take i) ≤ Tr.sizes l := by
  induction l generalizing i with
  | nil => simp
  | cons x l ih =>
    cases i with
    | zero => simp [Tr.sizes]
    | succ i =>
      simp only [List.take_succ_cons, Tr.sizes]
      have := ih i; omega
/-- A tree that may be has not many words. -/
theorem Tr.size_le (t : Tr) : t.fine = true → t.size ≤ 1026 * t.count := by
  induction t using Tr.ind
  rename_i k n s l ih
  intro hf
  simp only [Tr.fine, Bool.and_eq_true] at hf
  have hs : ∀ l', (∀ t ∈ l', t ∈ l) → Tr.fines l' = true → Tr.sizes l' ≤ 1026 * Tr.counts l' := by
    intro l'
    induction l' with
    | nil => intro _ _; simp [Tr.sizes]
    | cons t l' ih' =>
      intro hm hf'
      simp only [Tr.fines, Bool.and_eq_true] at hf'
      simp only [Tr.sizes, Tr.counts]
      have h1 := ih t (hm t (by simp)) hf'.1
      have h2 := ih' (fun x hx => hm x (by simp [hx])) hf'.2
      omega
  have h2 := hs l (fun _ h => h) hf.2
  have h1 := hf.1
  simp only [Tr.size, Tr.count]
  unfold Wd.may at h1
  split
  · omega
  · rename_i hk
    split
    · subst k; simp at h1; omega
    · rename_i hk2
      have : l.length ≤ 1024 := by
        have e1 : k ≠ 1 := fun e => hk (.inl e)
        simp only [e1, hk2, if_false] at h1
        split at h1
        · simp at h1; exact h1.2.2.2
        · cases h1
      omega

end Go.Proofs.YtgohnekaolgblaaGreat

/- The words of a text, byte by byte; heads and what they say: plain. -/
namespace Go.Proofs.YtgohnekaolgblaaGreat
open Go.RowKit

theorem Wd.wv_append (l : List Int) (b : Int) : Wd.wv (l ++ [b]) = Wd.wv l + b * 256 ^ l.length := by
  induction l with
  | nil => simp [Wd.wv]
  | cons x l ih =>
    simp only [List.cons_append, Wd.wv, ih, List.length_cons, Int.pow_succ, Int.mul_add]
    rw [show b * (256 ^ l.length * 256) = 256 * (b * 256 ^ l.length) by rw [Int.mul_comm (256 ^ l.length) 256, Int.mul_left_comm]]
    omega
theorem Wd.wv_lt (l : List Int) (h : Byt l) : 0 ≤ Wd.wv l ∧ Wd.wv l < 256 ^ l.length := by
  induction l with
  | nil => simp [Wd.wv]
  | cons x l ih =>
    have h1 := h x (by simp)
    have h2 := ih (fun n hn => h n (by simp [hn]))
    simp only [Wd.wv, List.length_cons, Int.pow_succ]
    omega
theorem Wd.tw_nil (m : Nat) : Wd.tw [] m = List.replicate m 0 := by
  apply List.ext_getElem?
  intro i
  by_cases hi : i < m <;> simp [Wd.tw, Wd.wv, hi]
theorem Wd.byt_byt (s : ByteArray) : Byt (Wd.byt s) := by
  intro n hn
  obtain ⟨b, _, rfl⟩ := List.mem_map.1 hn
  have := b.toNat_lt
  omega
theorem Wd.byt_length (s : ByteArray) : (Wd.byt s).length = s.size := by unfold Wd.byt; rw [List.length_map]; rfl

theorem Wd.tw_get (bs : List Int) (m j : Nat) (h : j < m) : (Wd.tw bs m)[j]? = some (Wd.wv ((bs.drop (4 * j)).take 4)) := by simp [Wd.tw, h]
/-- One more byte. -/
theorem Wd.tw_step (bs : List Int) (m i : Nat) (hi : i < bs.length) (_hm : i / 4 < m) :
    Wd.tw (bs.take (i + 1)) m = (Wd.tw (bs.take i) m).set (i / 4) (Wd.wv (((bs.take i).drop (4 * (i / 4))).take 4) + bs[i] * 256 ^ (i % 4)) := by
  apply List.ext_getElem?
  intro j
  by_cases hj : j < m
  · rw [Wd.tw_get _ _ _ hj]
    by_cases he : j = i / 4
    · subst he
      rw [List.getElem?_set_self (by simp [Wd.tw_length, hj]), Option.some.injEq, List.take_add_one (l := bs), List.getElem?_eq_getElem hi, Option.toList_some, List.drop_append_of_le_length (by simp; omega)]
      have hl : ((bs.take i).drop (4 * (i / 4))).length = i % 4 := by simp; omega
      generalize (bs.take i).drop (4 * (i / 4)) = L at hl ⊢
      rw [List.take_of_length_le (by simp only [List.length_append, hl, List.length_singleton]; omega), Wd.wv_append, hl, List.take_of_length_le (l := L) (by rw [hl]; omega)]
    · rw [List.getElem?_set_ne (by omega), Wd.tw_get _ _ _ hj, Option.some.injEq]
      congr 1
      rw [List.drop_take, List.drop_take, List.take_take, List.take_take]
      congr 1
      omega
  · rw [List.getElem?_eq_none (by simp [Wd.tw_length]; omega), List.getElem?_eq_none (by simp [Wd.tw_length]; omega)]
theorem Wd.pow_mod (i : Nat) : (256 : Int) ^ (i % 4) = if i % 4 = 0 then 1 else if i % 4 = 1 then 256 else if i % 4 = 2 then 65536 else 16777216 := by
  have : i % 4 < 4 := Nat.mod_lt _ (by decide)
  rcases (show i % 4 = 0 ∨ i % 4 = 1 ∨ i % 4 = 2 ∨ i % 4 = 3 by omega) with h | h | h | h <;> simp [h]

theorem Wd.unhead_head {k n s : Int} (h : Wd.headOk k n s) : Wd.unhead (Wd.head k n s).1 = (k, n, s, true) := by
  have hd := Wd.head_yes h
  have hm : s ≤ 4096 := by
    have := h.2.2.2.2.2.2
    unfold Wd.most at this
    split at this <;> omega
  obtain ⟨h0, h1, h2, h3, h4, h5, h6⟩ := h
  rw [hd]
  have e1 : (1 + 2 * k + 8 * s + 65536 * n) / 2 % 4 = k := by omega
  have e2 : (1 + 2 * k + 8 * s + 65536 * n) / 65536 = n := by omega
  have e3 : (1 + 2 * k + 8 * s + 65536 * n) / 8 % 8192 = s := by omega
  rw [Wd.unhead_yes (by rw [e1, e2, e3, hd]), e1, e2, e3]
theorem Wd.head_range {k n s : Int} (h : Wd.headOk k n s) : 0 ≤ (Wd.head k n s).1 ∧ (Wd.head k n s).1 < 4294967296 := by
  have hd := Wd.head_yes h
  have hm : s ≤ 4096 := by
    have := h.2.2.2.2.2.2
    unfold Wd.most at this
    split at this <;> omega
  obtain ⟨h0, h1, h2, h3, h4, h5, h6⟩ := h
  rw [hd]
  simp only
  omega
theorem Wd.words_head {k n s : Int} (h : Wd.headOk k n s) : Wd.words (Wd.head k n s).1 = (if k = 2 then 1 + (s + 3) / 4 else 1 + s, true) := by
  unfold Wd.words
  rw [Wd.unhead_head h]
  by_cases hk : k = 2 <;> simp [hk]
theorem Wd.head_text (s : Nat) (h : s ≤ 4096) : Wd.headOk 2 0 s := ⟨by omega, by omega, by omega, by omega, fun _ => rfl, by omega, by unfold Wd.most; simp; omega⟩
theorem Wd.head_thing (k n : Int) (c : Nat) (hk : k = 0 ∨ k = 1) (h0 : 0 ≤ n) (h1 : n ≤ 65535) (h : c ≤ 1024) : Wd.headOk k n c := ⟨by omega, by omega, by omega, by omega, fun e => by omega, by omega, by unfold Wd.most; rw [if_neg (by omega)]; omega⟩

end Go.Proofs.YtgohnekaolgblaaGreat

/- Which value words are: plain. -/
namespace Go.Proofs.YtgohnekaolgblaaGreat
open Go.RowKit

def Wd.b4 (x : Int) : List Int := [x % 256, x / 256 % 256, x / 65536 % 256, x / 16777216 % 256]
/-- The bytes of words. -/
def Wd.bys : List Int → List Int
  | [] => []
  | x :: l => Wd.b4 x ++ Wd.bys l
/-- Trees of words, one behind the other. -/
def Wd.rdAcc (f : Int → Nat → Nat → Option (Tr × Nat × Nat)) : List Int → List Tr → Nat → Nat → Option (List Tr × Nat × Nat)
  | [], acc, n, m => some (acc, n, m)
  | u :: us, acc, n, m => match f u n m with
    | none => none
    | some (t, n', m') => Wd.rdAcc f us (acc ++ [t]) n' m'
/-- A text of words. -/
def Wd.rdText (own : List Int) (size next many : Nat) : Option (Tr × Nat × Nat) :=
  if ((Wd.bys own).drop size).all (fun x => x == 0) then some (.mk 2 0 (str ((Wd.bys own).take size)) [], next, many) else none
/-- What stands behind a head. -/
def Wd.rdBody (f : Int → Nat → Nat → Option (Tr × Nat × Nat)) (ls : List Int) (next many : Nat) (h : Int) : Option (Tr × Nat × Nat) :=
  if (Wd.unhead h).2.2.2 = false ∨ ls.length < next + (Wd.words h).1.toNat ∨ ((Wd.unhead h).1 = 0 ∧ (Wd.unhead h).2.2.1 = 0) then none
  else if (Wd.unhead h).1 = 2 then Wd.rdText ((ls.drop (next + 1)).take ((Wd.words h).1.toNat - 1)) (Wd.unhead h).2.2.1.toNat (next + (Wd.words h).1.toNat) many
  else match Wd.rdAcc f ((ls.drop (next + 1)).take ((Wd.words h).1.toNat - 1)) [] (next + (Wd.words h).1.toNat) many with
    | none => none
    | some (ts, n, m) => some (.mk (if (Wd.unhead h).1 = 1 then 4 else 3) (Wd.unhead h).2.1 ⟨#[]⟩ ts, n, m)
/-- The value of a word, whose words are laid from a place on; so many levels are left. -/
def Wd.rd (ls : List Int) (a : Int) : Nat → Int → Nat → Nat → Option (Tr × Nat × Nat)
  | 0, _, _, _ => none
  | g + 1, u, next, many =>
    if 16384 ≤ many then none
    else if (Wd.of u).2 = true then some (.mk 1 (Wd.of u).1 ⟨#[]⟩ [], next, many + 1)
    else if u ≠ (a + 4 * next) % 4294967296 then none
    else match ls[next]? with
      | none => none
      | some h => Wd.rdBody (fun u n m => Wd.rd ls a g u n m) ls next (many + 1) h

theorem Wd.bys_length (l : List Int) : (Wd.bys l).length = 4 * l.length := by
  induction l with
  | nil => rfl
  | cons x l ih => simp only [Wd.bys, Wd.b4, List.length_append, List.length_cons, List.length_nil, ih]; omega
theorem Wd.bys_get (l : List Int) (i : Nat) (h : i < 4 * l.length) : (Wd.bys l)[i]? = some ((l[i / 4]'(by omega)) / 256 ^ (i % 4) % 256) := by
  induction l generalizing i with
  | nil => simp at h
  | cons x l ih =>
    by_cases hi : i < 4
    · rcases (show i = 0 ∨ i = 1 ∨ i = 2 ∨ i = 3 by omega) with rfl | rfl | rfl | rfl <;> simp [Wd.bys, Wd.b4]
    · obtain ⟨j, rfl⟩ : ∃ j, i = j + 4 := ⟨i - 4, by omega⟩
      simp only [List.length_cons] at h
      have e1 : (j + 4) / 4 = j / 4 + 1 := by omega
      have e2 : (j + 4) % 4 = j % 4 := by omega
      simp only [Wd.bys, e1, e2, List.getElem_cons_succ]
      rw [List.getElem?_append_right (by simp [Wd.b4]), show (Wd.b4 x).length = 4 from rfl, Nat.add_sub_cancel]
      exact ih j (by omega)
theorem Wd.bys_byt (l : List Int) : Byt (Wd.bys l) := by
  induction l with
  | nil => intro n hn; cases hn
  | cons x l ih =>
    refine Byt.append ?_ ih
    intro n hn
    simp only [Wd.b4, List.mem_cons, List.not_mem_nil, or_false] at hn
    rcases hn with rfl | rfl | rfl | rfl <;> omega

end Go.Proofs.YtgohnekaolgblaaGreat
