/- A region, in whatever order its edges allow: by an invariant over what has come up. -/
import Derived.Orders
namespace Go.Proofs.Ytgohnekaolgblaa

section
variable {P : Program} {ops : Array Oper} {Q : Exit → Act → World → Prop}

/-- All edges that bind go back. -/
def edgesBack (ops : Array Oper) : Bool := (List.range ops.size).all fun i => ((ops[i]?).map fun o => o.after.all fun e => !Region.binds .any e || decide (e.on < i)).getD true

theorem edgesBack_spec (hb : edgesBack ops = true) {i : Nat} {o : Oper} (ho : ops[i]? = some o) : ∀ e ∈ o.after, Region.binds .any e = true → e.on < i := by
  intro e he hbe
  have hi : i < ops.size := (Array.getElem?_eq_some_iff.1 ho).1
  have h := List.all_eq_true.1 hb i (List.mem_range.2 hi)
  rw [ho] at h
  simp only [Option.map_some, Option.getD_some, Array.all_eq_true_iff_forall_mem, Bool.or_eq_true, Bool.not_eq_true', decide_eq_true_eq] at h
  rcases h e he with h | h
  · rw [hbe] at h; cases h
  · exact h

theorem ready_nil_all (hb : edgesBack ops = true) {listed : Array Bool} (hs : listed.size = ops.size) (hr : Region.ready .any ops listed = []) :
    ∀ j, j < ops.size → listed.getD j false = true := by
  intro j
  induction j using Nat.strongRecOn with
  | ind j ih =>
    intro hj
    cases hl : listed.getD j false with
    | true => rfl
    | false =>
      exfalso
      have hm : j ∈ Region.ready .any ops listed := by
        refine mem_ready.2 ⟨?_, ops[j], by simp [hj], fun e he hbe => ?_⟩
        · have hj' : j < listed.size := by omega
          simp [Array.getD, hj'] at hl ⊢
          exact hl
        · have := edgesBack_spec hb (i := j) (o := ops[j]) (by simp [hj]) e he hbe
          exact ih _ this (by omega)
      rw [hr] at hm; cases hm

/-- How many have not come up. -/
def unlisted (l : Array Bool) : Nat := l.toList.countP (fun b => !b)

theorem unlisted_set {l : Array Bool} {i : Nat} (hi : l.getD i true = false) : unlisted (l.setIfInBounds i true) + 1 = unlisted l := by
  have hlt : i < l.size := by
    rcases Nat.lt_or_ge i l.size with h | h
    · exact h
    · simp [Array.getD, Nat.not_lt.2 h] at hi
  have hv : l[i] = false := by simpa [Array.getD, hlt] using hi
  unfold unlisted
  rw [Array.toList_setIfInBounds, List.countP_set (by simpa using hlt)]
  have hpos : 0 < l.toList.countP (fun b => !b) := List.countP_pos_iff.2 ⟨false, by rw [← hv]; simp, by simp⟩
  have h1 : (!l.toList[i]'(by simpa using hlt)) = true := by rw [Array.getElem_toList, hv]; rfl
  simp only [h1, if_true, Bool.not_true, Bool.false_eq_true, if_false]
  omega

theorem wpAny_inv {Inv : Array Bool → Act → World → Prop} (hb : edgesBack ops = true)
    (step : ∀ listed a w i o, Inv listed a w → listed.size = ops.size → ops[i]? = some o → listed.getD i true = false → (∀ e ∈ o.after, Region.binds .any e = true → listed.getD e.on false = true) →
      wpOp P ops Q i (fun a' w' => Inv (listed.setIfInBounds i true) a' w') a w)
    (done : ∀ listed a w, Inv listed a w → listed.size = ops.size → (∀ j, j < ops.size → listed.getD j false = true) → Q .normal a w) :
    ∀ fuel listed a w, Inv listed a w → listed.size = ops.size → unlisted listed ≤ fuel → wpAny P .any ops Q fuel listed a w := by
  intro fuel
  induction fuel with
  | zero =>
    intro listed a w h hs hu
    have hr : Region.ready .any ops listed = [] := by
      refine List.eq_nil_iff_forall_not_mem.2 fun j hj => ?_
      have := unlisted_set (mem_ready.1 hj).1
      omega
    exact ⟨hr, done _ _ _ h hs (ready_nil_all hb hs hr)⟩
  | succ fuel ih =>
    intro listed a w h hs hu
    refine ⟨fun hr => done _ _ _ h hs (ready_nil_all hb hs hr), fun i hi => ?_⟩
    obtain ⟨h0, o, ho, hall⟩ := mem_ready.1 hi
    refine wpOp_mono (fun a' w' h' => ih _ a' w' h' (by simpa using hs) ?_) (step listed a w i o h hs ho h0 hall)
    have := unlisted_set h0
    omega

theorem wpOps_inv {Inv : Array Bool → Act → World → Prop} (hb : edgesBack ops = true)
    (step : ∀ listed a w i o, Inv listed a w → listed.size = ops.size → ops[i]? = some o → listed.getD i true = false → (∀ e ∈ o.after, Region.binds .any e = true → listed.getD e.on false = true) →
      wpOp P ops Q i (fun a' w' => Inv (listed.setIfInBounds i true) a' w') a w)
    (done : ∀ listed a w, Inv listed a w → listed.size = ops.size → (∀ j, j < ops.size → listed.getD j false = true) → Q .normal a w) :
    ∀ m k listed a w, k + m = ops.size → Inv listed a w → listed.size = ops.size → (∀ j, j < ops.size → listed.getD j true = decide (j < k)) → wpOps P ops Q (List.range' k m) a w := by
  intro m
  induction m with
  | zero =>
    intro k listed a w hk h hs hl
    simp only [List.range'_zero, wpOps]
    refine done _ _ _ h hs fun j hj => ?_
    have := hl j hj
    have hj' : j < listed.size := by omega
    simp only [Array.getD, hj', dif_pos] at this ⊢
    rw [this]; simp; omega
  | succ m ih =>
    intro k listed a w hk h hs hl
    have hkk : k < ops.size := by omega
    rw [List.range'_succ, wpOps_cons]
    have h0 : listed.getD k true = false := by rw [hl k hkk]; simp
    refine wpOp_mono (fun a' w' h' => ih (k + 1) _ a' w' (by omega) h' (by simpa using hs) fun j hj => ?_) (step listed a w k ops[k] h hs (by simp [hkk]) h0 fun e he hbe => ?_)
    · by_cases hjk : k = j
      · subst hjk
        have hj' : k < listed.size := by omega
        simp [Array.getD, hj']
      · rw [getD_set_ne true hjk, hl j hj]
        have : (j < k) ↔ (j < k + 1) := by omega
        simp [this]
    · have := edgesBack_spec hb (i := k) (o := ops[k]) (by simp [hkk]) e he hbe
      have hq := hl e.on (by omega)
      have hj' : e.on < listed.size := by omega
      simp only [Array.getD, hj', dif_pos] at hq ⊢
      rw [hq]; simp [this]

/-- THE LAW: from an invariant that holds where nothing has come up. -/
theorem wp_region_inv {id : Nat} {draws : Bool} {a : Act} {w : World} (hm : P.follows .mixedOrders = true) {Inv : Array Bool → Act → World → Prop} (hb : edgesBack ops = true)
    (step : ∀ listed a w i o, Inv listed a w → listed.size = ops.size → ops[i]? = some o → listed.getD i true = false → (∀ e ∈ o.after, Region.binds .any e = true → listed.getD e.on false = true) →
      wpOp P ops Q i (fun a' w' => Inv (listed.setIfInBounds i true) a' w') a w)
    (done : ∀ listed a w, Inv listed a w → listed.size = ops.size → (∀ j, j < ops.size → listed.getD j false = true) → Q .normal a w)
    (h0 : Inv (Array.replicate ops.size false) a w) (hd : Inv (Array.replicate ops.size false) a { w with drawn := w.drawn + 1 }) : (Code.region id ops draws).wp P Q a w := by
  cases draws with
  | true =>
    refine wp_region_any hm (wpAny_inv hb step done _ _ _ _ hd (by simp) ?_)
    unfold unlisted
    exact Nat.le_trans List.countP_le_length (by simp)
  | false =>
    refine wp_region ?_
    rw [List.range_eq_range']
    refine wpOps_inv hb step done ops.size 0 _ _ _ (by simp) h0 (by simp) fun j hj => ?_
    simp [Array.getD, hj]

end
end Go.Proofs.Ytgohnekaolgblaa
