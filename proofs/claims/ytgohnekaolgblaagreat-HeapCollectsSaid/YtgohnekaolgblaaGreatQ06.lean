/- heap's makers of programs: contracts (printed by wip/gen_lob.py). -/
import Derived.Test.YtgohnekaolgblaaGreatQ05
import Derived.Orders
import Derived.Test.YtgohnekaolgblaaGreatQ01
namespace Go.Proofs.YtgohnekaolgblaaGreat
open Go.RowKit

/-- All blocks that come are of the set. -/
def New (S : Nat → Prop) (w : World) : Prop := ∀ b, w.heap.size ≤ b → S b
theorem New.mono {S : Nat → Prop} {w w' : World} (h : New S w) (hs : w.heap.size ≤ w'.heap.size) : New S w' := fun b hb => h b (Nat.le_trans hs hb)

theorem loNum (S : Nat → Prop) (n : Int) (w : World) (_hN : New S w) : Calls Tryz.prog 66 #[.int .i64 n] w fun e w' => ∃ v, e = .returned v ∧ Ex.at S w' (.mk 1 n []) v ∧ Below w.heap.size w w' := by
  go_enter Tryz.func66, Tryz.ntmps66
  go_wp2_with fail
  go_returns
  exact ⟨_, rfl, Ex.at_mk.2 ⟨_, rfl, ExL.nil _ _⟩, (B.alloc (B.refl w) _)⟩

theorem loLocal (S : Nat → Prop) (n : Int) (w : World) (_hN : New S w) : Calls Tryz.prog 62 #[.int .i64 n] w fun e w' => ∃ v, e = .returned v ∧ Ex.at S w' (.mk 2 n []) v ∧ Below w.heap.size w w' := by
  go_enter Tryz.func62, Tryz.ntmps62
  go_wp2_with fail
  go_returns
  exact ⟨_, rfl, Ex.at_mk.2 ⟨_, rfl, ExL.nil _ _⟩, (B.alloc (B.refl w) _)⟩

theorem loGlobal (S : Nat → Prop) (n : Int) (w : World) (_hN : New S w) : Calls Tryz.prog 69 #[.int .i64 n] w fun e w' => ∃ v, e = .returned v ∧ Ex.at S w' (.mk 3 n []) v ∧ Below w.heap.size w w' := by
  go_enter Tryz.func69, Tryz.ntmps69
  go_wp2_with fail
  go_returns
  exact ⟨_, rfl, Ex.at_mk.2 ⟨_, rfl, ExL.nil _ _⟩, (B.alloc (B.refl w) _)⟩

theorem loLoad (S : Nat → Prop) (t0 : Ex) (v0 : Value) (w : World) (hN : New S w) (h0 : Ex.at S w t0 v0) : Calls Tryz.prog 61 #[v0] w fun e w' => ∃ v, e = .returned v ∧ Ex.at S w' (.mk 4 0 [t0]) v ∧ Below w.heap.size w w' := by
  obtain ⟨k0, n0, l0⟩ := t0
  obtain ⟨A0, c0, rfl⟩ := Ex.agg h0
  replace h0 := Lib.hid h0
  replace hN := Lib.hid hN
  go_enter Tryz.func61, Tryz.ntmps61
  go_wp2_with fail
  go_returns
  exact ⟨_, rfl, Ex.at_mk.2 ⟨_, rfl, (ExL.of _ (ExV.cons ((h0.out.alloc _).alloc _) (ExV.nil _ _)) _ _ rfl (by simp [maxLen]) _ (by simp) (hN.out _ (by first | omega | simp)))⟩, (B.alloc (B.alloc (B.alloc (B.refl w) _) _) _)⟩

theorem loNot (S : Nat → Prop) (t0 : Ex) (v0 : Value) (w : World) (hN : New S w) (h0 : Ex.at S w t0 v0) : Calls Tryz.prog 75 #[v0] w fun e w' => ∃ v, e = .returned v ∧ Ex.at S w' (.mk 6 69 [t0]) v ∧ Below w.heap.size w w' := by
  obtain ⟨k0, n0, l0⟩ := t0
  obtain ⟨A0, c0, rfl⟩ := Ex.agg h0
  replace h0 := Lib.hid h0
  replace hN := Lib.hid hN
  go_enter Tryz.func75, Tryz.ntmps75
  go_wp2_with fail
  go_returns
  exact ⟨_, rfl, Ex.at_mk.2 ⟨_, rfl, (ExL.of _ (ExV.cons ((h0.out.alloc _).alloc _) (ExV.nil _ _)) _ _ rfl (by simp [maxLen]) _ (by simp) (hN.out _ (by first | omega | simp)))⟩, (B.alloc (B.alloc (B.alloc (B.refl w) _) _) _)⟩

theorem loTwo (S : Nat → Prop) (op : Int) (t0 : Ex) (v0 : Value) (t1 : Ex) (v1 : Value) (w : World) (hN : New S w) (h0 : Ex.at S w t0 v0) (h1 : Ex.at S w t1 v1) : Calls Tryz.prog 68 #[.int .i64 op, v0, v1] w fun e w' => ∃ v, e = .returned v ∧ Ex.at S w' (.mk 7 op [t0, t1]) v ∧ Below w.heap.size w w' := by
  obtain ⟨k0, n0, l0⟩ := t0
  obtain ⟨A0, c0, rfl⟩ := Ex.agg h0
  obtain ⟨k1, n1, l1⟩ := t1
  obtain ⟨A1, c1, rfl⟩ := Ex.agg h1
  replace h0 := Lib.hid h0
  replace h1 := Lib.hid h1
  replace hN := Lib.hid hN
  go_enter Tryz.func68, Tryz.ntmps68
  go_wp2_with fail
  go_returns
  exact ⟨_, rfl, Ex.at_mk.2 ⟨_, rfl, (ExL.of _ (ExV.cons (((h0.out.alloc _).alloc _).alloc _) (ExV.cons (((h1.out.alloc _).alloc _).alloc _) (ExV.nil _ _))) _ _ rfl (by simp [maxLen]) _ (by simp) (hN.out _ (by first | omega | simp)))⟩, (B.alloc (B.alloc (B.alloc (B.alloc (B.refl w) _) _) _) _)⟩

theorem loSet (S : Nat → Prop) (x : Int) (t0 : Ex) (v0 : Value) (w : World) (hN : New S w) (h0 : Ex.at S w t0 v0) : Calls Tryz.prog 64 #[.int .i64 x, v0] w fun e w' => ∃ v, e = .returned v ∧ Lo.at S w' (.mk 1 x 0 [t0] []) v ∧ Below w.heap.size w w' := by
  obtain ⟨k0, n0, l0⟩ := t0
  obtain ⟨A0, c0, rfl⟩ := Ex.agg h0
  replace h0 := Lib.hid h0
  replace hN := Lib.hid hN
  go_enter Tryz.func64, Tryz.ntmps64
  go_wp2_with fail
  go_returns
  exact ⟨_, rfl, Lo.at_mk.2 ⟨_, _, rfl, (ExL.of _ (ExV.cons ((h0.out.alloc _).alloc _) (ExV.nil _ _)) _ _ rfl (by simp [maxLen]) _ (by simp) (hN.out _ (by first | omega | simp))), LoL.nil _ _⟩, (B.alloc (B.alloc (B.alloc (B.refl w) _) _) _)⟩

theorem loPut (S : Nat → Prop) (x : Int) (t0 : Ex) (v0 : Value) (w : World) (hN : New S w) (h0 : Ex.at S w t0 v0) : Calls Tryz.prog 71 #[.int .i64 x, v0] w fun e w' => ∃ v, e = .returned v ∧ Lo.at S w' (.mk 2 x 0 [t0] []) v ∧ Below w.heap.size w w' := by
  obtain ⟨k0, n0, l0⟩ := t0
  obtain ⟨A0, c0, rfl⟩ := Ex.agg h0
  replace h0 := Lib.hid h0
  replace hN := Lib.hid hN
  go_enter Tryz.func71, Tryz.ntmps71
  go_wp2_with fail
  go_returns
  exact ⟨_, rfl, Lo.at_mk.2 ⟨_, _, rfl, (ExL.of _ (ExV.cons ((h0.out.alloc _).alloc _) (ExV.nil _ _)) _ _ rfl (by simp [maxLen]) _ (by simp) (hN.out _ (by first | omega | simp))), LoL.nil _ _⟩, (B.alloc (B.alloc (B.alloc (B.refl w) _) _) _)⟩

theorem loStore (S : Nat → Prop) (t0 : Ex) (v0 : Value) (t1 : Ex) (v1 : Value) (w : World) (hN : New S w) (h0 : Ex.at S w t0 v0) (h1 : Ex.at S w t1 v1) : Calls Tryz.prog 63 #[v0, v1] w fun e w' => ∃ v, e = .returned v ∧ Lo.at S w' (.mk 3 0 0 [t0, t1] []) v ∧ Below w.heap.size w w' := by
  obtain ⟨k0, n0, l0⟩ := t0
  obtain ⟨A0, c0, rfl⟩ := Ex.agg h0
  obtain ⟨k1, n1, l1⟩ := t1
  obtain ⟨A1, c1, rfl⟩ := Ex.agg h1
  replace h0 := Lib.hid h0
  replace h1 := Lib.hid h1
  replace hN := Lib.hid hN
  go_enter Tryz.func63, Tryz.ntmps63
  go_wp2_with fail
  go_returns
  exact ⟨_, rfl, Lo.at_mk.2 ⟨_, _, rfl, (ExL.of _ (ExV.cons (((h0.out.alloc _).alloc _).alloc _) (ExV.cons (((h1.out.alloc _).alloc _).alloc _) (ExV.nil _ _))) _ _ rfl (by simp [maxLen]) _ (by simp) (hN.out _ (by first | omega | simp))), LoL.nil _ _⟩, (B.alloc (B.alloc (B.alloc (B.alloc (B.refl w) _) _) _) _)⟩

theorem loTell (S : Nat → Prop) (t0 : Ex) (v0 : Value) (w : World) (hN : New S w) (h0 : Ex.at S w t0 v0) : Calls Tryz.prog 74 #[v0] w fun e w' => ∃ v, e = .returned v ∧ Lo.at S w' (.mk 9 0 0 [t0] []) v ∧ Below w.heap.size w w' := by
  obtain ⟨k0, n0, l0⟩ := t0
  obtain ⟨A0, c0, rfl⟩ := Ex.agg h0
  replace h0 := Lib.hid h0
  replace hN := Lib.hid hN
  go_enter Tryz.func74, Tryz.ntmps74
  go_wp2_with fail
  go_returns
  exact ⟨_, rfl, Lo.at_mk.2 ⟨_, _, rfl, (ExL.of _ (ExV.cons ((h0.out.alloc _).alloc _) (ExV.nil _ _)) _ _ rfl (by simp [maxLen]) _ (by simp) (hN.out _ (by first | omega | simp))), LoL.nil _ _⟩, (B.alloc (B.alloc (B.alloc (B.refl w) _) _) _)⟩

theorem loWhen (S : Nat → Prop) (t0 : Ex) (v0 : Value) (l : List Lo) (vl : Value) (w : World) (hN : New S w) (h0 : Ex.at S w t0 v0) (hl : LoL S w l vl) : Calls Tryz.prog 67 #[v0, vl] w fun e w' => ∃ v, e = .returned v ∧ Lo.at S w' (.mk 5 0 0 [t0] l) v ∧ Below w.heap.size w w' := by
  obtain ⟨k0, n0, l0⟩ := t0
  obtain ⟨A0, c0, rfl⟩ := Ex.agg h0
  obtain ⟨A, c, rfl, q1, q2, q3⟩ := hl
  have hl : LoL S w l (.slice A l.length c) := ⟨A, c, rfl, q1, q2, q3⟩
  clear q3
  replace h0 := Lib.hid h0
  replace hl := Lib.hid hl
  replace hN := Lib.hid hN
  go_enter Tryz.func67, Tryz.ntmps67
  go_wp2_with fail
  go_returns
  exact ⟨_, rfl, Lo.at_mk.2 ⟨_, _, rfl, (ExL.of _ (ExV.cons ((h0.out.alloc _).alloc _) (ExV.nil _ _)) _ _ rfl (by simp [maxLen]) _ (by simp) (hN.out _ (by first | omega | simp))), (((hl.out.alloc _).alloc _).alloc _)⟩, (B.alloc (B.alloc (B.alloc (B.refl w) _) _) _)⟩

theorem loLoop (S : Nat → Prop) (l : List Lo) (vl : Value) (w : World) (_hN : New S w) (hl : LoL S w l vl) : Calls Tryz.prog 72 #[vl] w fun e w' => ∃ v, e = .returned v ∧ Lo.at S w' (.mk 6 0 0 [] l) v ∧ Below w.heap.size w w' := by
  obtain ⟨A, c, rfl, q1, q2, q3⟩ := hl
  have hl : LoL S w l (.slice A l.length c) := ⟨A, c, rfl, q1, q2, q3⟩
  clear q3
  replace hl := Lib.hid hl
  go_enter Tryz.func72, Tryz.ntmps72
  go_wp2_with fail
  go_returns
  exact ⟨_, rfl, Lo.at_mk.2 ⟨_, _, rfl, ExL.nil _ _, (hl.out.alloc _)⟩, (B.alloc (B.refl w) _)⟩

theorem loLeave (S : Nat → Prop) (w : World) (_hN : New S w) : Calls Tryz.prog 70 #[] w fun e w' => ∃ v, e = .returned v ∧ Lo.at S w' (.mk 7 0 0 [] []) v ∧ Below w.heap.size w w' := by
  go_enter Tryz.func70, Tryz.ntmps70
  go_wp2_with fail
  go_returns
  exact ⟨_, rfl, Lo.at_mk.2 ⟨_, _, rfl, ExL.nil _ _, LoL.nil _ _⟩, (B.alloc (B.refl w) _)⟩

theorem loCall (S : Nat → Prop) (x : Int) (n : Int) (l : List Ex) (vl : Value) (w : World) (_hN : New S w) (hl : ExL S w l vl) : Calls Tryz.prog 60 #[.int .i64 x, .int .i64 n, vl] w fun e w' => ∃ v, e = .returned v ∧ Lo.at S w' (.mk 10 x n l []) v ∧ Below w.heap.size w w' := by
  obtain ⟨A, c, rfl, q1, q2, q3⟩ := hl
  have hl : ExL S w l (.slice A l.length c) := ⟨A, c, rfl, q1, q2, q3⟩
  clear q3
  replace hl := Lib.hid hl
  go_enter Tryz.func60, Tryz.ntmps60
  go_wp2_with fail
  go_returns
  exact ⟨_, rfl, Lo.at_mk.2 ⟨_, _, rfl, (hl.out.alloc _), LoL.nil _ _⟩, (B.alloc (B.refl w) _)⟩

theorem loAdd (S : Nat → Prop) (t0 : Ex) (v0 : Value) (t1 : Ex) (v1 : Value) (w : World) (hN : New S w) (h0 : Ex.at S w t0 v0) (h1 : Ex.at S w t1 v1) : Calls Tryz.prog 65 #[v0, v1] w fun e w' => ∃ v, e = .returned v ∧ Ex.at S w' (.mk 7 106 [t0, t1]) v ∧ Below w.heap.size w w' := by
  obtain ⟨k0, n0, l0⟩ := t0
  obtain ⟨A0, c0, rfl⟩ := Ex.agg h0
  obtain ⟨k1, n1, l1⟩ := t1
  obtain ⟨A1, c1, rfl⟩ := Ex.agg h1
  replace h0 := Lib.hid h0
  replace h1 := Lib.hid h1
  replace hN := Lib.hid hN
  go_enter Tryz.func65, Tryz.ntmps65
  go_wp2_with fail
  have hs : ∀ (t : Ex) (v : Value), Ex.at S w t v → Ex.at (fun b => S b ∧ b ≠ w.heap.size + 1 + 1) w t v := fun t v h => h.mono fun b hb hS => ⟨hS, by omega⟩
  refine (loTwo (fun b => S b ∧ b ≠ w.heap.size + 1 + 1) 106 (.mk k0 n0 l0) _ (.mk k1 n1 l1) _ _ (fun b hb => ⟨hN.out b (by simp at hb; omega), by simp at hb; omega⟩) ((((hs _ _ h0.out).alloc _).alloc _).alloc _) ((((hs _ _ h1.out).alloc _).alloc _).alloc _)).mono ?_
  rintro _ w1 ⟨v, rfl, hv, b1⟩
  have BB := Lib.hid (B.call (B.alloc (B.alloc (B.alloc (B.refl w) _) _) _) b1)
  have hc := (VB.new ((w.alloc (.cells #[.int .i64 k0, .int .i64 n0, .slice A0 l0.length c0] 79)).alloc (.cells #[.int .i64 k1, .int .i64 n1, .slice A1 l1.length c1] 79)) 79 #[.int .i64 0, .int .i64 0, .slice none 0 0]).call b1
  simp only [World.size_alloc] at hc
  have c0' := hc.cell 0
  have c1' := hc.cell 1
  have c2' := hc.cell 2
  have f0 := hc.free 0
  have f1 := hc.free 1
  have f2 := hc.free 2
  simp at c0' c1' c2'
  obtain ⟨A, c, rfl⟩ := Ex.agg hv
  replace hv := Lib.hid hv
  replace hc := Lib.hid hc
  clear b1 hs
  go_wp2_with fail
  have v3 := ((hc.out.set 0 (.int .i64 7)).set 1 (.int .i64 106)).set 2 (.slice A 2 c)
  have hv3 := Lib.hid ((((hv.out.set (by simp) _).set (by simp) _).set (by simp) _).mono (fun b _ h => h.1) : Ex.at S (((w1.setCell ⟨w.heap.size + 1 + 1, 0, none⟩ (.int .i64 7)).setCell ⟨w.heap.size + 1 + 1, 1, none⟩ (.int .i64 106)).setCell ⟨w.heap.size + 1 + 1, 2, none⟩ (.slice A 2 c)) _ _)
  have b3 := Lib.hid (((BB.out.setCell (p := ⟨w.heap.size + 1 + 1, 0, none⟩) (by simp only; omega) (.int .i64 7)).setCell (p := ⟨w.heap.size + 1 + 1, 1, none⟩) (by simp only; omega) (.int .i64 106)).setCell (p := ⟨w.heap.size + 1 + 1, 2, none⟩) (by simp only; omega) (.slice A 2 c))
  obtain ⟨w2, hw2⟩ : ∃ w2, w2 = (((w1.setCell ⟨w.heap.size + 1 + 1, 0, none⟩ (.int .i64 7)).setCell ⟨w.heap.size + 1 + 1, 1, none⟩ (.int .i64 106)).setCell ⟨w.heap.size + 1 + 1, 2, none⟩ (.slice A 2 c)) := ⟨_, rfl⟩
  rw [← hw2] at v3 hv3 b3 ⊢
  clear hw2 c0' c1' c2' f0 f1 f2 BB hv
  have c0' := v3.cell 0
  have c1' := v3.cell 1
  have c2' := v3.cell 2
  simp at c0' c1' c2'
  refine bodyPost_ret (v := .agg #[.int .i64 7, .int .i64 106, .slice A 2 c]) (by simp [results, Tryz.results65, go_sem, c0', c1', c2']) rfl ⟨_, rfl, hv3.out, b3.out⟩

end Go.Proofs.YtgohnekaolgblaaGreat

/- A region, in whatever order its edges allow: by an invariant over what has come up. -/
namespace Go.Proofs.YtgohnekaolgblaaGreat

section
variable {P : Program} {ops : Array Oper} {Q : Exit → Act → World → Prop}

/-- All edges that bind go back. -/
def edgesBack (ops : Array Oper) : Bool := (List.range ops.size).all fun i => ((ops[i]?).map fun o => o.after.all fun e => !Region.binds .any e || decide (e.on < i)).getD true

theorem edgesBack_spec (hb : edgesBack ops = true) {i : Nat} {o : Oper} (ho : ops[i]? = some o) : ∀ e ∈ o.after, Region.binds .any e = true → e.on < i := by
  intro e he hbe
  have hi : i < ops.size := (Array.getElem?_eq_some_iff.1 ho).1
  have h := List.all_eq_true.1 hb i (List.mem_range.2 hi)
  rw [ho] at h
  simp only [Option.map_some, Option.getD_some, Array.all_eq_true_iff_forall_mem, Bool.or_eq_true, Bool.not_eq_true', decide_eq_true_eq] at h
  rcases h e he with h | h
  · rw [hbe] at h; cases h
  · exact h

theorem ready_nil_all (hb : edgesBack ops = true) {listed : Array Bool} (hs : listed.size = ops.size) (hr : Region.ready .any ops listed = []) :
    ∀ j, j < ops.size → listed.getD j false = true := by
  intro j
  induction j using Nat.strongRecOn with
  | ind j ih =>
    intro hj
    cases hl : listed.getD j false with
    | true => rfl
    | false =>
      exfalso
      have hm : j ∈ Region.ready .any ops listed := by
        refine mem_ready.2 ⟨?_, ops[j], by simp [hj], fun e he hbe => ?_⟩
        · have hj' : j < listed.size := by omega
          simp [Array.getD, hj'] at hl ⊢
          exact hl
        · have := edgesBack_spec hb (i := j) (o := ops[j]) (by simp [hj]) e he hbe
          exact ih _ this (by omega)
      rw [hr] at hm; cases hm

/-- How many have not come up. -/
def unlisted (l : Array Bool) : Nat := l.toList.countP (fun b => !b)

theorem unlisted_set {l : Array Bool} {i : Nat} (hi : l.getD i true = false) : unlisted (l.setIfInBounds i true) + 1 = unlisted l := by
  have hlt : i < l.size := by
    rcases Nat.lt_or_ge i l.size with h | h
    · exact h
    · simp [Array.getD, Nat.not_lt.2 h] at hi
  have hv : l[i] = false := by simpa [Array.getD, hlt] using hi
  unfold unlisted
  rw [Array.toList_setIfInBounds, List.countP_set (by simpa using hlt)]
  have hpos : 0 < l.toList.countP (fun b => !b) := List.countP_pos_iff.2 ⟨false, by rw [← hv]; simp, by simp⟩
  have h1 : (!l.toList[i]'(by simpa using hlt)) = true := by rw [Array.getElem_toList, hv]; rfl
  simp only [h1, if_true, Bool.not_true, Bool.false_eq_true, if_false]
  omega

theorem wpAny_inv {Inv : Array Bool → Act → World → Prop} (hb : edgesBack ops = true)
    (step : ∀ listed a w i o, Inv listed a w → listed.size = ops.size → ops[i]? = some o → listed.getD i true = false → (∀ e ∈ o.after, Region.binds .any e = true → listed.getD e.on false = true) →
      wpOp P ops Q i (fun a' w' => Inv (listed.setIfInBounds i true) a' w') a w)
    (done : ∀ listed a w, Inv listed a w → listed.size = ops.size → (∀ j, j < ops.size → listed.getD j false = true) → Q .normal a w) :
    ∀ fuel listed a w, Inv listed a w → listed.size = ops.size → unlisted listed ≤ fuel → wpAny P .any ops Q fuel listed a w := by
  intro fuel
  induction fuel with
  | zero =>
    intro listed a w h hs hu
    have hr : Region.ready .any ops listed = [] := by
      refine List.eq_nil_iff_forall_not_mem.2 fun j hj => ?_
      have := unlisted_set (mem_ready.1 hj).1
      omega
    exact ⟨hr, done _ _ _ h hs (ready_nil_all hb hs hr)⟩
  | succ fuel ih =>
    intro listed a w h hs hu
    refine ⟨fun hr => done _ _ _ h hs (ready_nil_all hb hs hr), fun i hi => ?_⟩
    obtain ⟨h0, o, ho, hall⟩ := mem_ready.1 hi
    refine wpOp_mono (fun a' w' h' => ih _ a' w' h' (by simpa using hs) ?_) (step listed a w i o h hs ho h0 hall)
    have := unlisted_set h0
    omega

theorem wpOps_inv {Inv : Array Bool → Act → World → Prop} (hb : edgesBack ops = true)
    (step : ∀ listed a w i o, Inv listed a w → listed.size = ops.size → ops[i]? = some o → listed.getD i true = false → (∀ e ∈ o.after, Region.binds .any e = true → listed.getD e.on false = true) →
      wpOp P ops Q i (fun a' w' => Inv (listed.setIfInBounds i true) a' w') a w)
    (done : ∀ listed a w, Inv listed a w → listed.size = ops.size → (∀ j, j < ops.size → listed.getD j false = true) → Q .normal a w) :
    ∀ m k listed a w, k + m = ops.size → Inv listed a w → listed.size = ops.size → (∀ j, j < ops.size → listed.getD j true = decide (j < k)) → wpOps P ops Q (List.range' k m) a w := by
  intro m
  induction m with
  | zero =>
    intro k listed a w hk h hs hl
    simp only [List.range'_zero, wpOps]
    refine done _ _ _ h hs fun j hj => ?_
    have := hl j hj
    have hj' : j < listed.size := by omega
    simp only [Array.getD, hj', dif_pos] at this ⊢
    rw [this]; simp; omega
  | succ m ih =>
    intro k listed a w hk h hs hl
    have hkk : k < ops.size := by omega
    rw [List.range'_succ, wpOps_cons]
    have h0 : listed.getD k true = false := by rw [hl k hkk]; simp
    refine wpOp_mono (fun a' w' h' => ih (k + 1) _ a' w' (by omega) h' (by simpa using hs) fun j hj => ?_) (step listed a w k ops[k] h hs (by simp [hkk]) h0 fun e he hbe => ?_)
    · by_cases hjk : k = j
      · subst hjk
        have hj' : k < listed.size := by omega
        simp [Array.getD, hj']
      · rw [getD_set_ne true hjk, hl j hj]
        have : (j < k) ↔ (j < k + 1) := by omega
        simp [this]
    · have := edgesBack_spec hb (i := k) (o := ops[k]) (by simp [hkk]) e he hbe
      have hq := hl e.on (by omega)
      have hj' : e.on < listed.size := by omega
      simp only [Array.getD, hj', dif_pos] at hq ⊢
      rw [hq]; simp [this]

/-- THE LAW: from an invariant that holds where nothing has come up. -/
theorem wp_region_inv {id : Nat} {draws : Bool} {a : Act} {w : World} (hm : P.follows .mixedOrders = true) {Inv : Array Bool → Act → World → Prop} (hb : edgesBack ops = true)
    (step : ∀ listed a w i o, Inv listed a w → listed.size = ops.size → ops[i]? = some o → listed.getD i true = false → (∀ e ∈ o.after, Region.binds .any e = true → listed.getD e.on false = true) →
      wpOp P ops Q i (fun a' w' => Inv (listed.setIfInBounds i true) a' w') a w)
    (done : ∀ listed a w, Inv listed a w → listed.size = ops.size → (∀ j, j < ops.size → listed.getD j false = true) → Q .normal a w)
    (h0 : Inv (Array.replicate ops.size false) a w) (hd : Inv (Array.replicate ops.size false) a { w with drawn := w.drawn + 1 }) : (Code.region id ops draws).wp P Q a w := by
  cases draws with
  | true =>
    refine wp_region_any hm (wpAny_inv hb step done _ _ _ _ hd (by simp) ?_)
    unfold unlisted
    exact Nat.le_trans List.countP_le_length (by simp)
  | false =>
    refine wp_region ?_
    rw [List.range_eq_range']
    refine wpOps_inv hb step done ops.size 0 _ _ _ (by simp) h0 (by simp) fun j hj => ?_
    simp [Array.getD, hj]

end
end Go.Proofs.YtgohnekaolgblaaGreat

/- A region whose slots have known kinds: each operation is looked at once, whatever order is drawn. -/
namespace Go.Proofs.YtgohnekaolgblaaGreat
open Go.RowKit

/-- The world has grown: the blocks of the set stand as they were, the variables lie where they lay. -/
structure Grow (F : Nat → Prop) (V : Nat → Option Nat) (w : World) (F' : Nat → Prop) (V' : Nat → Option Nat) (w' : World) : Prop where
  size : w.heap.size ≤ w'.heap.size
  mem : ∀ b, b < w.heap.size → F b → F' b
  block : ∀ b, b < w.heap.size → F b → w'.heap[b]? = w.heap[b]?
  var : ∀ x g, V x = some g → V' x = some g

theorem Grow.refl (F : Nat → Prop) (V : Nat → Option Nat) (w : World) : Grow F V w F V w := ⟨Nat.le_refl _, fun _ _ h => h, fun _ _ _ => rfl, fun _ _ h => h⟩

theorem Grow.cell {F F' : Nat → Prop} {V V' : Nat → Option Nat} {w w' : World} (h : Grow F V w F' V' w') : ∀ b o u, b < w.heap.size → F b → w.cell? ⟨b, o, none⟩ = some u → w'.cell? ⟨b, o, none⟩ = some u :=
  fun b o u hb hF hc => by rw [← hc]; exact World.cell?_of_block (w := w) (h.block b hb hF)

/-- What is known of a value; it stays so. -/
structure AV where
  den : (Nat → Prop) → (Nat → Option Nat) → World → Value → Prop
  keep : ∀ {F F' V V' w w'}, Grow F V w F' V' w' → ∀ v, den F V w v → den F' V' w' v

/-- A value that is known whole. -/
def AV.raw (u : Value) : AV := ⟨fun _ _ _ v => v = u, fun _ _ h => h⟩
/-- A pointer into a variable. -/
def AV.ptr (x o : Nat) : AV := ⟨fun _ V _ v => ∃ g, V x = some g ∧ v = .pointer (some ⟨g, o, none⟩), fun h _ ⟨g, hg, e⟩ => ⟨g, h.var _ _ hg, e⟩⟩
/-- Nothing is known. -/
def AV.any : AV := ⟨fun _ _ _ _ => True, fun _ _ h => h⟩

/-- A call: its program, what its slots are, what its variables hold, of how many cells; the blocks that may be new; the world at its start; how many slots. -/
structure Cx where
  P : Program
  ty : Nat → AV
  con : Nat → AV
  len : Nat → Nat
  S : Nat → Prop
  w0 : World
  n : Nat

/-- Dt: the slots that are known; Dv: the marks that are set (2 x: the variable x is laid; 2 x + 1: it is stored). -/
structure TS (c : Cx) (F : Nat → Prop) (V : Nat → Option Nat) (Dt Dv : Nat → Prop) (a : Act) (w : World) : Prop where
  below : Below c.w0.heap.size c.w0 w
  own : ∀ b, F b → b < w.heap.size ∧ c.S b
  vars : ∀ x g, V x = some g → c.w0.heap.size ≤ g ∧ ¬ F g ∧ Dv (2 * x) ∧ ∃ cs T, w.heap[g]? = some (.cells cs T (0, 0)) ∧ cs.size = c.len x ∧ (Dv (2 * x + 1) → (c.con x).den F V w (.agg cs))
  inj : ∀ x y g, V x = some g → V y = some g → x = y
  stored : ∀ x, Dv (2 * x + 1) → ∃ g, V x = some g
  tmp : ∀ t, Dt t → (c.ty t).den F V w (a.tmps.getD t undef)
  size : a.tmps.size = c.n
  defers : a.defers = []

def Typed (c : Cx) (Dt Dv : Nat → Prop) (a : Act) (w : World) : Prop := ∃ F V, TS c F V Dt Dv a w

theorem TS.imp {c : Cx} {F : Nat → Prop} {V : Nat → Option Nat} {Dt Dt' Dv Dv' : Nat → Prop} {a : Act} {w : World} (h : TS c F V Dt Dv a w) (ht : ∀ t, Dt' t → Dt t) (hv : ∀ x, Dv x ↔ Dv' x) : TS c F V Dt' Dv' a w :=
  ⟨h.below, h.own, fun x g hx => by
    obtain ⟨h1, h2, h3, cs, T, h4, h5, h6⟩ := h.vars x g hx
    exact ⟨h1, h2, (hv _).1 h3, cs, T, h4, h5, fun hd => h6 ((hv _).2 hd)⟩, h.inj, fun x hd => h.stored x ((hv _).2 hd), fun t hd => h.tmp t (ht t hd), h.size, h.defers⟩
theorem Typed.imp {c : Cx} {Dt Dt' Dv Dv' : Nat → Prop} {a : Act} {w : World} (h : Typed c Dt Dv a w) (ht : ∀ t, Dt' t → Dt t) (hv : ∀ x, Dv x ↔ Dv' x) : Typed c Dt' Dv' a w :=
  let ⟨F, V, h⟩ := h; ⟨F, V, h.imp ht hv⟩
theorem Typed.drew {c : Cx} {Dt Dv : Nat → Prop} {a : Act} {w : World} (h : Typed c Dt Dv a w) : Typed c Dt Dv a { w with drawn := w.drawn + 1 } := by
  obtain ⟨F, V, h⟩ := h
  have hg : Grow F V w F V { w with drawn := w.drawn + 1 } := ⟨Nat.le_refl _, fun _ _ h => h, fun _ _ _ => rfl, fun _ _ h => h⟩
  refine ⟨F, V, ⟨h.below.os, h.below.tape, h.below.output, h.below.size, h.below.block⟩, h.own, fun x g hx => ?_, h.inj, h.stored, fun t ht => (c.ty t).keep hg _ (h.tmp t ht), h.size, h.defers⟩
  obtain ⟨h1, h2, h3, cs, T, h4, h5, h6⟩ := h.vars x g hx
  exact ⟨h1, h2, h3, cs, T, h4, h5, fun hd => (c.con x).keep hg _ (h6 hd)⟩

/-- One operation: ut: the slots that it looks at; uv: the marks that it needs; sv: the marks that it sets. -/
def StepOk (c : Cx) (Q : Exit → Act → World → Prop) (o : Oper) (ut uv sv : List Nat) : Prop :=
  ∀ Dt Dv a w, Typed c Dt Dv a w → (∀ t ∈ ut, Dt t) → (∀ x ∈ uv, Dv x) → (∀ x ∈ sv, ¬ Dv x) → ∀ K : Act → World → Prop,
    (∀ a' w', Typed c (fun t => Dt t ∨ o.dst = some t) (fun x => Dv x ∨ x ∈ sv) a' w' → K a' w') → o.wp c.P a w K Q

/-- The slots behind a step: the new one is known. -/
theorem tmp_put {c : Cx} {F F' : Nat → Prop} {V V' : Nat → Option Nat} {w w' : World} {Dt : Nat → Prop} {a : Act} {dst : Option Nat} {v : Value} (hg : Grow F V w F' V' w') (h : ∀ t, Dt t → (c.ty t).den F V w (a.tmps.getD t undef)) (hs : a.tmps.size = c.n)
    (hd : ∀ d, dst = some d → d < c.n ∧ (c.ty d).den F' V' w' v) : ∀ t, (Dt t ∨ dst = some t) → (c.ty t).den F' V' w' ((a.put dst v).tmps.getD t undef) := by
  intro t ht
  cases dst with
  | none =>
    rcases ht with ht | ht
    · exact (c.ty t).keep hg _ (h t ht)
    · cases ht
  | some d =>
    obtain ⟨hlt, hv⟩ := hd d rfl
    by_cases hdt : d = t
    · subst hdt
      have : (a.put (some d) v).tmps.getD d undef = v := by simp [Act.put, hs, hlt]
      rw [this]; exact hv
    · have : (a.put (some d) v).tmps.getD t undef = a.tmps.getD t undef := by simp [Act.put, Array.getElem?_setIfInBounds_ne hdt]
      rw [this]
      rcases ht with ht | ht
      · exact (c.ty t).keep hg _ (h t ht)
      · simp at ht; exact absurd ht hdt

theorem size_put (a : Act) (dst : Option Nat) (v : Value) : (a.put dst v).tmps.size = a.tmps.size := by cases dst <;> simp [Act.put]
theorem defers_put (a : Act) (dst : Option Nat) (v : Value) : (a.put dst v).defers = a.defers := by cases dst <;> rfl

/-- What only reads. -/
theorem step_read {c : Cx} {Q : Exit → Act → World → Prop} {o : Oper} {ut uv : List Nat}
    (hrun : ∀ F V Dt Dv a w, TS c F V Dt Dv a w → (∀ t ∈ ut, Dt t) → (∀ x ∈ uv, Dv x) → ∃ v, (execOp a.eval o).run c.P w = .ok (.value v) w ∧ ∀ d, o.dst = some d → d < c.n ∧ (c.ty d).den F V w v) : StepOk c Q o ut uv [] := by
  intro Dt Dv a w ⟨F, V, h⟩ ht hv _ K hK
  obtain ⟨v, hr, hd⟩ := hrun F V Dt Dv a w h ht hv
  unfold Oper.wp
  rw [hr]
  refine hK _ _ ⟨F, V, h.below, h.own, fun x g hx => ?_, h.inj, fun x hd => h.stored x (by simpa using hd), tmp_put (Grow.refl F V w) h.tmp h.size hd, by rw [size_put, h.size], by rw [defers_put, h.defers]⟩
  obtain ⟨h1, h2, h3, cs, T, h4, h5, h6⟩ := h.vars x g hx
  exact ⟨h1, h2, .inl h3, cs, T, h4, h5, fun hd => h6 (by simpa using hd)⟩

/-- What makes memory, and turns nothing that was there. -/
theorem TS.grown {c : Cx} {F : Nat → Prop} {V : Nat → Option Nat} {Dt Dv : Nat → Prop} {a : Act} {w : World} (h : TS c F V Dt Dv a w) {w' : World} (hb : Below w.heap.size w w') (hN : ∀ b, c.w0.heap.size ≤ b → c.S b) {dst : Option Nat} {v : Value}
    (hd : ∀ d, dst = some d → d < c.n ∧ (c.ty d).den (fun b => F b ∨ (w.heap.size ≤ b ∧ b < w'.heap.size)) V w' v) :
    TS c (fun b => F b ∨ (w.heap.size ≤ b ∧ b < w'.heap.size)) V (fun t => Dt t ∨ dst = some t) (fun x => Dv x ∨ x ∈ ([] : List Nat)) (a.put dst v) w' := by
  have hg : Grow F V w (fun b => F b ∨ (w.heap.size ≤ b ∧ b < w'.heap.size)) V w' := ⟨hb.size, fun _ _ h => .inl h, fun b hlt _ => hb.block b hlt, fun _ _ h => h⟩
  refine ⟨h.below.trans (hb.mono h.below.size), fun b hF => ?_, fun x g hx => ?_, h.inj, fun x hd => h.stored x (by simpa using hd), tmp_put hg h.tmp h.size hd, by rw [size_put, h.size], by rw [defers_put, h.defers]⟩
  · rcases hF with hF | ⟨h1, h2⟩
    · exact ⟨Nat.lt_of_lt_of_le (h.own b hF).1 hb.size, (h.own b hF).2⟩
    · exact ⟨h2, hN b (Nat.le_trans h.below.size h1)⟩
  · obtain ⟨h1, h2, h3, cs, T, h4, h5, h6⟩ := h.vars x g hx
    have hlt : g < w.heap.size := by
      rcases Nat.lt_or_ge g w.heap.size with hlt | hge
      · exact hlt
      · rw [Array.getElem?_eq_none hge] at h4; cases h4
    refine ⟨h1, fun hF => ?_, .inl h3, cs, T, (hb.block g hlt).trans h4, h5, fun hd => (c.con x).keep hg _ (h6 (by simpa using hd))⟩
    rcases hF with hF | ⟨h7, _⟩
    · exact h2 hF
    · omega

theorem step_make {c : Cx} {Q : Exit → Act → World → Prop} {o : Oper} {ut : List Nat} (hN : ∀ b, c.w0.heap.size ≤ b → c.S b)
    (hrun : ∀ F V Dt Dv a w, TS c F V Dt Dv a w → (∀ t ∈ ut, Dt t) → ∃ v w', (execOp a.eval o).run c.P w = .ok (.value v) w' ∧ Below w.heap.size w w' ∧ ∀ d, o.dst = some d → d < c.n ∧ (c.ty d).den (fun b => F b ∨ (w.heap.size ≤ b ∧ b < w'.heap.size)) V w' v) : StepOk c Q o ut [] [] := by
  intro Dt Dv a w ⟨F, V, h⟩ ht _ _ K hK
  obtain ⟨v, w', hr, hb, hd⟩ := hrun F V Dt Dv a w h ht
  unfold Oper.wp
  rw [hr]
  exact hK _ _ ⟨_, _, h.grown hb hN hd⟩

/-- A call. -/
theorem step_call {c : Cx} {Q : Exit → Act → World → Prop} {o : Oper} {ut uv : List Nat} (hN : ∀ b, c.w0.heap.size ≤ b → c.S b)
    (hrun : ∀ F V Dt Dv a w, TS c F V Dt Dv a w → (∀ t ∈ ut, Dt t) → (∀ x ∈ uv, Dv x) → ∃ f args, (execOp a.eval o).run c.P w = .ok (.enter f args) w ∧
      Calls c.P f args w fun e w' => ∃ v, e = .returned v ∧ Below w.heap.size w w' ∧ ∀ d, o.dst = some d → d < c.n ∧ (c.ty d).den (fun b => F b ∨ (w.heap.size ≤ b ∧ b < w'.heap.size)) V w' v) : StepOk c Q o ut uv [] := by
  intro Dt Dv a w ⟨F, V, h⟩ ht hv _ K hK
  obtain ⟨f, args, hr, hc⟩ := hrun F V Dt Dv a w h ht hv
  unfold Oper.wp
  rw [hr]
  refine Calls.mono hc ?_
  rintro e w' ⟨v, rfl, hb, hd⟩
  exact hK _ _ ⟨_, _, h.grown hb hN hd⟩

theorem TS.lt {c : Cx} {F : Nat → Prop} {V : Nat → Option Nat} {Dt Dv : Nat → Prop} {a : Act} {w : World} (h : TS c F V Dt Dv a w) : ∀ y g, V y = some g → g < w.heap.size := fun y g hy => by
  obtain ⟨_, _, _, cs, T', h4, _⟩ := h.vars y g hy
  rcases Nat.lt_or_ge g w.heap.size with hlt | hge
  · exact hlt
  · rw [Array.getElem?_eq_none hge] at h4; cases h4

/-- A variable is laid; with st it holds what it shall hold. -/
theorem step_newV {c : Cx} {Q : Exit → Act → World → Prop} {o : Oper} {d x : Nat} {ut : List Nat} (st : Bool) (hd : o.dst = some d) (hdn : d < c.n) (val : Nat → Value) (hden : ∀ F V w g, V x = some g → (c.ty d).den F V w (val g))
    (hrun : ∀ F V Dt Dv a w, TS c F V Dt Dv a w → (∀ t ∈ ut, Dt t) → ∃ z T, (execOp a.eval o).run c.P w = .ok (.value (val w.heap.size)) (w.alloc (.cells z T)) ∧ z.size = c.len x ∧ (st = true → (c.con x).den F V w (.agg z))) :
    StepOk c Q o ut [] (if st then [2 * x, 2 * x + 1] else [2 * x]) := by
  intro Dt Dv a w ⟨F, V, h⟩ hut _ hsv K hK
  obtain ⟨z, T, hr, hz, hst⟩ := hrun F V Dt Dv a w h hut
  unfold Oper.wp
  rw [hr]
  have hx : V x = none := by
    cases hV : V x with
    | none => rfl
    | some g => exact absurd (h.vars x g hV).2.2.1 (hsv _ (by cases st <;> simp))
  have hg : Grow F V w F (fun y => if y = x then some w.heap.size else V y) (w.alloc (.cells z T)) :=
    ⟨by simp, fun _ _ h => h, fun b hb _ => Below.heap_alloc _ _ _ hb, fun y g hy => by
      by_cases e : y = x
      · subst e; rw [hx] at hy; cases hy
      · simpa [e] using hy⟩
  have lt := h.lt
  have mk : ∀ y, y ∈ (if st = true then [2 * x, 2 * x + 1] else [2 * x]) ↔ (y = 2 * x ∨ (st = true ∧ y = 2 * x + 1)) := fun y => by cases st <;> simp
  refine hK _ _ ⟨F, fun y => if y = x then some w.heap.size else V y, h.below.alloc h.below.size _, fun b hb => ⟨Nat.lt_of_lt_of_le (h.own b hb).1 (by simp), (h.own b hb).2⟩, fun y g hy => ?_, fun y y' g hy hy' => ?_, fun y hdv => ?_, tmp_put hg h.tmp h.size ?_, by rw [size_put, h.size], by rw [defers_put, h.defers]⟩
  · by_cases e : y = x
    · subst e
      simp only [if_true, Option.some.injEq] at hy
      subst hy
      refine ⟨h.below.size, fun hF => ?_, .inr ((mk _).2 (.inl rfl)), z, T, heap_alloc_new w _, hz, fun hdv => ?_⟩
      · have := (h.own _ hF).1; omega
      · rcases hdv with hdv | hdv
        · obtain ⟨g, hg⟩ := h.stored _ hdv
          rw [hx] at hg; cases hg
        · rcases (mk _).1 hdv with e | ⟨e, _⟩
          · omega
          · exact (c.con y).keep hg _ (hst e)
    · simp only [e, if_false] at hy
      obtain ⟨h1, h2, h3, cs, T', h4, h5, h6⟩ := h.vars y g hy
      refine ⟨h1, h2, .inl h3, cs, T', (Below.heap_alloc _ _ _ (lt y g hy)).trans h4, h5, fun hdv => (c.con y).keep hg _ (h6 ?_)⟩
      rcases hdv with hdv | hdv
      · exact hdv
      · rcases (mk _).1 hdv with e | ⟨_, e⟩ <;> omega
  · by_cases e : y = x <;> by_cases e' : y' = x <;> simp only [e, e', if_true, if_false] at hy hy'
    · rw [e, e']
    · simp only [Option.some.injEq] at hy; have := lt y' g hy'; omega
    · simp only [Option.some.injEq] at hy'; have := lt y g hy; omega
    · exact h.inj y y' g hy hy'
  · rcases hdv with hdv | hdv
    · obtain ⟨g, hgy⟩ := h.stored _ hdv
      exact ⟨g, hg.var _ _ hgy⟩
    · rcases (mk _).1 hdv with e | ⟨_, e⟩
      · omega
      · obtain rfl : y = x := by omega
        exact ⟨w.heap.size, by simp⟩
  · intro d' hd'
    rw [hd] at hd'
    simp only [Option.some.injEq] at hd'
    subst hd'
    exact ⟨hdn, hden _ _ _ _ (by simp)⟩

theorem step_new {c : Cx} {Q : Exit → Act → World → Prop} {o : Oper} {d x : Nat} {ut : List Nat} (st : Bool) (hd : o.dst = some d) (hdn : d < c.n) (hty : c.ty d = AV.ptr x 0)
    (hrun : ∀ F V Dt Dv a w, TS c F V Dt Dv a w → (∀ t ∈ ut, Dt t) → ∃ z T, (execOp a.eval o).run c.P w = .ok (.value (.pointer (some ⟨w.heap.size, 0, none⟩))) (w.alloc (.cells z T)) ∧ z.size = c.len x ∧ (st = true → (c.con x).den F V w (.agg z))) :
    StepOk c Q o ut [] (if st then [2 * x, 2 * x + 1] else [2 * x]) :=
  step_newV st hd hdn (fun g => .pointer (some ⟨g, 0, none⟩)) (fun _ _ _ g hg => by rw [hty]; exact ⟨g, hg, rfl⟩) hrun

/-- A variable is stored. -/
theorem step_store {c : Cx} {Q : Exit → Act → World → Prop} {o : Oper} {x : Nat} {ut uv : List Nat} (hd : o.dst = none)
    (hrun : ∀ F V Dt Dv a w, TS c F V Dt Dv a w → (∀ t ∈ ut, Dt t) → (∀ x ∈ uv, Dv x) → ∃ g, V x = some g ∧ ∀ cs T, w.heap[g]? = some (.cells cs T (0, 0)) → cs.size = c.len x → ∃ cs' w', (execOp a.eval o).run c.P w = .ok .skip w' ∧
      w'.os = w.os ∧ w'.tape = w.tape ∧ w'.output = w.output ∧ w'.heap.size = w.heap.size ∧ w'.heap[g]? = some (.cells cs' T (0, 0)) ∧ (∀ b, b ≠ g → w'.heap[b]? = w.heap[b]?) ∧ cs'.size = c.len x ∧ (c.con x).den F V w (.agg cs')) :
    StepOk c Q o ut uv [2 * x + 1] := by
  intro Dt Dv a w ⟨F, V, h⟩ hut huv hsv K hK
  obtain ⟨g, hVg, hr⟩ := hrun F V Dt Dv a w h hut huv
  obtain ⟨h1, h2, h3, cs, T, h4, h5, h6⟩ := h.vars x g hVg
  obtain ⟨cs', w', hr, e1, e2, e3, e4, e5, e6, e7, e8⟩ := hr cs T h4 h5
  unfold Oper.wp
  rw [hr]
  have hg : Grow F V w F V w' := ⟨by omega, fun _ _ h => h, fun b _ hb => e6 b (fun e => h2 (e ▸ hb)), fun _ _ h => h⟩
  refine hK _ _ ⟨F, V, h.below.trans ⟨e1, e2, e3, by omega, fun k hk => e6 k (by omega)⟩, fun b hb => ⟨by rw [e4]; exact (h.own b hb).1, (h.own b hb).2⟩, fun y g' hy => ?_, h.inj, fun y hdv => ?_, ?_, by rw [size_put, h.size], by rw [defers_put, h.defers]⟩
  · by_cases e : y = x
    · subst e
      rw [hVg] at hy
      simp only [Option.some.injEq] at hy
      subst hy
      exact ⟨h1, h2, .inl h3, cs', T, e5, e7, fun _ => (c.con y).keep hg _ e8⟩
    · obtain ⟨k1, k2, k3, cs2, T2, k4, k5, k6⟩ := h.vars y g' hy
      have hne : g' ≠ g := fun e' => e (h.inj y x g' hy (by rw [e']; exact hVg))
      refine ⟨k1, k2, .inl k3, cs2, T2, (e6 g' hne).trans k4, k5, fun hdv => (c.con y).keep hg _ (k6 ?_)⟩
      rcases hdv with hdv | hdv
      · exact hdv
      · simp at hdv; omega
  · rcases hdv with hdv | hdv
    · exact h.stored _ hdv
    · simp at hdv; obtain rfl : y = x := by omega
      exact ⟨g, hVg⟩
  · rw [hd]
    intro t ht
    rcases ht with ht | ht
    · exact (c.ty t).keep hg _ (h.tmp t ht)
    · cases ht

/-- What the operations of a region look at and set, against its edges. -/
def regCheck (ops : Array Oper) (D0 V0 : List Nat) (U : List (List Nat × List Nat × List Nat)) : Bool :=
  U.length == ops.size && (List.range ops.size).all fun i => match ops[i]?, U[i]? with
  | some o, some u => o.guard.isNone && (u.1.all fun t => D0.contains t || o.after.any fun e => Region.binds .any e && ((ops[e.on]?).bind (·.dst)) == some t) &&
      (u.2.1.all fun x => V0.contains x || o.after.any fun e => Region.binds .any e && ((U[e.on]?).map fun u => u.2.2.contains x) == some true) &&
      (u.2.2.all fun x => !V0.contains x && (List.range U.length).all fun j => j == i || !((U[j]?).map fun u => u.2.2.contains x) == some true)
  | _, _ => false

def AllSteps (c : Cx) (Q : Exit → Act → World → Prop) : List Oper → List (List Nat × List Nat × List Nat) → Prop
  | o :: os, u :: us => StepOk c Q o u.1 u.2.1 u.2.2 ∧ AllSteps c Q os us
  | _, _ => True

theorem AllSteps.get {c : Cx} {Q : Exit → Act → World → Prop} : ∀ {os : List Oper} {us : List (List Nat × List Nat × List Nat)}, AllSteps c Q os us → ∀ (i : Nat) (o : Oper) (u : List Nat × List Nat × List Nat), os[i]? = some o → us[i]? = some u → StepOk c Q o u.1 u.2.1 u.2.2
  | o :: os, u :: us, h, 0, o', u', ho, hu => by
    simp at ho hu; subst ho hu; exact h.1
  | o :: os, u :: us, h, i + 1, o', u', ho, hu => AllSteps.get h.2 i o' u' (by simpa using ho) (by simpa using hu)
  | [], _, _, _, _, _, ho, _ => by simp at ho
  | _ :: _, [], _, _, _, _, _, hu => by simp at hu

theorem typed_region {c : Cx} {Q : Exit → Act → World → Prop} {id : Nat} {draws : Bool} {ops : Array Oper} {a : Act} {w : World} (hm : c.P.follows .mixedOrders = true) (hb : edgesBack ops = true)
    (D0 V0 : List Nat) (U : List (List Nat × List Nat × List Nat)) (hchk : regCheck ops D0 V0 U = true) (hsteps : AllSteps c Q ops.toList U)
    (h : Typed c (· ∈ D0) (· ∈ V0) a w)
    (hQ : ∀ a' w', Typed c (· ∈ D0 ++ ops.toList.filterMap (·.dst)) (· ∈ V0 ++ U.flatMap (·.2.2)) a' w' → Q .normal a' w') : (Code.region id ops draws).wp c.P Q a w := by
  simp only [regCheck, Bool.and_eq_true, beq_iff_eq, List.all_eq_true, List.mem_range] at hchk
  obtain ⟨hlen, hchk⟩ := hchk
  let Inv : Array Bool → Act → World → Prop := fun listed a w => Typed c (fun t => t ∈ D0 ∨ ∃ i o, listed.getD i false = true ∧ ops[i]? = some o ∧ o.dst = some t)
    (fun x => x ∈ V0 ∨ ∃ i u, listed.getD i false = true ∧ U[i]? = some u ∧ x ∈ u.2.2) a w
  have base : ∀ {a w}, Typed c (· ∈ D0) (· ∈ V0) a w → Inv (Array.replicate ops.size false) a w := fun {a w} h => by
    refine h.imp (fun t ht => ?_) (fun x => ?_)
    · rcases ht with ht | ⟨i, o, hi, _⟩
      · exact ht
      · exfalso; by_cases hlt : i < ops.size <;> simp [Array.getD, hlt] at hi
    · refine ⟨.inl, fun hx => ?_⟩
      rcases hx with hx | ⟨i, o, hi, _⟩
      · exact hx
      · exfalso; by_cases hlt : i < ops.size <;> simp [Array.getD, hlt] at hi
  refine wp_region_inv (Inv := Inv) hm hb ?_ ?_ (base h) (base h.drew)
  · intro listed a w i o hI hs ho hun hall
    have hi : i < ops.size := (Array.getElem?_eq_some_iff.1 ho).1
    have hc := hchk i hi
    obtain ⟨u, hu⟩ : ∃ u, U[i]? = some u := ⟨U[i]'(by omega), List.getElem?_eq_getElem (by omega)⟩
    rw [ho, hu] at hc
    simp only [Bool.and_eq_true, List.all_eq_true, Option.isNone_iff_eq_none, Bool.or_eq_true, Array.any_eq_true, List.contains_iff_mem, beq_iff_eq, Bool.not_eq_true', List.mem_range] at hc
    obtain ⟨⟨⟨c1, c2⟩, c3⟩, c4⟩ := hc
    have hst := hsteps.get i o u (by simpa using ho) hu
    unfold wpOp
    simp only [ho]
    have hw : Region.wanted o (yielded ops a.tmps) = true := by simp [Region.wanted, c1]
    rw [if_pos hw]
    refine .inl (hst _ _ a w hI (fun t ht => ?_) (fun x hx => ?_) (fun x hx => ?_) _ (fun a' w' h' => ?_))
    · rcases c2 t ht with hd | ⟨k, hk, hbd, hdst⟩
      · exact .inl hd
      · refine .inr ⟨o.after[k].on, ?_⟩
        have hl := hall _ (Array.getElem_mem hk) hbd
        cases hoo : ops[o.after[k].on]? with
        | none => rw [hoo] at hdst; cases hdst
        | some o' => rw [hoo] at hdst; exact ⟨o', hl, rfl, by simpa using hdst⟩
    · rcases c3 x hx with hd | ⟨k, hk, hbd, hdst⟩
      · exact .inl hd
      · refine .inr ⟨o.after[k].on, ?_⟩
        have hl := hall _ (Array.getElem_mem hk) hbd
        cases hoo : U[o.after[k].on]? with
        | none => rw [hoo] at hdst; cases hdst
        | some u' => rw [hoo] at hdst; exact ⟨u', hl, rfl, by simpa using hdst⟩
    · rintro (hd | ⟨j, u', hj, hu', hxu⟩)
      · have := (c4 x hx).1; simp at this; exact this hd
      · have hjl : j < U.length := (List.getElem?_eq_some_iff.1 hu').1
        have hne : j ≠ i := by
          rintro rfl
          have hj' : j < listed.size := by omega
          simp [Array.getD, hj'] at hj hun
          rw [hun] at hj; cases hj
        have := (c4 x hx).2 j hjl
        rw [hu'] at this
        simp [hne, hxu] at this
    · refine h'.imp (fun t ht => ?_) (fun x => ?_)
      · rcases ht with ht | ⟨j, o', hj, ho', hd⟩
        · exact .inl (.inl ht)
        · by_cases hij : i = j
          · subst hij; rw [ho] at ho'; simp at ho'; subst ho'; exact .inr hd
          · rw [getD_set_ne false hij] at hj; exact .inl (.inr ⟨j, o', hj, ho', hd⟩)
      · constructor
        · rintro ((hx | ⟨j, u', hj, hu', hxu⟩) | hx)
          · exact .inl hx
          · exact .inr ⟨j, u', getD_set_true hj, hu', hxu⟩
          · refine .inr ⟨i, u, ?_, hu, hx⟩
            have hi' : i < listed.size := by omega
            simp [Array.getD, hi']
        · rintro (hx | ⟨j, u', hj, hu', hxu⟩)
          · exact .inl (.inl hx)
          · by_cases hij : i = j
            · subst hij; rw [hu] at hu'; simp at hu'; subst hu'; exact .inr hxu
            · rw [getD_set_ne false hij] at hj; exact .inl (.inr ⟨j, u', hj, hu', hxu⟩)
  · intro listed a w hI hs hall
    refine hQ _ _ (hI.imp (fun t ht => ?_) (fun x => ?_))
    · rcases List.mem_append.1 ht with ht | ht
      · exact .inl ht
      · obtain ⟨o, ho, hd⟩ := List.mem_filterMap.1 ht
        obtain ⟨i, hi, he⟩ := List.getElem_of_mem ho
        have hi' : i < ops.size := by simpa using hi
        exact .inr ⟨i, o, hall i hi', by simp at he; simp [hi', he], hd⟩
    · rw [List.mem_append, List.mem_flatMap]
      constructor
      · rintro (hx | ⟨i, u, hl, hu, hx⟩)
        · exact .inl hx
        · exact .inr ⟨u, List.mem_of_getElem? hu, hx⟩
      · rintro (hx | ⟨u, hu, hx⟩)
        · exact .inl hx
        · obtain ⟨i, hi, he⟩ := List.getElem_of_mem hu
          exact .inr ⟨i, u, hall i (by omega), by simp [hi, he], hx⟩

end Go.Proofs.YtgohnekaolgblaaGreat
