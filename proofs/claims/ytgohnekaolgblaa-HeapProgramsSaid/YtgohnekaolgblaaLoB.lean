/- heap's makers of programs: contracts (printed by wip/gen_lob.py). -/
import Derived.Test.YtgohnekaolgblaaLo
namespace Go.Proofs.Ytgohnekaolgblaa
open Go.RowKit

/-- All blocks that come are of the set. -/
def New (S : Nat → Prop) (w : World) : Prop := ∀ b, w.heap.size ≤ b → S b
theorem New.mono {S : Nat → Prop} {w w' : World} (h : New S w) (hs : w.heap.size ≤ w'.heap.size) : New S w' := fun b hb => h b (Nat.le_trans hs hb)

theorem loNum (S : Nat → Prop) (n : Int) (w : World) (_hN : New S w) : Calls Try.prog 90 #[.int .i64 n] w fun e w' => ∃ v, e = .returned v ∧ Ex.at S w' (.mk 1 n []) v ∧ Below w.heap.size w w' := by
  go_enter Try.func90, Try.ntmps90
  go_wp2_with fail
  go_returns
  exact ⟨_, rfl, Ex.at_mk.2 ⟨_, rfl, ExL.nil _ _⟩, (B.alloc (B.refl w) _)⟩

theorem loLocal (S : Nat → Prop) (n : Int) (w : World) (_hN : New S w) : Calls Try.prog 86 #[.int .i64 n] w fun e w' => ∃ v, e = .returned v ∧ Ex.at S w' (.mk 2 n []) v ∧ Below w.heap.size w w' := by
  go_enter Try.func86, Try.ntmps86
  go_wp2_with fail
  go_returns
  exact ⟨_, rfl, Ex.at_mk.2 ⟨_, rfl, ExL.nil _ _⟩, (B.alloc (B.refl w) _)⟩

theorem loGlobal (S : Nat → Prop) (n : Int) (w : World) (_hN : New S w) : Calls Try.prog 93 #[.int .i64 n] w fun e w' => ∃ v, e = .returned v ∧ Ex.at S w' (.mk 3 n []) v ∧ Below w.heap.size w w' := by
  go_enter Try.func93, Try.ntmps93
  go_wp2_with fail
  go_returns
  exact ⟨_, rfl, Ex.at_mk.2 ⟨_, rfl, ExL.nil _ _⟩, (B.alloc (B.refl w) _)⟩

theorem loLoad (S : Nat → Prop) (t0 : Ex) (v0 : Value) (w : World) (hN : New S w) (h0 : Ex.at S w t0 v0) : Calls Try.prog 85 #[v0] w fun e w' => ∃ v, e = .returned v ∧ Ex.at S w' (.mk 4 0 [t0]) v ∧ Below w.heap.size w w' := by
  obtain ⟨k0, n0, l0⟩ := t0
  obtain ⟨A0, c0, rfl⟩ := Ex.agg h0
  replace h0 := Lib.hid h0
  replace hN := Lib.hid hN
  go_enter Try.func85, Try.ntmps85
  go_wp2_with fail
  go_returns
  exact ⟨_, rfl, Ex.at_mk.2 ⟨_, rfl, (ExL.of _ (ExV.cons ((h0.out.alloc _).alloc _) (ExV.nil _ _)) _ _ rfl (by simp [maxLen]) _ (by simp) (hN.out _ (by first | omega | simp)))⟩, (B.alloc (B.alloc (B.alloc (B.refl w) _) _) _)⟩

theorem loNot (S : Nat → Prop) (t0 : Ex) (v0 : Value) (w : World) (hN : New S w) (h0 : Ex.at S w t0 v0) : Calls Try.prog 99 #[v0] w fun e w' => ∃ v, e = .returned v ∧ Ex.at S w' (.mk 6 69 [t0]) v ∧ Below w.heap.size w w' := by
  obtain ⟨k0, n0, l0⟩ := t0
  obtain ⟨A0, c0, rfl⟩ := Ex.agg h0
  replace h0 := Lib.hid h0
  replace hN := Lib.hid hN
  go_enter Try.func99, Try.ntmps99
  go_wp2_with fail
  go_returns
  exact ⟨_, rfl, Ex.at_mk.2 ⟨_, rfl, (ExL.of _ (ExV.cons ((h0.out.alloc _).alloc _) (ExV.nil _ _)) _ _ rfl (by simp [maxLen]) _ (by simp) (hN.out _ (by first | omega | simp)))⟩, (B.alloc (B.alloc (B.alloc (B.refl w) _) _) _)⟩

theorem loTwo (S : Nat → Prop) (op : Int) (t0 : Ex) (v0 : Value) (t1 : Ex) (v1 : Value) (w : World) (hN : New S w) (h0 : Ex.at S w t0 v0) (h1 : Ex.at S w t1 v1) : Calls Try.prog 92 #[.int .i64 op, v0, v1] w fun e w' => ∃ v, e = .returned v ∧ Ex.at S w' (.mk 7 op [t0, t1]) v ∧ Below w.heap.size w w' := by
  obtain ⟨k0, n0, l0⟩ := t0
  obtain ⟨A0, c0, rfl⟩ := Ex.agg h0
  obtain ⟨k1, n1, l1⟩ := t1
  obtain ⟨A1, c1, rfl⟩ := Ex.agg h1
  replace h0 := Lib.hid h0
  replace h1 := Lib.hid h1
  replace hN := Lib.hid hN
  go_enter Try.func92, Try.ntmps92
  go_wp2_with fail
  go_returns
  exact ⟨_, rfl, Ex.at_mk.2 ⟨_, rfl, (ExL.of _ (ExV.cons (((h0.out.alloc _).alloc _).alloc _) (ExV.cons (((h1.out.alloc _).alloc _).alloc _) (ExV.nil _ _))) _ _ rfl (by simp [maxLen]) _ (by simp) (hN.out _ (by first | omega | simp)))⟩, (B.alloc (B.alloc (B.alloc (B.alloc (B.refl w) _) _) _) _)⟩

theorem loSet (S : Nat → Prop) (x : Int) (t0 : Ex) (v0 : Value) (w : World) (hN : New S w) (h0 : Ex.at S w t0 v0) : Calls Try.prog 88 #[.int .i64 x, v0] w fun e w' => ∃ v, e = .returned v ∧ Lo.at S w' (.mk 1 x 0 [t0] []) v ∧ Below w.heap.size w w' := by
  obtain ⟨k0, n0, l0⟩ := t0
  obtain ⟨A0, c0, rfl⟩ := Ex.agg h0
  replace h0 := Lib.hid h0
  replace hN := Lib.hid hN
  go_enter Try.func88, Try.ntmps88
  go_wp2_with fail
  go_returns
  exact ⟨_, rfl, Lo.at_mk.2 ⟨_, _, rfl, (ExL.of _ (ExV.cons ((h0.out.alloc _).alloc _) (ExV.nil _ _)) _ _ rfl (by simp [maxLen]) _ (by simp) (hN.out _ (by first | omega | simp))), LoL.nil _ _⟩, (B.alloc (B.alloc (B.alloc (B.refl w) _) _) _)⟩

theorem loPut (S : Nat → Prop) (x : Int) (t0 : Ex) (v0 : Value) (w : World) (hN : New S w) (h0 : Ex.at S w t0 v0) : Calls Try.prog 95 #[.int .i64 x, v0] w fun e w' => ∃ v, e = .returned v ∧ Lo.at S w' (.mk 2 x 0 [t0] []) v ∧ Below w.heap.size w w' := by
  obtain ⟨k0, n0, l0⟩ := t0
  obtain ⟨A0, c0, rfl⟩ := Ex.agg h0
  replace h0 := Lib.hid h0
  replace hN := Lib.hid hN
  go_enter Try.func95, Try.ntmps95
  go_wp2_with fail
  go_returns
  exact ⟨_, rfl, Lo.at_mk.2 ⟨_, _, rfl, (ExL.of _ (ExV.cons ((h0.out.alloc _).alloc _) (ExV.nil _ _)) _ _ rfl (by simp [maxLen]) _ (by simp) (hN.out _ (by first | omega | simp))), LoL.nil _ _⟩, (B.alloc (B.alloc (B.alloc (B.refl w) _) _) _)⟩

theorem loStore (S : Nat → Prop) (t0 : Ex) (v0 : Value) (t1 : Ex) (v1 : Value) (w : World) (hN : New S w) (h0 : Ex.at S w t0 v0) (h1 : Ex.at S w t1 v1) : Calls Try.prog 87 #[v0, v1] w fun e w' => ∃ v, e = .returned v ∧ Lo.at S w' (.mk 3 0 0 [t0, t1] []) v ∧ Below w.heap.size w w' := by
  obtain ⟨k0, n0, l0⟩ := t0
  obtain ⟨A0, c0, rfl⟩ := Ex.agg h0
  obtain ⟨k1, n1, l1⟩ := t1
  obtain ⟨A1, c1, rfl⟩ := Ex.agg h1
  replace h0 := Lib.hid h0
  replace h1 := Lib.hid h1
  replace hN := Lib.hid hN
  go_enter Try.func87, Try.ntmps87
  go_wp2_with fail
  go_returns
  exact ⟨_, rfl, Lo.at_mk.2 ⟨_, _, rfl, (ExL.of _ (ExV.cons (((h0.out.alloc _).alloc _).alloc _) (ExV.cons (((h1.out.alloc _).alloc _).alloc _) (ExV.nil _ _))) _ _ rfl (by simp [maxLen]) _ (by simp) (hN.out _ (by first | omega | simp))), LoL.nil _ _⟩, (B.alloc (B.alloc (B.alloc (B.alloc (B.refl w) _) _) _) _)⟩

theorem loTell (S : Nat → Prop) (t0 : Ex) (v0 : Value) (w : World) (hN : New S w) (h0 : Ex.at S w t0 v0) : Calls Try.prog 98 #[v0] w fun e w' => ∃ v, e = .returned v ∧ Lo.at S w' (.mk 9 0 0 [t0] []) v ∧ Below w.heap.size w w' := by
  obtain ⟨k0, n0, l0⟩ := t0
  obtain ⟨A0, c0, rfl⟩ := Ex.agg h0
  replace h0 := Lib.hid h0
  replace hN := Lib.hid hN
  go_enter Try.func98, Try.ntmps98
  go_wp2_with fail
  go_returns
  exact ⟨_, rfl, Lo.at_mk.2 ⟨_, _, rfl, (ExL.of _ (ExV.cons ((h0.out.alloc _).alloc _) (ExV.nil _ _)) _ _ rfl (by simp [maxLen]) _ (by simp) (hN.out _ (by first | omega | simp))), LoL.nil _ _⟩, (B.alloc (B.alloc (B.alloc (B.refl w) _) _) _)⟩

theorem loWhen (S : Nat → Prop) (t0 : Ex) (v0 : Value) (l : List Lo) (vl : Value) (w : World) (hN : New S w) (h0 : Ex.at S w t0 v0) (hl : LoL S w l vl) : Calls Try.prog 91 #[v0, vl] w fun e w' => ∃ v, e = .returned v ∧ Lo.at S w' (.mk 5 0 0 [t0] l) v ∧ Below w.heap.size w w' := by
  obtain ⟨k0, n0, l0⟩ := t0
  obtain ⟨A0, c0, rfl⟩ := Ex.agg h0
  obtain ⟨A, c, rfl, q1, q2, q3⟩ := hl
  have hl : LoL S w l (.slice A l.length c) := ⟨A, c, rfl, q1, q2, q3⟩
  clear q3
  replace h0 := Lib.hid h0
  replace hl := Lib.hid hl
  replace hN := Lib.hid hN
  go_enter Try.func91, Try.ntmps91
  go_wp2_with fail
  go_returns
  exact ⟨_, rfl, Lo.at_mk.2 ⟨_, _, rfl, (ExL.of _ (ExV.cons ((h0.out.alloc _).alloc _) (ExV.nil _ _)) _ _ rfl (by simp [maxLen]) _ (by simp) (hN.out _ (by first | omega | simp))), (((hl.out.alloc _).alloc _).alloc _)⟩, (B.alloc (B.alloc (B.alloc (B.refl w) _) _) _)⟩

theorem loLoop (S : Nat → Prop) (l : List Lo) (vl : Value) (w : World) (_hN : New S w) (hl : LoL S w l vl) : Calls Try.prog 96 #[vl] w fun e w' => ∃ v, e = .returned v ∧ Lo.at S w' (.mk 6 0 0 [] l) v ∧ Below w.heap.size w w' := by
  obtain ⟨A, c, rfl, q1, q2, q3⟩ := hl
  have hl : LoL S w l (.slice A l.length c) := ⟨A, c, rfl, q1, q2, q3⟩
  clear q3
  replace hl := Lib.hid hl
  go_enter Try.func96, Try.ntmps96
  go_wp2_with fail
  go_returns
  exact ⟨_, rfl, Lo.at_mk.2 ⟨_, _, rfl, ExL.nil _ _, (hl.out.alloc _)⟩, (B.alloc (B.refl w) _)⟩

theorem loLeave (S : Nat → Prop) (w : World) (_hN : New S w) : Calls Try.prog 94 #[] w fun e w' => ∃ v, e = .returned v ∧ Lo.at S w' (.mk 7 0 0 [] []) v ∧ Below w.heap.size w w' := by
  go_enter Try.func94, Try.ntmps94
  go_wp2_with fail
  go_returns
  exact ⟨_, rfl, Lo.at_mk.2 ⟨_, _, rfl, ExL.nil _ _, LoL.nil _ _⟩, (B.alloc (B.refl w) _)⟩

theorem loCall (S : Nat → Prop) (x : Int) (n : Int) (l : List Ex) (vl : Value) (w : World) (_hN : New S w) (hl : ExL S w l vl) : Calls Try.prog 84 #[.int .i64 x, .int .i64 n, vl] w fun e w' => ∃ v, e = .returned v ∧ Lo.at S w' (.mk 10 x n l []) v ∧ Below w.heap.size w w' := by
  obtain ⟨A, c, rfl, q1, q2, q3⟩ := hl
  have hl : ExL S w l (.slice A l.length c) := ⟨A, c, rfl, q1, q2, q3⟩
  clear q3
  replace hl := Lib.hid hl
  go_enter Try.func84, Try.ntmps84
  go_wp2_with fail
  go_returns
  exact ⟨_, rfl, Lo.at_mk.2 ⟨_, _, rfl, (hl.out.alloc _), LoL.nil _ _⟩, (B.alloc (B.refl w) _)⟩

theorem loAdd (S : Nat → Prop) (t0 : Ex) (v0 : Value) (t1 : Ex) (v1 : Value) (w : World) (hN : New S w) (h0 : Ex.at S w t0 v0) (h1 : Ex.at S w t1 v1) : Calls Try.prog 89 #[v0, v1] w fun e w' => ∃ v, e = .returned v ∧ Ex.at S w' (.mk 7 106 [t0, t1]) v ∧ Below w.heap.size w w' := by
  obtain ⟨k0, n0, l0⟩ := t0
  obtain ⟨A0, c0, rfl⟩ := Ex.agg h0
  obtain ⟨k1, n1, l1⟩ := t1
  obtain ⟨A1, c1, rfl⟩ := Ex.agg h1
  replace h0 := Lib.hid h0
  replace h1 := Lib.hid h1
  replace hN := Lib.hid hN
  go_enter Try.func89, Try.ntmps89
  go_wp2_with fail
  have hs : ∀ (t : Ex) (v : Value), Ex.at S w t v → Ex.at (fun b => S b ∧ b ≠ w.heap.size + 1 + 1) w t v := fun t v h => h.mono fun b hb hS => ⟨hS, by omega⟩
  refine (loTwo (fun b => S b ∧ b ≠ w.heap.size + 1 + 1) 106 (.mk k0 n0 l0) _ (.mk k1 n1 l1) _ _ (fun b hb => ⟨hN.out b (by simp at hb; omega), by simp at hb; omega⟩) ((((hs _ _ h0.out).alloc _).alloc _).alloc _) ((((hs _ _ h1.out).alloc _).alloc _).alloc _)).mono ?_
  rintro _ w1 ⟨v, rfl, hv, b1⟩
  have BB := Lib.hid (B.call (B.alloc (B.alloc (B.alloc (B.refl w) _) _) _) b1)
  have hc := (VB.new ((w.alloc (.cells #[.int .i64 k0, .int .i64 n0, .slice A0 l0.length c0] 126)).alloc (.cells #[.int .i64 k1, .int .i64 n1, .slice A1 l1.length c1] 126)) 126 #[.int .i64 0, .int .i64 0, .slice none 0 0]).call b1
  simp only [World.size_alloc] at hc
  have c0' := hc.cell 0
  have c1' := hc.cell 1
  have c2' := hc.cell 2
  have f0 := hc.free 0
  have f1 := hc.free 1
  have f2 := hc.free 2
  simp at c0' c1' c2'
  obtain ⟨A, c, rfl⟩ := Ex.agg hv
  replace hv := Lib.hid hv
  replace hc := Lib.hid hc
  clear b1 hs
  go_wp2_with fail
  have v3 := ((hc.out.set 0 (.int .i64 7)).set 1 (.int .i64 106)).set 2 (.slice A 2 c)
  have hv3 := Lib.hid ((((hv.out.set (by simp) _).set (by simp) _).set (by simp) _).mono (fun b _ h => h.1) : Ex.at S (((w1.setCell ⟨w.heap.size + 1 + 1, 0, none⟩ (.int .i64 7)).setCell ⟨w.heap.size + 1 + 1, 1, none⟩ (.int .i64 106)).setCell ⟨w.heap.size + 1 + 1, 2, none⟩ (.slice A 2 c)) _ _)
  have b3 := Lib.hid (((BB.out.setCell (p := ⟨w.heap.size + 1 + 1, 0, none⟩) (by simp only; omega) (.int .i64 7)).setCell (p := ⟨w.heap.size + 1 + 1, 1, none⟩) (by simp only; omega) (.int .i64 106)).setCell (p := ⟨w.heap.size + 1 + 1, 2, none⟩) (by simp only; omega) (.slice A 2 c))
  obtain ⟨w2, hw2⟩ : ∃ w2, w2 = (((w1.setCell ⟨w.heap.size + 1 + 1, 0, none⟩ (.int .i64 7)).setCell ⟨w.heap.size + 1 + 1, 1, none⟩ (.int .i64 106)).setCell ⟨w.heap.size + 1 + 1, 2, none⟩ (.slice A 2 c)) := ⟨_, rfl⟩
  rw [← hw2] at v3 hv3 b3 ⊢
  clear hw2 c0' c1' c2' f0 f1 f2 BB hv
  have c0' := v3.cell 0
  have c1' := v3.cell 1
  have c2' := v3.cell 2
  simp at c0' c1' c2'
  refine bodyPost_ret (v := .agg #[.int .i64 7, .int .i64 106, .slice A 2 c]) (by simp [results, Try.results89, go_sem, c0', c1', c2']) rfl ⟨_, rfl, hv3.out, b3.out⟩

end Go.Proofs.Ytgohnekaolgblaa
