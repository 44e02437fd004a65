/- heap.Program: contract (printed by wip/gen_loprog.py). -/
import Derived.Test.YtgohnekaolgblaaLfProgA
namespace Go.Proofs.Ytgohnekaolgblaa
open Go.RowKit

/-- The functions of a program with a heap. -/
def heapFns (stack : Int) : List Fx := [⟨0, 0, []⟩, ⟨0, 5, collectL stack⟩, ⟨1, 1, takerL⟩, ⟨1, 4, movingL⟩]
noncomputable def progTy (p0 p1 p2 p3 p4 pg : Int) : List AV := [
  AV.raw (.int .i64 pg),
  AV.any,
  AV.any,
  AV.any,
  AV.ptr 4 0,
  AV.raw (.int .i64 0),
  AV.ptr 6 0,
  AV.any,
  AV.any,
  AV.any,
  AV.any,
  AV.any,
  AV.any,
  AV.any,
  AV.any,
  AV.any,
  AV.any,
  AV.any,
  AV.fn 0 0 [],
  AV.raw (.agg #[.int .u32 p0, .int .u32 p1, .int .u32 p2, .int .u32 p3, .int .u32 p4]),
  AV.fn 0 5 (collectL p1),
  AV.fn 1 1 takerL,
  AV.fn 1 4 movingL,
  AV.fns (heapFns p1),
  AV.ptr 6 1,
  AV.raw (.int .u32 p1),
  AV.ptr 6 2,
  AV.raw (.int .u32 p2),
  AV.ptr 6 2,
  AV.raw (.int .u32 p2),
  AV.ptr 6 3,
  AV.raw (.int .u32 p3),
  AV.ptr 6 3,
  AV.raw (.int .u32 p3),
  AV.slc 34 5,
  AV.raw (.int .i64 pg),
  AV.prg (heapFns p1) 34 5 pg 0]
noncomputable def progCon (p0 p1 p2 p3 p4 pg : Int) : List AV := [
  AV.any,
  AV.any,
  AV.any,
  AV.any,
  AV.prg (heapFns p1) 34 5 pg 0,
  AV.any,
  AV.raw (.agg #[.int .u32 p0, .int .u32 p1, .int .u32 p2, .int .u32 p3, .int .u32 p4]),
  AV.any,
  AV.any,
  AV.any,
  AV.any,
  AV.any,
  AV.any,
  AV.any,
  AV.any,
  AV.any,
  AV.any,
  AV.any,
  AV.any,
  AV.any,
  AV.any,
  AV.any,
  AV.any,
  AV.any,
  AV.any,
  AV.any,
  AV.any,
  AV.any,
  AV.any,
  AV.any,
  AV.any,
  AV.any,
  AV.any,
  AV.any,
  AV.raw (.agg #[.int .u32 p1, .int .u32 p2, .int .u32 p2, .int .u32 p3, .int .u32 p3])]
noncomputable def progCx (p0 p1 p2 p3 p4 pg : Int) (S : Nat → Prop) (w : World) : Cx := ⟨Try.prog, fun t => (progTy p0 p1 p2 p3 p4 pg).getD t AV.any, fun x => (progCon p0 p1 p2 p3 p4 pg).getD x AV.any, fun _ => 5, S, w, 37⟩

/-- What is told where there is a plan: the functions, the lasting words in a block of their own. -/
def ProgAt (S : Nat → Prop) (w0 w : World) (fs : List Fx) (gl : List Int) (pages main : Int) (v : Value) : Prop :=
  ∃ F uf g T, v = .agg #[uf, .slice (some ⟨g, 0, none⟩) gl.length gl.length, .slice none 0 0, .int .i64 pages, .int .i64 main] ∧ FxL F w fs uf ∧ (∀ b, F b → S b) ∧ ¬ F g ∧ w0.heap.size ≤ g ∧ w.heap[g]? = some (.cells (gl.map (Value.int .u32)).toArray T (0, 0))

theorem pair_no (p s : Int) (h : ¬ Wd.planOk p s) : tupP p s = .tuple #[.agg #[.int .u32 0, .int .u32 0, .int .u32 0, .int .u32 0, .int .u32 0], .int .i64 5] := by unfold tupP; rw [if_neg h]
theorem pair_ok (p s : Int) (h : Wd.planOk p s) : tupP p s = .tuple #[.agg #[.int .u32 16, .int .u32 (Wd.stack s), .int .u32 (Wd.one p s), .int .u32 (Wd.one p s + Wd.space p s), .int .u32 (Wd.one p s + 2 * Wd.space p s)], .int .i64 0] := by unfold tupP; rw [if_pos h]

set_option maxRecDepth 100000 in
set_option maxHeartbeats 4000000 in
theorem loProgNo (p s : Int) (w : World) (h0 : 0 ≤ s) (h1 : s < 4294967296) (h : ¬ Wd.planOk p s) : Calls Try.prog 16 #[.int .i64 p, .int .u32 s] w fun e w' => e = .returned (.tuple #[.agg #[.slice none 0 0, .slice none 0 0, .slice none 0 0, .int .i64 0, .int .i64 0], .int .i64 5]) ∧ Below w.heap.size w w' := by
  have C1 := fun w => wdPlanAll p s w h0 h1
  rw [pair_no p s h] at C1
  replace C1 := Lib.hid C1
  clear h h0 h1
  go_enter Try.func16, Try.ntmps16
  go_wp2_with fail
  refine (C1.out _).mono ?_
  rintro _ w1 ⟨rfl, b1⟩
  have v1 := VB.call (VB.new w 27 #[.slice none 0 0, .slice none 0 0, .slice none 0 0, .int .i64 0, .int .i64 0]) b1
  have v2 := v1.alloc (.cells #[.int .u32 0, .int .u32 0, .int .u32 0, .int .u32 0, .int .u32 0] 32)
  have x0 := v2.cell 0
  have x1 := v2.cell 1
  have x2 := v2.cell 2
  have x3 := v2.cell 3
  have x4 := v2.cell 4
  have y0 := v2.free 0
  have y1 := v2.free 1
  have y2 := v2.free 2
  have y3 := v2.free 3
  have y4 := v2.free 4
  simp at x0 x1 x2 x3 x4
  replace b1 := Lib.hid b1
  replace v2 := Lib.hid v2
  clear v1 C1
  go_wp2_with fail
  have v3 := VB.set5 v2.out (.slice none 0 0) (.slice none 0 0) (.slice none 0 0) (.int .i64 0) (.int .i64 0)
  have b3 := Lib.hid (B.set5 (t := w.heap.size) (B.alloc (B.call (B.alloc (B.refl w) _) b1.out) (.cells #[.int .u32 0, .int .u32 0, .int .u32 0, .int .u32 0, .int .u32 0] 32)) (Nat.le_refl _) (.slice none 0 0) (.slice none 0 0) (.slice none 0 0) (.int .i64 0) (.int .i64 0))
  have z0 := v3.cell 0
  have z1 := v3.cell 1
  have z2 := v3.cell 2
  have z3 := v3.cell 3
  have z4 := v3.cell 4
  simp at z0 z1 z2 z3 z4
  refine bodyPost_ret (v := .tuple #[.agg #[.slice none 0 0, .slice none 0 0, .slice none 0 0, .int .i64 0, .int .i64 0], .int .i64 5]) (by simp [results, Try.results16, go_sem, z0, z1, z2, z3, z4]) rfl ⟨rfl, b3.out⟩

set_option maxRecDepth 100000 in
set_option maxHeartbeats 400000 in
theorem loProgOk (S : Nat → Prop) (p s : Int) (w : World) (hN : New S w) (h0 : 0 ≤ s) (h1 : s < 4294967296) (h : Wd.planOk p s) (hp1 : 0 ≤ Wd.stack s ∧ Wd.stack s < 4294967296) : Calls Try.prog 16 #[.int .i64 p, .int .u32 s] w fun e w' => ∃ v, e = .returned (.tuple #[v, .int .i64 0]) ∧
    ProgAt S w w' (heapFns (Wd.stack s)) [Wd.stack s, Wd.one p s, Wd.one p s, Wd.one p s + Wd.space p s, Wd.one p s + Wd.space p s] p 0 v ∧ Below w.heap.size w w' := by
  have C1 := fun w => wdPlanAll p s w h0 h1
  rw [pair_ok p s h] at C1
  revert C1 hp1
  generalize Wd.stack s = p1
  generalize Wd.one p s = p2
  generalize p2 + Wd.space p s = p3
  generalize p2 + 2 * Wd.space p s = p4
  generalize (16 : Int) = p0
  intro hp1 C1
  replace C1 := Lib.hid C1
  clear h h0 h1
  go_enter Try.func16, Try.ntmps16
  go_wp2_with fail
  refine (C1.out _).mono ?_
  rintro _ w1 ⟨rfl, b1⟩
  have hv := VB.call (VB.new w 27 #[.slice none 0 0, .slice none 0 0, .slice none 0 0, .int .i64 0, .int .i64 0]) b1
  replace b1 := Lib.hid b1
  replace hv := Lib.hid hv
  clear C1
  go_wp2_with fail
  have hlt : w.heap.size < w1.heap.size := hv.out.lt
  have hq := VB.new w1 32 #[.int .u32 p0, .int .u32 p1, .int .u32 p2, .int .u32 p3, .int .u32 p4]
  have hr := hv.out.alloc (.cells #[.int .u32 p0, .int .u32 p1, .int .u32 p2, .int .u32 p3, .int .u32 p4] 32)
  have b3 := B.alloc (B.call (B.alloc (B.refl w) _) b1.out) (.cells #[.int .u32 p0, .int .u32 p1, .int .u32 p2, .int .u32 p3, .int .u32 p4] 32)
  have hM : ∀ b, (progCx p0 p1 p2 p3 p4 p S w).w0.heap.size ≤ b → (progCx p0 p1 p2 p3 p4 p S w).S b := hN
  refine typed_region (c := progCx p0 p1 p2 p3 p4 p S w) (by kernel_rfl) (by kernel_rfl) [0, 4, 6] [8, 12, 13] [([], [], []), ([6], [13], []), ([19], [], []), ([], [], []), ([], [], []), ([18, 20, 21, 22], [], []), ([6], [], []), ([24], [13], []), ([6], [], []), ([26], [13], []), ([6], [], []), ([28], [13], []), ([6], [], []), ([30], [13], []), ([6], [], []), ([32], [13], []), ([25, 27, 29, 31, 33], [], [68, 69]), ([0], [], []), ([23, 34, 35], [], []), ([4, 36], [], [9]), ([], [], [])] (by kernel_rfl) ⟨st_fnE rfl rfl (Nat.le_of_ble_eq_true rfl) rfl rfl, st_loadPlanAll (x := 6) rfl rfl rfl (Nat.le_of_ble_eq_true rfl) rfl rfl rfl, mk_collector rfl hM rfl hp1 rfl (Nat.le_of_ble_eq_true rfl) rfl rfl, mk_taker rfl hM rfl (Nat.le_of_ble_eq_true rfl) rfl rfl, mk_moving rfl hM rfl (Nat.le_of_ble_eq_true rfl) rfl rfl, st_fns4 (f0 := ⟨0, 0, []⟩) (f1 := ⟨0, 5, collectL p1⟩) (f2 := ⟨1, 1, takerL⟩) (f3 := ⟨1, 4, movingL⟩) rfl hM rfl rfl rfl rfl rfl (Nat.le_of_ble_eq_true rfl) rfl rfl, st_fieldPlan1 rfl rfl rfl (Nat.le_of_ble_eq_true rfl) rfl rfl, st_loadPlan1 (x := 6) rfl rfl rfl (Nat.le_of_ble_eq_true rfl) rfl rfl rfl, st_fieldPlan2 rfl rfl rfl (Nat.le_of_ble_eq_true rfl) rfl rfl, st_loadPlan2 (x := 6) rfl rfl rfl (Nat.le_of_ble_eq_true rfl) rfl rfl rfl, st_fieldPlan2 rfl rfl rfl (Nat.le_of_ble_eq_true rfl) rfl rfl, st_loadPlan2 (x := 6) rfl rfl rfl (Nat.le_of_ble_eq_true rfl) rfl rfl rfl, st_fieldPlan3 rfl rfl rfl (Nat.le_of_ble_eq_true rfl) rfl rfl, st_loadPlan3 (x := 6) rfl rfl rfl (Nat.le_of_ble_eq_true rfl) rfl rfl rfl, st_fieldPlan3 rfl rfl rfl (Nat.le_of_ble_eq_true rfl) rfl rfl, st_loadPlan3 (x := 6) rfl rfl rfl (Nat.le_of_ble_eq_true rfl) rfl rfl rfl, st_words5 (x := 34) rfl rfl rfl rfl rfl rfl rfl (Nat.le_of_ble_eq_true rfl) rfl rfl rfl rfl, st_same rfl (Nat.le_of_ble_eq_true rfl) (.inl rfl) rfl, st_prog rfl rfl rfl rfl rfl (Nat.le_of_ble_eq_true rfl) rfl rfl, st_storeProg (x := 4) rfl rfl rfl rfl rfl rfl rfl, st_const rfl (Nat.le_of_ble_eq_true rfl) (.inr rfl) rfl, trivial⟩ ?start fun a2 w2 h2 => ?rest
  case start =>
    refine ⟨fun _ => False, fun x => if x = 4 then some w.heap.size else if x = 6 then some w1.heap.size else none, b3, fun b hb => hb.elim, ?_, ?_, ?_, ?_, rfl, rfl⟩
    · intro x g hx
      by_cases e4 : x = 4
      · subst e4
        simp only [if_true, Option.some.injEq] at hx
        subst hx
        exact ⟨Nat.le_refl _, id, by simp, _, _, hr, rfl, fun h => absurd h (by simp)⟩
      · by_cases e6 : x = 6
        · subst e6
          simp only [e4, if_false, if_true, Option.some.injEq] at hx
          subst hx
          exact ⟨Nat.le_of_lt hlt, id, by simp, _, _, hq, rfl, fun _ => rfl⟩
        · simp [e4, e6] at hx
    · intro x y g hx hy
      by_cases x4 : x = 4 <;> by_cases y4 : y = 4 <;> by_cases x6 : x = 6 <;> by_cases y6 : y = 6 <;> simp [x4, y4, x6, y6] at hx hy ⊢ <;> omega
    · intro x hx
      have : x = 6 := by simp at hx; omega
      subst this
      exact ⟨w1.heap.size, by simp⟩
    · intro t ht
      simp only [List.mem_cons, List.not_mem_nil, or_false] at ht
      rcases ht with rfl | rfl | rfl
      · exact rfl
      · exact ⟨w.heap.size, by simp, rfl⟩
      · exact ⟨w1.heap.size, by simp, rfl⟩
  case rest =>
  clear hq hr b3 b1 hv
  obtain ⟨F, V, h⟩ := h2
  have h4 : (AV.ptr 4 0).den F V w2 (a2.tmps.getD 4 undef) := h.tmp 4 (by simp)
  have h5 : a2.tmps.getD 5 undef = .int .i64 0 := h.tmp 5 (by simp)
  obtain ⟨g, hg, e4⟩ := h4
  obtain ⟨q1, q2, q3, cs, T, q4, q5, q6⟩ := h.vars 4 g hg
  have q6 : (AV.prg (heapFns p1) 34 5 p 0).den F V w2 (.agg cs) := q6 (by simp)
  obtain ⟨uf, gg, e, kf, hgg⟩ := q6
  simp only [Value.agg.injEq] at e
  subst e
  obtain ⟨r1, r2, r3, cs2, T2, r4, r5, r6⟩ := h.vars 34 gg hgg
  have r6 : Value.agg cs2 = .agg #[.int .u32 p1, .int .u32 p2, .int .u32 p2, .int .u32 p3, .int .u32 p3] := r6 (by simp)
  simp only [Value.agg.injEq] at r6
  subst r6
  have hb : Below w.heap.size w w2 := h.below
  have hd := h.defers
  have hsz : a2.tmps.size = 37 := h.size
  have t4 : a2.tmps[4]? = some (.pointer (some ⟨g, 0, none⟩)) := by rw [Array.getElem?_eq_getElem (by omega)]; simpa [Array.getD, hsz] using e4
  have t5 : a2.tmps[5]? = some (.int .i64 0) := by rw [Array.getElem?_eq_getElem (by omega)]; simpa [Array.getD, hsz] using h5
  have hfin : ProgAt S w w2 (heapFns p1) [p1, p2, p2, p3, p3] p 0 (.agg #[uf, .slice (some ⟨gg, 0, none⟩) 5 5, .slice none 0 0, .int .i64 p, .int .i64 0]) := ⟨F, uf, gg, T2, rfl, kf, fun b hF => (h.own b hF).2, r2, r1, r4⟩
  have hv : VB w2 g T #[uf, .slice (some ⟨gg, 0, none⟩) 5 5, .slice none 0 0, .int .i64 p, .int .i64 0] := q4
  have z0 : w2.cell? ⟨g, 0, none⟩ = some uf := hv.cell 0
  have z1 : w2.cell? ⟨g, 1, none⟩ = some (.slice (some ⟨gg, 0, none⟩) 5 5) := hv.cell 1
  have z2 : w2.cell? ⟨g, 2, none⟩ = some (.slice none 0 0) := hv.cell 2
  have z3 : w2.cell? ⟨g, 3, none⟩ = some (.int .i64 p) := hv.cell 3
  have z4 : w2.cell? ⟨g, 4, none⟩ = some (.int .i64 0) := hv.cell 4
  replace hfin := Lib.hid hfin
  replace hb := Lib.hid hb
  clear h hv q4 r4 kf
  go_wp2_with fail
  exact bodyPost_ret (v := .tuple #[.agg #[uf, .slice (some ⟨gg, 0, none⟩) 5 5, .slice none 0 0, .int .i64 p, .int .i64 0], .int .i64 0]) (by simp [results, Try.results16, go_sem, t4, t5, z0, z1, z2, z3, z4]) hd ⟨_, rfl, hfin.out, hb.out⟩

end Go.Proofs.Ytgohnekaolgblaa
