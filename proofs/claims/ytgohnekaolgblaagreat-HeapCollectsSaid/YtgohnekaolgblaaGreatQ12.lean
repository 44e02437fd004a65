/- heap.Program: contract (printed by wip/gen_loprog.py). -/
import Derived.Test.YtgohnekaolgblaaGreatQ11
import Derived.Test.YtgohnekaolgblaaGreatQ08
import Derived.Test.YtgohnekaolgblaaGreatQ09
import Derived.Test.YtgohnekaolgblaaGreatQ07
namespace Go.Proofs.YtgohnekaolgblaaGreat
open Go.RowKit

/-- The functions of a program with a heap. -/
def heapFns (stack : Int) : List Fx := [⟨0, 0, []⟩, ⟨0, 5, collectL stack⟩, ⟨1, 1, takerL⟩, ⟨1, 4, movingL⟩]
noncomputable def progTy (p0 p1 p2 p3 p4 pg : Int) : List AV := [
  AV.raw (.int .i64 pg),
  AV.any,
  AV.any,
  AV.any,
  AV.ptr 4 0,
  AV.raw (.int .i64 0),
  AV.ptr 6 0,
  AV.any,
  AV.any,
  AV.any,
  AV.any,
  AV.any,
  AV.any,
  AV.any,
  AV.any,
  AV.any,
  AV.any,
  AV.any,
  AV.fn 0 0 [],
  AV.raw (.agg #[.int .u32 p0, .int .u32 p1, .int .u32 p2, .int .u32 p3, .int .u32 p4]),
  AV.fn 0 5 (collectL p1),
  AV.fn 1 1 takerL,
  AV.fn 1 4 movingL,
  AV.fns (heapFns p1),
  AV.ptr 6 1,
  AV.raw (.int .u32 p1),
  AV.ptr 6 2,
  AV.raw (.int .u32 p2),
  AV.ptr 6 2,
  AV.raw (.int .u32 p2),
  AV.ptr 6 3,
  AV.raw (.int .u32 p3),
  AV.ptr 6 3,
  AV.raw (.int .u32 p3),
  AV.slc 34 5,
  AV.raw (.int .i64 pg),
  AV.prg (heapFns p1) 34 5 pg 0]
noncomputable def progCon (p0 p1 p2 p3 p4 pg : Int) : List AV := [
  AV.any,
  AV.any,
  AV.any,
  AV.any,
  AV.prg (heapFns p1) 34 5 pg 0,
  AV.any,
  AV.raw (.agg #[.int .u32 p0, .int .u32 p1, .int .u32 p2, .int .u32 p3, .int .u32 p4]),
  AV.any,
  AV.any,
  AV.any,
  AV.any,
  AV.any,
  AV.any,
  AV.any,
  AV.any,
  AV.any,
  AV.any,
  AV.any,
  AV.any,
  AV.any,
  AV.any,
  AV.any,
  AV.any,
  AV.any,
  AV.any,
  AV.any,
  AV.any,
  AV.any,
  AV.any,
  AV.any,
  AV.any,
  AV.any,
  AV.any,
  AV.any,
  AV.raw (.agg #[.int .u32 p1, .int .u32 p2, .int .u32 p2, .int .u32 p3, .int .u32 p3])]
noncomputable def progCx (p0 p1 p2 p3 p4 pg : Int) (S : Nat → Prop) (w : World) : Cx := ⟨Tryz.prog, fun t => (progTy p0 p1 p2 p3 p4 pg).getD t AV.any, fun x => (progCon p0 p1 p2 p3 p4 pg).getD x AV.any, fun _ => 5, S, w, 37⟩

/-- What is told where there is a plan: the functions, the lasting words in a block of their own. -/
def ProgAt (S : Nat → Prop) (w0 w : World) (fs : List Fx) (gl : List Int) (pages main : Int) (v : Value) : Prop :=
  ∃ F uf g T, v = .agg #[uf, .slice (some ⟨g, 0, none⟩) gl.length gl.length, .slice none 0 0, .int .i64 pages, .int .i64 main] ∧ FxL F w fs uf ∧ (∀ b, F b → S b) ∧ ¬ F g ∧ w0.heap.size ≤ g ∧ w.heap[g]? = some (.cells (gl.map (Value.int .u32)).toArray T (0, 0))

theorem pair_no (p s : Int) (h : ¬ Wd.planOk p s) : tupP p s = .tuple #[.agg #[.int .u32 0, .int .u32 0, .int .u32 0, .int .u32 0, .int .u32 0], .int .i64 5] := by unfold tupP; rw [if_neg h]
theorem pair_ok (p s : Int) (h : Wd.planOk p s) : tupP p s = .tuple #[.agg #[.int .u32 16, .int .u32 (Wd.stack s), .int .u32 (Wd.one p s), .int .u32 (Wd.one p s + Wd.space p s), .int .u32 (Wd.one p s + 2 * Wd.space p s)], .int .i64 0] := by unfold tupP; rw [if_pos h]

set_option maxRecDepth 100000 in
set_option maxHeartbeats 4000000 in
theorem loProgNo (p s : Int) (w : World) (h0 : 0 ≤ s) (h1 : s < 4294967296) (h : ¬ Wd.planOk p s) : Calls Tryz.prog 23 #[.int .i64 p, .int .u32 s] w fun e w' => e = .returned (.tuple #[.agg #[.slice none 0 0, .slice none 0 0, .slice none 0 0, .int .i64 0, .int .i64 0], .int .i64 5]) ∧ Below w.heap.size w w' := by
  have C1 := fun w => wdPlanAll p s w h0 h1
  rw [pair_no p s h] at C1
  replace C1 := Lib.hid C1
  clear h h0 h1
  go_enter Tryz.func23, Tryz.ntmps23
  go_wp2_with fail
  refine (C1.out _).mono ?_
  rintro _ w1 ⟨rfl, b1⟩
  have v1 := VB.call (VB.new w 30 #[.slice none 0 0, .slice none 0 0, .slice none 0 0, .int .i64 0, .int .i64 0]) b1
  have v2 := v1.alloc (.cells #[.int .u32 0, .int .u32 0, .int .u32 0, .int .u32 0, .int .u32 0] 32)
  have x0 := v2.cell 0
  have x1 := v2.cell 1
  have x2 := v2.cell 2
  have x3 := v2.cell 3
  have x4 := v2.cell 4
  have y0 := v2.free 0
  have y1 := v2.free 1
  have y2 := v2.free 2
  have y3 := v2.free 3
  have y4 := v2.free 4
  simp at x0 x1 x2 x3 x4
  replace b1 := Lib.hid b1
  replace v2 := Lib.hid v2
  clear v1 C1
  go_wp2_with fail
  have v3 := VB.set5 v2.out (.slice none 0 0) (.slice none 0 0) (.slice none 0 0) (.int .i64 0) (.int .i64 0)
  have b3 := Lib.hid (B.set5 (t := w.heap.size) (B.alloc (B.call (B.alloc (B.refl w) _) b1.out) (.cells #[.int .u32 0, .int .u32 0, .int .u32 0, .int .u32 0, .int .u32 0] 32)) (Nat.le_refl _) (.slice none 0 0) (.slice none 0 0) (.slice none 0 0) (.int .i64 0) (.int .i64 0))
  have z0 := v3.cell 0
  have z1 := v3.cell 1
  have z2 := v3.cell 2
  have z3 := v3.cell 3
  have z4 := v3.cell 4
  simp at z0 z1 z2 z3 z4
  refine bodyPost_ret (v := .tuple #[.agg #[.slice none 0 0, .slice none 0 0, .slice none 0 0, .int .i64 0, .int .i64 0], .int .i64 5]) (by simp [results, Tryz.results23, go_sem, z0, z1, z2, z3, z4]) rfl ⟨rfl, b3.out⟩

set_option maxRecDepth 100000 in
set_option maxHeartbeats 400000 in
theorem loProgOk (S : Nat → Prop) (p s : Int) (w : World) (hN : New S w) (h0 : 0 ≤ s) (h1 : s < 4294967296) (h : Wd.planOk p s) (hp1 : 0 ≤ Wd.stack s ∧ Wd.stack s < 4294967296) : Calls Tryz.prog 23 #[.int .i64 p, .int .u32 s] w fun e w' => ∃ v, e = .returned (.tuple #[v, .int .i64 0]) ∧
    ProgAt S w w' (heapFns (Wd.stack s)) [Wd.stack s, Wd.one p s, Wd.one p s, Wd.one p s + Wd.space p s, Wd.one p s + Wd.space p s] p 0 v ∧ Below w.heap.size w w' := by
  have C1 := fun w => wdPlanAll p s w h0 h1
  rw [pair_ok p s h] at C1
  revert C1 hp1
  generalize Wd.stack s = p1
  generalize Wd.one p s = p2
  generalize p2 + Wd.space p s = p3
  generalize p2 + 2 * Wd.space p s = p4
  generalize (16 : Int) = p0
  intro hp1 C1
  replace C1 := Lib.hid C1
  clear h h0 h1
  go_enter Tryz.func23, Tryz.ntmps23
  go_wp2_with fail
  refine (C1.out _).mono ?_
  rintro _ w1 ⟨rfl, b1⟩
  have hv := VB.call (VB.new w 30 #[.slice none 0 0, .slice none 0 0, .slice none 0 0, .int .i64 0, .int .i64 0]) b1
  replace b1 := Lib.hid b1
  replace hv := Lib.hid hv
  clear C1
  go_wp2_with fail
  have hlt : w.heap.size < w1.heap.size := hv.out.lt
  have hq := VB.new w1 32 #[.int .u32 p0, .int .u32 p1, .int .u32 p2, .int .u32 p3, .int .u32 p4]
  have hr := hv.out.alloc (.cells #[.int .u32 p0, .int .u32 p1, .int .u32 p2, .int .u32 p3, .int .u32 p4] 32)
  have b3 := B.alloc (B.call (B.alloc (B.refl w) _) b1.out) (.cells #[.int .u32 p0, .int .u32 p1, .int .u32 p2, .int .u32 p3, .int .u32 p4] 32)
  have hM : ∀ b, (progCx p0 p1 p2 p3 p4 p S w).w0.heap.size ≤ b → (progCx p0 p1 p2 p3 p4 p S w).S b := hN
  refine typed_region (c := progCx p0 p1 p2 p3 p4 p S w) (by kernel_rfl) (by kernel_rfl) [0, 4, 6] [8, 12, 13] [([], [], []), ([6], [13], []), ([19], [], []), ([], [], []), ([], [], []), ([18, 20, 21, 22], [], []), ([6], [], []), ([24], [13], []), ([6], [], []), ([26], [13], []), ([6], [], []), ([28], [13], []), ([6], [], []), ([30], [13], []), ([6], [], []), ([32], [13], []), ([25, 27, 29, 31, 33], [], [68, 69]), ([0], [], []), ([23, 34, 35], [], []), ([4, 36], [], [9]), ([], [], [])] (by kernel_rfl) ⟨st_fnE rfl rfl (Nat.le_of_ble_eq_true rfl) rfl rfl, st_loadPlanAll (x := 6) rfl rfl rfl (Nat.le_of_ble_eq_true rfl) rfl rfl rfl, mk_collector rfl hM rfl hp1 rfl (Nat.le_of_ble_eq_true rfl) rfl rfl, mk_taker rfl hM rfl (Nat.le_of_ble_eq_true rfl) rfl rfl, mk_moving rfl hM rfl (Nat.le_of_ble_eq_true rfl) rfl rfl, st_fns4 (f0 := ⟨0, 0, []⟩) (f1 := ⟨0, 5, collectL p1⟩) (f2 := ⟨1, 1, takerL⟩) (f3 := ⟨1, 4, movingL⟩) rfl hM rfl rfl rfl rfl rfl (Nat.le_of_ble_eq_true rfl) rfl rfl, st_fieldPlan1 rfl rfl rfl (Nat.le_of_ble_eq_true rfl) rfl rfl, st_loadPlan1 (x := 6) rfl rfl rfl (Nat.le_of_ble_eq_true rfl) rfl rfl rfl, st_fieldPlan2 rfl rfl rfl (Nat.le_of_ble_eq_true rfl) rfl rfl, st_loadPlan2 (x := 6) rfl rfl rfl (Nat.le_of_ble_eq_true rfl) rfl rfl rfl, st_fieldPlan2 rfl rfl rfl (Nat.le_of_ble_eq_true rfl) rfl rfl, st_loadPlan2 (x := 6) rfl rfl rfl (Nat.le_of_ble_eq_true rfl) rfl rfl rfl, st_fieldPlan3 rfl rfl rfl (Nat.le_of_ble_eq_true rfl) rfl rfl, st_loadPlan3 (x := 6) rfl rfl rfl (Nat.le_of_ble_eq_true rfl) rfl rfl rfl, st_fieldPlan3 rfl rfl rfl (Nat.le_of_ble_eq_true rfl) rfl rfl, st_loadPlan3 (x := 6) rfl rfl rfl (Nat.le_of_ble_eq_true rfl) rfl rfl rfl, st_words5 (x := 34) rfl rfl rfl rfl rfl rfl rfl (Nat.le_of_ble_eq_true rfl) rfl rfl rfl rfl, st_same rfl (Nat.le_of_ble_eq_true rfl) (.inl rfl) rfl, st_prog rfl rfl rfl rfl rfl (Nat.le_of_ble_eq_true rfl) rfl rfl, st_storeProg (x := 4) rfl rfl rfl rfl rfl rfl rfl, st_const rfl (Nat.le_of_ble_eq_true rfl) (.inr rfl) rfl, trivial⟩ ?start fun a2 w2 h2 => ?rest
  case start =>
    refine ⟨fun _ => False, fun x => if x = 4 then some w.heap.size else if x = 6 then some w1.heap.size else none, b3, fun b hb => hb.elim, ?_, ?_, ?_, ?_, rfl, rfl⟩
    · intro x g hx
      by_cases e4 : x = 4
      · subst e4
        simp only [if_true, Option.some.injEq] at hx
        subst hx
        exact ⟨Nat.le_refl _, id, by simp, _, _, hr, rfl, fun h => absurd h (by simp)⟩
      · by_cases e6 : x = 6
        · subst e6
          simp only [e4, if_false, if_true, Option.some.injEq] at hx
          subst hx
          exact ⟨Nat.le_of_lt hlt, id, by simp, _, _, hq, rfl, fun _ => rfl⟩
        · simp [e4, e6] at hx
    · intro x y g hx hy
      by_cases x4 : x = 4 <;> by_cases y4 : y = 4 <;> by_cases x6 : x = 6 <;> by_cases y6 : y = 6 <;> simp [x4, y4, x6, y6] at hx hy ⊢ <;> omega
    · intro x hx
      have : x = 6 := by simp at hx; omega
      subst this
      exact ⟨w1.heap.size, by simp⟩
    · intro t ht
      simp only [List.mem_cons, List.not_mem_nil, or_false] at ht
      rcases ht with rfl | rfl | rfl
      · exact rfl
      · exact ⟨w.heap.size, by simp, rfl⟩
      · exact ⟨w1.heap.size, by simp, rfl⟩
  case rest =>
  clear hq hr b3 b1 hv
  obtain ⟨F, V, h⟩ := h2
  have h4 : (AV.ptr 4 0).den F V w2 (a2.tmps.getD 4 undef) := h.tmp 4 (by simp)
  have h5 : a2.tmps.getD 5 undef = .int .i64 0 := h.tmp 5 (by simp)
  obtain ⟨g, hg, e4⟩ := h4
  obtain ⟨q1, q2, q3, cs, T, q4, q5, q6⟩ := h.vars 4 g hg
  have q6 : (AV.prg (heapFns p1) 34 5 p 0).den F V w2 (.agg cs) := q6 (by simp)
  obtain ⟨uf, gg, e, kf, hgg⟩ := q6
  simp only [Value.agg.injEq] at e
  subst e
  obtain ⟨r1, r2, r3, cs2, T2, r4, r5, r6⟩ := h.vars 34 gg hgg
  have r6 : Value.agg cs2 = .agg #[.int .u32 p1, .int .u32 p2, .int .u32 p2, .int .u32 p3, .int .u32 p3] := r6 (by simp)
  simp only [Value.agg.injEq] at r6
  subst r6
  have hb : Below w.heap.size w w2 := h.below
  have hd := h.defers
  have hsz : a2.tmps.size = 37 := h.size
  have t4 : a2.tmps[4]? = some (.pointer (some ⟨g, 0, none⟩)) := by rw [Array.getElem?_eq_getElem (by omega)]; simpa [Array.getD, hsz] using e4
  have t5 : a2.tmps[5]? = some (.int .i64 0) := by rw [Array.getElem?_eq_getElem (by omega)]; simpa [Array.getD, hsz] using h5
  have hfin : ProgAt S w w2 (heapFns p1) [p1, p2, p2, p3, p3] p 0 (.agg #[uf, .slice (some ⟨gg, 0, none⟩) 5 5, .slice none 0 0, .int .i64 p, .int .i64 0]) := ⟨F, uf, gg, T2, rfl, kf, fun b hF => (h.own b hF).2, r2, r1, r4⟩
  have hv : VB w2 g T #[uf, .slice (some ⟨gg, 0, none⟩) 5 5, .slice none 0 0, .int .i64 p, .int .i64 0] := q4
  have z0 : w2.cell? ⟨g, 0, none⟩ = some uf := hv.cell 0
  have z1 : w2.cell? ⟨g, 1, none⟩ = some (.slice (some ⟨gg, 0, none⟩) 5 5) := hv.cell 1
  have z2 : w2.cell? ⟨g, 2, none⟩ = some (.slice none 0 0) := hv.cell 2
  have z3 : w2.cell? ⟨g, 3, none⟩ = some (.int .i64 p) := hv.cell 3
  have z4 : w2.cell? ⟨g, 4, none⟩ = some (.int .i64 0) := hv.cell 4
  replace hfin := Lib.hid hfin
  replace hb := Lib.hid hb
  clear h hv q4 r4 kf
  go_wp2_with fail
  exact bodyPost_ret (v := .tuple #[.agg #[uf, .slice (some ⟨gg, 0, none⟩) 5 5, .slice none 0 0, .int .i64 p, .int .i64 0], .int .i64 0]) (by simp [results, Tryz.results23, go_sem, t4, t5, z0, z1, z2, z3, z4]) hd ⟨_, rfl, hfin.out, hb.out⟩

end Go.Proofs.YtgohnekaolgblaaGreat

/- The document's machine: its state, expressions: contracts (gimletref28's Machine.exp, exps). -/
namespace Go.Proofs.YtgohnekaolgblaaGreat
open Go.RowKit

/-- A machine's state: the memory, its pages, lasting words, the function's own words, what was written, steps left and done, what was told, loops to leave, calls in one another. -/
structure St where
  L : List (Int × Int)
  N : Nat
  g : List Nat
  own : List Nat
  out : List Nat
  left : Nat
  used : Nat
  told : Nat
  n : Nat
  deep : Nat

/-- The state may be. -/
structure St.ok (s : St) : Prop where
  up : Mm.Up s.L
  place : ∀ q ∈ s.L, 0 ≤ q.1 ∧ q.1 < ((s.N * 65536 : Nat) : Int)
  byt : Mm.Byt s.L
  pages : s.N ≤ 12
  g : ∀ v ∈ s.g, v < 4294967296
  gl : s.g.length ≤ 1000
  own : ∀ v ∈ s.own, v < 4294967296
  ownl : s.own.length ≤ 2000
  outl : s.out.length ≤ 1000000
  sum : s.left + s.used ≤ 1000000000
  told : s.told < 4294967296
  n : s.n ≤ 1000000
  deep : s.deep ≤ 5000

theorem St.ok.len {s : St} (h : s.ok) : s.L.length ≤ 800000 := by
  have := Mm.len_le h.up h.place
  have := h.pages
  omega
theorem St.ok.left {s : St} (h : s.ok) : s.left ≤ 1000000000 := by have := h.sum; omega
theorem St.ok.used {s : St} (h : s.ok) : s.used ≤ 1000000000 := by have := h.sum; omega
/-- What an operation on words tells. -/
def Ex.val2 (s : St) (k n : Int) : List Nat → Option Nat
  | [a] => if k = 4 then (if n = 0 ∧ a + 4 ≤ s.N * 65536 then some (Mm.word s.L a).toNat else none)
      else if k = 6 then (if n = 69 then some (if a = 0 then 1 else 0) else none) else none
  | [a, b] => if k = 7 then (if n ∈ opsOf 7 ∧ (n = 108 → a < 2147483648 ∧ b < 2147483648) then some (rkTwoV n a b) else none) else none
  | _ => none
/-- What an expression of a kind tells, of words. -/
def Ex.val (s : St) (k n : Int) (vs : List Nat) : Option Nat :=
  if k = 1 then (if vs = [] ∧ 0 ≤ n ∧ n < 4294967296 then some n.toNat else none)
  else if k = 2 then (if vs = [] ∧ 0 ≤ n then s.own[n.toNat]? else none)
  else if k = 3 then (if vs = [] ∧ 0 ≤ n then s.g[n.toNat]? else none)
  else Ex.val2 s k n vs
mutual
/-- What an expression tells. -/
def Ex.ev (s : St) : Ex → Option Nat
  | .mk k n l => match Ex.evs s l with
    | some vs => Ex.val s k n vs
    | none => none
def Ex.evs (s : St) : List Ex → Option (List Nat)
  | [] => some []
  | t :: l => match Ex.ev s t, Ex.evs s l with
    | some v, some vs => some (v :: vs)
    | _, _ => none
end

theorem Mm.word_lt {L : List (Int × Int)} (h : Mm.Byt L) (a : Int) : 0 ≤ Mm.word L a ∧ Mm.word L a < 4294967296 := by
  rw [← Mm.word_hi]
  have := h.hi a 4
  exact ⟨this.1, by simpa using this.2⟩
theorem rkTwoV_lt (op : Int) (a b : Nat) (ha : a < 4294967296) (hb : b < 4294967296) : rkTwoV op a b < 4294967296 := by
  unfold rkTwoV
  split
  · split <;> omega
  · split
    · exact Nat.mod_lt _ (by decide)
    · split
      · exact Nat.mod_lt _ (by decide)
      · split
        · exact Nat.mod_lt _ (by decide)
        · exact rkBitwise_lt _ _ _ ha hb
theorem Ex.val_lt {s : St} (hs : s.ok) {k n : Int} {vs : List Nat} (hv : ∀ v ∈ vs, v < 4294967296) {r : Nat} (h : Ex.val s k n vs = some r) : r < 4294967296 := by
  unfold Ex.val at h
  split at h
  · split at h
    · simp only [Option.some.injEq] at h; omega
    · cases h
  · split at h
    · split at h
      · exact hs.own r (List.mem_of_getElem? h)
      · cases h
    · split at h
      · split at h
        · exact hs.g r (List.mem_of_getElem? h)
        · cases h
      · rcases vs with _ | ⟨a, _ | ⟨b, _ | ⟨c, l⟩⟩⟩
        · cases h
        · simp only [Ex.val2] at h
          split at h
          · split at h
            · simp only [Option.some.injEq] at h
              have := Mm.word_lt hs.byt (a : Int)
              omega
            · cases h
          · split at h
            · split at h
              · simp only [Option.some.injEq] at h
                split at h <;> omega
              · cases h
            · cases h
        · simp only [Ex.val2] at h
          split at h
          · split at h
            · simp only [Option.some.injEq] at h
              rw [← h]
              exact rkTwoV_lt _ _ _ (hv _ (by simp)) (hv _ (by simp))
            · cases h
          · cases h
        · cases h
theorem Ex.evs_get {s : St} : ∀ {l : List Ex} {vs : List Nat}, Ex.evs s l = some vs → vs.length = l.length ∧ ∀ i (hi : i < l.length) (hj : i < vs.length), Ex.ev s l[i] = some vs[i]
  | [], vs, h => by simp only [Ex.evs, Option.some.injEq] at h; subst h; exact ⟨rfl, fun i hi => by simp at hi⟩
  | t :: l, vs, h => by
    simp only [Ex.evs] at h
    split at h
    · rename_i v us h1 h2
      simp only [Option.some.injEq] at h
      subst h
      obtain ⟨e1, e2⟩ := Ex.evs_get h2
      refine ⟨by simp [e1], fun i hi hj => ?_⟩
      cases i with
      | zero => simpa using h1
      | succ i => simpa using e2 i (by simpa using hi) (by simpa using hj)
    · cases h
theorem Ex.ev_lt (s : St) (hs : s.ok) (t : Ex) : ∀ r, Ex.ev s t = some r → r < 4294967296 := by
  refine Ex.ind (P := fun t => ∀ r, Ex.ev s t = some r → r < 4294967296) ?_ t
  intro k n l ih r h
  rw [Ex.ev] at h
  split at h
  · rename_i vs hvs
    obtain ⟨e1, e2⟩ := Ex.evs_get hvs
    refine Ex.val_lt hs (fun v hv => ?_) h
    obtain ⟨i, hi, rfl⟩ := List.getElem_of_mem hv
    exact ih _ (List.getElem_mem (by omega)) _ (e2 i (by omega) hi)
  · cases h
theorem Ex.evs_lt (s : St) (hs : s.ok) {l : List Ex} {vs : List Nat} (h : Ex.evs s l = some vs) : ∀ v ∈ vs, v < 4294967296 := by
  intro v hv
  obtain ⟨e1, e2⟩ := Ex.evs_get h
  obtain ⟨i, hi, rfl⟩ := List.getElem_of_mem hv
  exact Ex.ev_lt s hs _ _ (e2 i (by omega) hi)

/-- Words in a row of the call's own. -/
def OwnW (w : World) (lo : Nat) (v : Value) (l : List Nat) : Prop := w.ownsRow lo 22 1 v l.length (l.map fun n : Nat => Value.int .u32 (n : Int))
/-- Bytes in a row of the call's own. -/
def OwnY (w : World) (lo : Nat) (v : Value) (l : List Nat) : Prop := w.ownsRow lo 5 1 v l.length (l.map fun n : Nat => Value.int .u8 (n : Int))

/-- What stays of a machine: the program's slices, pages, Main; the memory's block, the lasting words' block, the input. -/
structure Mx where
  lo : Nat
  x : Nat
  m : Nat
  gb : Nat
  gc : Nat
  vF : Value
  vG : Value
  vD : Value
  vIn : Value
  pages : Int
  main : Int

/-- The machine's cells. -/
def Mx.cells (K : Mx) (s : St) (outv : Value) : Array Value := #[K.vF, K.vG, K.vD, .int .i64 K.pages, .int .i64 K.main, .pointer (some ⟨K.m, 0, none⟩), .slice (some ⟨K.gb, 0, none⟩) s.g.length K.gc, K.vIn, .int .i64 0, .int .i64 0, .int .i64 0, .int .i64 (s.used : Int), outv, .int .i64 (s.left : Int), .int .i64 (s.deep : Int), .int .u32 (s.told : Int), .int .i64 (s.n : Int)]
/-- The machine in its block. -/
structure MaAt (F : Nat → Prop) (fs : List Fx) (K : Mx) (w : World) (sv outv ov : Value) (s : St) : Prop where
  vb : VB w K.x 88 (K.cells s outv)
  mem : MemAt w (K.m + 1) K.m (s.N : Int) 65536 sv s.L
  g : OwnW w K.lo (.slice (some ⟨K.gb, 0, none⟩) s.g.length K.gc) s.g
  own : OwnW w K.lo ov s.own
  out : OwnY w K.lo outv s.out
  funs : FxL F w fs K.vF
  low : ∀ b, F b → b < K.lo
  lox : K.lo ≤ K.x
  lom : K.lo ≤ K.m
  apart : ov.ownBlock ≠ some K.gb
  ok : s.ok

theorem OwnW.below {w w' : World} {lo : Nat} {v : Value} {l : List Nat} (h : OwnW w lo v l) (b : Below w.heap.size w w') : OwnW w' lo v l :=
  row_keep h fun g hg => b.block g (World.ownsRow.lt h g hg).2
theorem OwnY.below {w w' : World} {lo : Nat} {v : Value} {l : List Nat} (h : OwnY w lo v l) (b : Below w.heap.size w w') : OwnY w' lo v l :=
  row_keep h fun g hg => b.block g (World.ownsRow.lt h g hg).2
theorem MaAt.below {F : Nat → Prop} {fs : List Fx} {K : Mx} {w w' : World} {sv outv ov : Value} {s : St} (h : MaAt F fs K w sv outv ov s) (b : Below w.heap.size w w') : MaAt F fs K w' sv outv ov s :=
  ⟨h.vb.call b, h.mem.call b, h.g.below b, h.own.below b, h.out.below b, h.funs.below b, h.low, h.lox, h.lom, h.apart, h.ok⟩
theorem OwnW.cell {w : World} {lo : Nat} {v : Value} {l : List Nat} (h : OwnW w lo v l) : ∃ A cap, v = .slice A l.length cap ∧ ∀ i (hi : i < l.length), ∃ g, A = some ⟨g, 0, none⟩ ∧ lo ≤ g ∧ g < w.heap.size ∧ w.cell? ⟨g, i, none⟩ = some (.int .u32 (l[i] : Nat)) ∧ w.frozen? ⟨g, i, none⟩ = false := by
  have hc := fun g hg => World.ownsRow.cells h (g := g) hg
  have hl := World.ownsRow.lt h
  obtain ⟨h1, ⟨rfl, hn⟩ | ⟨g, cap, cur, rfl, hB, hh, -⟩⟩ := h
  · exact ⟨none, 0, by rw [hn], fun i hi => by omega⟩
  · refine ⟨_, cap, rfl, fun i hi => ⟨g, rfl, hB, (hl g rfl).2, ?_, ?_⟩⟩
    · have := hc g rfl i (.int .u32 (l[i] : Nat)) (by rw [List.getElem?_map, List.getElem?_eq_getElem hi]; rfl)
      rwa [Addr.add_lit, Nat.zero_add] at this
    · simp [World.frozen?, hh]

end Go.Proofs.YtgohnekaolgblaaGreat

/- The document's machine: expressions: contracts (gimletref28's Machine.exp). -/
namespace Go.Proofs.YtgohnekaolgblaaGreat
open Go.RowKit

theorem Ex.val_cases {s : St} {k n : Int} {vs : List Nat} {r : Nat} (h : Ex.val s k n vs = some r) :
    (k = 1 ∧ vs = [] ∧ 0 ≤ n ∧ n < 4294967296 ∧ (r : Int) = n) ∨ (k = 2 ∧ vs = [] ∧ 0 ≤ n ∧ ∃ hi : n.toNat < s.own.length, s.own[n.toNat] = r) ∨ (k = 3 ∧ vs = [] ∧ 0 ≤ n ∧ ∃ hi : n.toNat < s.g.length, s.g[n.toNat] = r) ∨
    (k = 4 ∧ ∃ a, vs = [a] ∧ n = 0 ∧ a + 4 ≤ s.N * 65536 ∧ r = (Mm.word s.L a).toNat) ∨ (k = 6 ∧ ∃ a, vs = [a] ∧ n = 69 ∧ r = if a = 0 then 1 else 0) ∨
    (k = 7 ∧ ∃ a b, vs = [a, b] ∧ n ∈ opsOf 7 ∧ (n = 108 → a < 2147483648 ∧ b < 2147483648) ∧ r = rkTwoV n a b) := by
  unfold Ex.val at h
  split at h
  · rename_i hk
    split at h
    · rename_i hc
      simp only [Option.some.injEq] at h
      exact .inl ⟨hk, hc.1, hc.2.1, hc.2.2, by omega⟩
    · cases h
  · split at h
    · rename_i hk
      split at h
      · rename_i hc
        obtain ⟨hi, he⟩ := List.getElem?_eq_some_iff.1 h
        exact .inr (.inl ⟨hk, hc.1, hc.2, hi, he⟩)
      · cases h
    · split at h
      · rename_i hk
        split at h
        · rename_i hc
          obtain ⟨hi, he⟩ := List.getElem?_eq_some_iff.1 h
          exact .inr (.inr (.inl ⟨hk, hc.1, hc.2, hi, he⟩))
        · cases h
      · rcases vs with _ | ⟨a, _ | ⟨b, _ | ⟨c, l⟩⟩⟩
        · cases h
        · simp only [Ex.val2] at h
          split at h
          · rename_i hk
            split at h
            · rename_i hc
              simp only [Option.some.injEq] at h
              exact .inr (.inr (.inr (.inl ⟨hk, a, rfl, hc.1, hc.2, h.symm⟩)))
            · cases h
          · split at h
            · rename_i hk
              split at h
              · rename_i hc
                simp only [Option.some.injEq] at h
                exact .inr (.inr (.inr (.inr (.inl ⟨hk, a, rfl, hc, h.symm⟩))))
              · cases h
            · cases h
        · simp only [Ex.val2] at h
          split at h
          · rename_i hk
            split at h
            · rename_i hc
              simp only [Option.some.injEq] at h
              exact .inr (.inr (.inr (.inr (.inr ⟨hk, a, b, rfl, hc.1, hc.2, h.symm⟩))))
            · cases h
          · cases h
        · cases h

theorem cells1 (w : World) (x : Value) (T : TypeId) : ∀ (j : Nat) u, [x][j]? = some u → (w.alloc (.cells #[x] T)).cell? ((⟨w.heap.size, 0, none⟩ : Addr).add j) = some u := by
  intro j u hj
  have h := (VB.new w T #[x]).cell j
  rw [Addr.add_lit, Nat.zero_add, h]
  match j, hj with
  | 0, hj => simpa using hj
theorem below_grownR {w w1 w2 : World} {r : Option Nat} (b : Below w.heap.size w w1) (hg : w1.grownBy w2 r) (hr : ∀ g, r = some g → w.heap.size ≤ g) : Below w.heap.size w w2 :=
  ⟨hg.os.trans b.os, hg.tape.trans b.tape, hg.output.trans b.output, Nat.le_trans b.size hg.size, fun k hk => (hg.block k (Nat.lt_of_lt_of_le hk b.size) (fun e => by have := hr k e.symm; omega)).trans (b.block k hk)⟩
theorem OwnW.snoc {w : World} {lo : Nat} {v : Value} {l : List Nat} {i : Nat} (hi : i < l.length) {k : Nat} (hk : k = (l.take i).length + 1) (h : w.ownsRow lo 22 1 v k ((l.take i).map (fun n : Nat => Value.int .u32 (n : Int)) ++ [.int .u32 (l[i] : Nat)])) : OwnW w lo v (l.take (i + 1)) := by
  unfold OwnW
  rw [take_step l i hi, List.map_append, List.length_append]
  subst hk
  exact h

set_option maxRecDepth 100000 in
set_option maxHeartbeats 2000000 in
theorem maExp (F S : Nat → Prop) (fs : List Fx) (K : Mx) (sv outv ov : Value) (s : St) (t : Ex) : ∀ (w : World) (v : Value) (r : Nat), MaAt F fs K w sv outv ov s → Ex.at S w t v → Ex.ev s t = some r →
    Calls Tryz.prog 96 #[.pointer (some ⟨K.x, 0, none⟩), v, ov] w fun e w' => e = .returned (.tuple #[.int .u32 (r : Int), .bool true]) ∧ Below w.heap.size w w' := by
  refine Ex.ind (P := fun t => ∀ (w : World) (v : Value) (r : Nat), MaAt F fs K w sv outv ov s → Ex.at S w t v → Ex.ev s t = some r →
    Calls Tryz.prog 96 #[.pointer (some ⟨K.x, 0, none⟩), v, ov] w fun e w' => e = .returned (.tuple #[.int .u32 (r : Int), .bool true]) ∧ Below w.heap.size w w') ?_ t
  intro k n l ih w v r hM hv hev
  rw [Ex.ev] at hev
  split at hev
  case h_2 => cases hev
  rename_i vs hvs
  obtain ⟨hvl, hvi⟩ := Ex.evs_get hvs
  have hvlt := Ex.evs_lt s hM.ok hvs
  have hcase := Ex.val_cases hev
  have hl2 : l.length ≤ 2 := by
    rw [← hvl]
    rcases hcase with ⟨_, e, _⟩ | ⟨_, e, _⟩ | ⟨_, e, _⟩ | ⟨_, _, e, _⟩ | ⟨_, _, e, _⟩ | ⟨_, _, _, e, _⟩ <;> rw [e] <;> simp
  obtain ⟨u, rfl, hl⟩ := Ex.at_mk.1 hv
  obtain ⟨A, cap, rfl⟩ := hl.slice
  obtain ⟨iC, hiC, hzC, hsC, hbC⟩ := info_parts3 (show (Tryz.prog.info? 22).map (fun i => (i.zero, i.size, i.bytes)) = some (some (.int .u32 0), 1, 4) by kernel_rfl)
  replace hiC := Lib.hid hiC
  replace hzC := Lib.hid hzC
  replace hsC := Lib.hid hsC
  replace hbC := Lib.hid hbC
  have hxl := hM.vb.lt
  have W0 := Lib.hid (VB.new w 79 #[.int .i64 k, .int .i64 n, .slice A l.length cap])
  have B0 := Lib.hid (B.alloc (B.refl w) (.cells #[.int .i64 k, .int .i64 n, .slice A l.length cap] 79))
  replace ih := Lib.hid ih
  replace hl := Lib.hid hl
  replace hM := Lib.hid hM
  replace hvi := Lib.hid hvi
  replace hvlt := Lib.hid hvlt
  replace hcase := Lib.hid hcase
  replace hvs := Lib.hid hvs
  clear hv hev
  obtain ⟨R, hR⟩ : ∃ R : Int, R = (r : Int) := ⟨_, rfl⟩
  rw [← hR]
  replace hR := Lib.hid hR
  go_enter Tryz.func96, Tryz.ntmps96
  go_wp2_with fail
  go_loopw [8, 9] (fun lv q wr => ∃ i : Nat, q = .int .i64 (i : Int) ∧ i ≤ l.length ∧ OwnW wr (w.heap.size + 1) lv (vs.take i) ∧ Below w.heap.size w wr ∧ VB wr w.heap.size 79 #[.int .i64 k, .int .i64 n, .slice A l.length cap])
    (fun _ q _ => l.length - (intOf q).toNat)
  case atStart => exact ⟨0, rfl, by omega, World.ownsRow_nil _ _ _ _, B0.out, W0.out⟩
  case round =>
    obtain ⟨i, rfl, hi, hlv, hb1, hv1⟩ := hrel
    have z0 := hv1.cell 0
    have z1 := hv1.cell 1
    have z2 := hv1.cell 2
    simp at z0 z1 z2
    have hsz := hb1.size
    have hvsz := hv1.lt
    by_cases hil : i < l.length
    · have hM1 := hM.out.below hb1
      have hiv : i < vs.length := by omega
      obtain ⟨b, off, k', n', A1, k1, l1, rfl, hbw, d0, d1, d2, hat⟩ := (hl.out.below hb1).elemAt i hil
      have hc := ih.out l[i] (List.getElem_mem hil) wr _ vs[i] hM1 hat (hvi.out i hil hiv)
      have hyl := hvlt.out vs[i] (List.getElem_mem hiv)
      have hsn := Lib.hid (fun (wq : World) (vq : Value) (kq : Nat) (h1 : kq = (vs.take i).length + 1) (h2 : wq.ownsRow (w.heap.size + 1) 22 1 vq kq ((vs.take i).map (fun n : Nat => Value.int .u32 (n : Int)) ++ [.int .u32 (vs[i] : Nat)])) => OwnW.snoc (w := wq) hiv h1 h2)
      obtain ⟨y, hy⟩ : ∃ y, y = vs[i] := ⟨_, rfl⟩
      rw [← hy] at hc hyl hsn
      have htl : (vs.take i).length = i := by rw [List.length_take]; omega
      replace hc := Lib.hid hc
      replace hb1 := Lib.hid hb1
      replace hv1 := Lib.hid hv1
      replace hlv := Lib.hid hlv
      replace htl := Lib.hid htl
      replace hy := Lib.hid hy
      clear hat hM1
      go_wp2_with fail
      refine hc.out.mono ?_
      rintro _ w3 ⟨rfl, b3⟩
      have hlv3 := Lib.hid (hlv.out.below b3)
      have hv3 := Lib.hid (VB.call hv1.out b3)
      have hb3 := Lib.hid (B.call hb1.out b3)
      have hs3 := b3.size
      clear hc b3
      go_wp2_with (at_builtin; refine app_row Tryz.underlying23 hiC.out hzC.out hsC.out hbC.out rfl (by decide) rfl (.tmp 34) (.tmp 36) rfl rfl (World.ownsRow.alloc hlv3.out _) ⟨w3.heap.size, 0, none⟩ 1 1 [.int .u32 (y : Int)] rfl rfl (cells1 w3 _ _) (by simp [Value.oneCell']) (by rw [htl.out]; unfold maxLen; omega) (by rw [htl.out]; omega) (by simp; omega) ?_; intro v4 w4 hown4 hg4 hb4)
      have hlt3 := World.ownsRow.lt hlv3.out
      have hbA := (hb3.out.trans ((B.alloc (B.refl w3) (.cells #[.int .u32 (y : Int)] 22)).mono hb3.out.size))
      have hb4' : Below w.heap.size w w4 := below_grownR hbA hg4 (fun g e => by have := (hlt3 g e).1; omega)
      have hv4 : VB w4 w.heap.size 79 _ := VB.grownA (hv3.out.alloc _) hg4 (fun g e => by have := (hlt3 g e).1; omega)
      exact ⟨⟨i + 1, by rw [show ((i + 1 : Nat) : Int) = (i : Int) + 1 by omega], by omega, hsn.out w4 v4 _ (by rw [htl.out]) hown4, hb4', hv4⟩, by simp only [intOf]; omega⟩
    · have hie : i = l.length := by omega
      subst hie
      rw [List.take_of_length_le (by omega)] at hlv
      have hM1 := Lib.hid (hM.out.below hb1)
      rcases hcase.out with ⟨rfl, e, h1, h2, h3⟩ | ⟨rfl, e, h1, hi2, h3⟩ | ⟨rfl, e, h1, hi2, h3⟩ | ⟨rfl, a, e, rfl, h2, h3⟩ | ⟨rfl, a, e, rfl, h3⟩ | ⟨rfl, a, b, e, h1, h2, h3⟩
      · replace h3 := Lib.hid h3
        replace hlv := Lib.hid hlv
        replace hb1 := Lib.hid hb1
        replace hv1 := Lib.hid hv1
        go_wp2_with fail
        go_returns
        exact ⟨by rw [hR.out, h3.out]; rfl, hb1.out⟩
      · obtain ⟨A2, c2, he2, hc2⟩ := hM1.out.own.cell
        obtain ⟨g2, rfl, -, -, x2, -⟩ := hc2 n.toNat hi2
        subst he2
        rw [h3] at x2
        have i1 : n < (s.own.length : Int) := by omega
        replace hlv := Lib.hid hlv
        replace hb1 := Lib.hid hb1
        replace hv1 := Lib.hid hv1
        replace h3 := Lib.hid h3
        clear hc2
        go_wp2_with fail
        go_returns
        exact ⟨by rw [hR.out]; rfl, hb1.out⟩
      · obtain ⟨A2, c2, he2, hc2⟩ := hM1.out.g.cell
        simp only [Value.slice.injEq] at he2
        obtain ⟨rfl, -, rfl⟩ := he2
        obtain ⟨g2, e2, -, -, x2, -⟩ := hc2 n.toNat hi2
        simp only [Option.some.injEq, Addr.mk.injEq, and_true] at e2
        subst e2
        rw [h3] at x2
        have i1 : n < (s.g.length : Int) := by omega
        have x6 := hM1.out.vb.cell 6
        simp [Mx.cells] at x6
        replace hlv := Lib.hid hlv
        replace hb1 := Lib.hid hb1
        replace hv1 := Lib.hid hv1
        replace h3 := Lib.hid h3
        clear hc2
        go_wp2_with fail
        go_quiet (fail)
        go_wp2_with fail
        go_returns
        exact ⟨by rw [hR.out]; rfl, hb1.out.os, hb1.out.tape, hb1.out.output, hb1.out.size, hb1.out.block⟩
      · rw [e] at hlv hvlt
        obtain ⟨A2, c2, rfl, hc2⟩ := hlv.cell
        obtain ⟨g2, rfl, -, -, x2, -⟩ := hc2 0 (by simp)
        simp only [List.getElem_cons_zero] at x2
        have x5 := hM1.out.vb.cell 5
        simp [Mx.cells] at x5
        have hwd := Mm.word_lt hM.out.ok.byt (a : Int)
        have hpg := hM.out.ok.pages
        have hln := hM.out.ok.len
        have hal := hvlt.out a (by simp)
        have C := fun nq : Nat => mmLoadQ (wr.drewN nq) (K.m + 1) K.m (s.N : Int) 65536 sv s.L (a : Int) 0 (hM1.out.mem.call (below_drewN wr nq)) (by omega) hM.out.ok.byt (by omega) (by omega)
        have hrz : (r : Int) = Mm.word s.L ((a : Int) + 0) := by rw [h3, Int.add_zero]; omega
        rw [← hrz] at C
        replace C := Lib.hid C
        replace hlv := Lib.hid hlv
        replace hb1 := Lib.hid hb1
        replace hv1 := Lib.hid hv1
        replace h3 := Lib.hid h3
        replace hrz := Lib.hid hrz
        clear hc2 hwd
        go_wp2_with fail
        go_quiet (first | (go_at_call 99; refine Calls.quiet_of (C.out _)))
        go_wp2_with fail
        go_returns
        exact ⟨by rw [hR.out]; rfl, hb1.out.os, hb1.out.tape, hb1.out.output, hb1.out.size, hb1.out.block⟩
      · rw [e] at hlv
        obtain ⟨A2, c2, rfl, hc2⟩ := hlv.cell
        obtain ⟨g2, rfl, -, -, x2, -⟩ := hc2 0 (by simp)
        simp only [List.getElem_cons_zero] at x2
        have har : (r : Int) = rkB (decide (a = 0)) := by
          rw [h3]
          by_cases e0 : a = 0
          · rw [if_pos e0, e0]; rfl
          · rw [if_neg e0]; simp only [rkB]; rw [if_neg (by simpa using e0)]; rfl
        replace hlv := Lib.hid hlv
        replace hb1 := Lib.hid hb1
        replace hv1 := Lib.hid hv1
        replace h3 := Lib.hid h3
        replace har := Lib.hid har
        clear hc2
        go_wp2_with fail
        go_quiet (first | (go_at_call 100; refine Calls.quiet_of_same (rkOne a _)))
        go_wp2_with fail
        go_returns
        exact ⟨by rw [hR.out, har.out]; rfl, hb1.out.os, hb1.out.tape, hb1.out.output, hb1.out.size, hb1.out.block⟩
      · rw [e] at hlv hvlt
        obtain ⟨A2, c2, rfl, hc2⟩ := hlv.cell
        obtain ⟨g2, rfl, -, -, x2, -⟩ := hc2 0 (by simp)
        obtain ⟨g3, e3, -, -, x3, -⟩ := hc2 1 (by simp)
        simp only [Option.some.injEq, Addr.mk.injEq, and_true] at e3
        subst e3
        simp only [List.getElem_cons_zero, List.getElem_cons_succ] at x2 x3
        have C := fun wq => rkTwo n a b wq h1 (hvlt.out a (by simp)) (hvlt.out b (by simp)) h2
        rw [← h3] at C
        replace hlv := Lib.hid hlv
        replace hb1 := Lib.hid hb1
        replace hv1 := Lib.hid hv1
        replace h3 := Lib.hid h3
        replace C := Lib.hid C
        replace h1 := Lib.hid h1
        replace h2 := Lib.hid h2
        clear hc2
        go_wp2_with fail
        go_quiet (first | (go_at_call 101; refine Calls.quiet_of_same (C.out _)))
        go_wp2_with fail
        go_returns
        exact ⟨by rw [hR.out]; rfl, hb1.out.os, hb1.out.tape, hb1.out.output, hb1.out.size, hb1.out.block⟩

end Go.Proofs.YtgohnekaolgblaaGreat

/- The document's machine: lists of expressions, a step: contracts (gimletref28's Machine.exps, step). -/
namespace Go.Proofs.YtgohnekaolgblaaGreat
open Go.RowKit

set_option maxRecDepth 100000 in
set_option maxHeartbeats 2000000 in
theorem maExps (F S : Nat → Prop) (fs : List Fx) (K : Mx) (sv outv ov : Value) (s : St) (l : List Ex) (w : World) (v : Value) (vs : List Nat) (hM : MaAt F fs K w sv outv ov s) (hl : ExL S w l v) (hvs : Ex.evs s l = some vs) (hll : l.length ≤ 1000) :
    Calls Tryz.prog 92 #[.pointer (some ⟨K.x, 0, none⟩), v, ov] w fun e w' => ∃ lv, e = .returned (.tuple #[lv, .bool true]) ∧ OwnW w' w.heap.size lv vs ∧ Below w.heap.size w w' := by
  obtain ⟨hvl, hvi⟩ := Ex.evs_get hvs
  have hvlt := Ex.evs_lt s hM.ok hvs
  obtain ⟨A, cap, rfl⟩ := hl.slice
  obtain ⟨iC, hiC, hzC, hsC, hbC⟩ := info_parts3 (show (Tryz.prog.info? 22).map (fun i => (i.zero, i.size, i.bytes)) = some (some (.int .u32 0), 1, 4) by kernel_rfl)
  replace hiC := Lib.hid hiC
  replace hzC := Lib.hid hzC
  replace hsC := Lib.hid hsC
  replace hbC := Lib.hid hbC
  have ih := Lib.hid (maExp F S fs K sv outv ov s)
  replace hl := Lib.hid hl
  replace hM := Lib.hid hM
  replace hvi := Lib.hid hvi
  replace hvlt := Lib.hid hvlt
  replace hvs := Lib.hid hvs
  go_enter Tryz.func92, Tryz.ntmps92
  go_wp2_with fail
  go_loopw [8, 9] (fun lv q wr => ∃ i : Nat, q = .int .i64 (i : Int) ∧ i ≤ l.length ∧ OwnW wr w.heap.size lv (vs.take i) ∧ Below w.heap.size w wr)
    (fun _ q _ => l.length - (intOf q).toNat)
  case atStart => exact ⟨0, rfl, by omega, World.ownsRow_nil _ _ _ _, B.refl _⟩
  case round =>
    obtain ⟨i, rfl, hi, hlv, hb1⟩ := hrel
    have hsz := hb1.size
    by_cases hil : i < l.length
    · have hM1 := hM.out.below hb1
      have hiv : i < vs.length := by omega
      obtain ⟨b, off, k', n', A1, k1, l1, rfl, hbw, d0, d1, d2, hat⟩ := (hl.out.below hb1).elemAt i hil
      have hc := ih.out l[i] wr _ vs[i] hM1 hat (hvi.out i hil hiv)
      have hyl := hvlt.out vs[i] (List.getElem_mem hiv)
      have hsn := Lib.hid (fun (wq : World) (vq : Value) (kq : Nat) (h1 : kq = (vs.take i).length + 1) (h2 : wq.ownsRow w.heap.size 22 1 vq kq ((vs.take i).map (fun n : Nat => Value.int .u32 (n : Int)) ++ [.int .u32 (vs[i] : Nat)])) => OwnW.snoc (w := wq) hiv h1 h2)
      obtain ⟨y, hy⟩ : ∃ y, y = vs[i] := ⟨_, rfl⟩
      rw [← hy] at hc hyl hsn
      have htl : (vs.take i).length = i := by rw [List.length_take]; omega
      replace hc := Lib.hid hc
      replace hb1 := Lib.hid hb1
      replace hlv := Lib.hid hlv
      replace htl := Lib.hid htl
      replace hy := Lib.hid hy
      clear hat hM1
      go_wp2_with fail
      refine hc.out.mono ?_
      rintro _ w3 ⟨rfl, b3⟩
      have hlv3 := Lib.hid (hlv.out.below b3)
      have hb3 := Lib.hid (B.call hb1.out b3)
      have hs3 := b3.size
      clear hc b3
      go_wp2_with (at_builtin; refine app_row Tryz.underlying23 hiC.out hzC.out hsC.out hbC.out rfl (by decide) rfl (.tmp 30) (.tmp 32) rfl rfl (World.ownsRow.alloc hlv3.out _) ⟨w3.heap.size, 0, none⟩ 1 1 [.int .u32 (y : Int)] rfl rfl (cells1 w3 _ _) (by simp [Value.oneCell']) (by rw [htl.out]; unfold maxLen; omega) (by rw [htl.out]; omega) (by simp; omega) ?_; intro v4 w4 hown4 hg4 hb4)
      have hlt3 := World.ownsRow.lt hlv3.out
      have hbA := (hb3.out.trans ((B.alloc (B.refl w3) (.cells #[.int .u32 (y : Int)] 22)).mono hb3.out.size))
      have hb4' : Below w.heap.size w w4 := below_grownR hbA hg4 (fun g e => (hlt3 g e).1)
      exact ⟨⟨i + 1, by rw [show ((i + 1 : Nat) : Int) = (i : Int) + 1 by omega], by omega, hsn.out w4 v4 _ (by rw [htl.out]) hown4, hb4'⟩, by simp only [intOf]; omega⟩
    · have hie : i = l.length := by omega
      subst hie
      rw [List.take_of_length_le (by omega)] at hlv
      replace hlv := Lib.hid hlv
      replace hb1 := Lib.hid hb1
      go_wp2_with fail
      go_returns
      exact ⟨_, rfl, hlv.out, hb1.out⟩

end Go.Proofs.YtgohnekaolgblaaGreat

/- The document's machine: what a store into it leaves; a step: contract (gimletref28's Machine.step). -/
namespace Go.Proofs.YtgohnekaolgblaaGreat
open Go.RowKit

theorem row_ne {w : World} {x : Nat} {T : TypeId} {cs : Array Value} {B : Nat} {E : TypeId} {size : Nat} {v : Value} {n : Nat} {xs : List Value} (h : VB w x T cs) (hr : w.ownsRow B E size v n xs) (hne : T ≠ E) : v.ownBlock ≠ some x := by
  intro e
  obtain ⟨-, ⟨rfl, -⟩ | ⟨g, cap, cur, rfl, -, hh, -⟩⟩ := hr
  · cases e
  · simp only [Value.ownBlock, Option.some.injEq] at e
    subst e
    have h' : w.heap[g]? = some (.cells cs T) := h
    rw [hh] at h'
    simp only [Option.some.injEq, Obj.cells.injEq] at h'
    exact hne h'.2.1.symm
theorem vb_ne {w : World} {x y : Nat} {T E : TypeId} {cs ds : Array Value} (h : VB w x T cs) (h' : VB w y E ds) (hne : T ≠ E) : x ≠ y := by
  rintro rfl
  have h1 : w.heap[x]? = some (.cells cs T) := h
  have h2 : w.heap[x]? = some (.cells ds E) := h'
  rw [h1] at h2
  simp only [Option.some.injEq, Obj.cells.injEq] at h2
  exact hne h2.2.1

/-- What a store into the machine's block leaves. -/
theorem MaAt.setX {F : Nat → Prop} {fs : List Fx} {K : Mx} {w : World} {sv outv ov : Value} {s : St} (h : MaAt F fs K w sv outv ov s) (i : Nat) (v : Value) (s' : St) (hL : s'.L = s.L) (hN : s'.N = s.N) (hg : s'.g = s.g) (ho : s'.own = s.own) (hu : s'.out = s.out) (hok : s'.ok)
    (hvb : VB (w.setCell ⟨K.x, i, none⟩ v) K.x 88 (K.cells s' outv)) : MaAt F fs K (w.setCell ⟨K.x, i, none⟩ v) sv outv ov s' := by
  have hk : ∀ k, k ≠ K.x → (w.setCell ⟨K.x, i, none⟩ v).heap[k]? = w.heap[k]? := fun k hk => Below.heap_setCell w ⟨K.x, i, none⟩ v k hk
  have n1 := vb_ne h.vb h.mem.vb (by decide)
  have n2 := row_ne h.vb h.mem.own (by decide)
  have n3 := row_ne h.vb h.g (by decide)
  have n4 := row_ne h.vb h.own (by decide)
  have n5 := row_ne h.vb h.out (by decide)
  refine ⟨hvb, ⟨?_, ?_, ?_⟩, ?_, ?_, ?_, ?_, h.low, h.lox, h.lom, h.apart, hok⟩
  · rw [hN]; exact (hk K.m (fun e => n1 e.symm)).trans h.mem.vb
  · rw [hL]; exact row_keep h.mem.own fun g hg => hk g (fun e => n2 (by rw [hg, e]))
  · rw [hL]; exact h.mem.up
  · rw [hg]; exact row_keep h.g fun g hg => hk g (fun e => n3 (by rw [hg, e]))
  · rw [ho]; exact row_keep h.own fun g hg => hk g (fun e => n4 (by rw [hg, e]))
  · rw [hu]; exact row_keep h.out fun g hg => hk g (fun e => n5 (by rw [hg, e]))
  · refine h.funs.keep (by simp [World.setCell]) (fun _ _ h => h) fun b o u _ hb hc => ?_
    rw [← hc]
    exact World.cell?_of_block (w := w) (hk b (fun e => by have := h.low b hb; have := h.lox; omega))

set_option maxRecDepth 100000 in
set_option maxHeartbeats 2000000 in
theorem maStep (F : Nat → Prop) (fs : List Fx) (K : Mx) (sv outv ov : Value) (s : St) (w : World) (hM : MaAt F fs K w sv outv ov s) (hleft : 0 < s.left) :
    Calls Tryz.prog 83 #[.pointer (some ⟨K.x, 0, none⟩)] w fun e w' => e = .returned (.bool true) ∧ MaAt F fs K w' sv outv ov { s with left := s.left - 1, used := s.used + 1 } ∧ GrowS (fun k => k = K.x) w w' := by
  have x13 := hM.vb.cell 13
  have f13 := hM.vb.free 13
  have x11 := hM.vb.cell 11
  have f11 := hM.vb.free 11
  have hxl := hM.vb.lt
  simp [Mx.cells] at x13 x11
  have hl := hM.ok.left
  have hu := hM.ok.used
  have e1 : (s.left : Int) - 1 = ((s.left - 1 : Nat) : Int) := by omega
  have e2 : (s.used : Int) + 1 = ((s.used + 1 : Nat) : Int) := by omega
  have hok : St.ok { s with left := s.left - 1, used := s.used + 1 } := ⟨hM.ok.up, hM.ok.place, hM.ok.byt, hM.ok.pages, hM.ok.g, hM.ok.gl, hM.ok.own, hM.ok.ownl, hM.ok.outl, by have := hM.ok.sum; simp only; omega, hM.ok.told, hM.ok.n, hM.ok.deep⟩
  have hok1 : St.ok { s with left := s.left - 1 } := ⟨hM.ok.up, hM.ok.place, hM.ok.byt, hM.ok.pages, hM.ok.g, hM.ok.gl, hM.ok.own, hM.ok.ownl, hM.ok.outl, by have := hM.ok.sum; simp only; omega, hM.ok.told, hM.ok.n, hM.ok.deep⟩
  have M1 := hM.setX 13 (.int .i64 ((s.left - 1 : Nat) : Int)) { s with left := s.left - 1 } rfl rfl rfl rfl rfl hok1 (hM.vb.set 13 _)
  have M2 := M1.setX 11 (.int .i64 ((s.used + 1 : Nat) : Int)) { s with left := s.left - 1, used := s.used + 1 } rfl rfl rfl rfl rfl hok (M1.vb.set 11 _)
  rw [← e1] at M2
  rw [← e2] at M2
  have hl0 : ¬ (s.left : Int) = 0 := by omega
  have hlI : (s.left : Int) ≤ 1000000000 := by omega
  have huI : (s.used : Int) ≤ 1000000000 := by omega
  have G2 := ((GrowS.refl (fun k => k = K.x) w).set (b := K.x) (i := 13) rfl (.int .i64 ((s.left : Int) - 1))).set (b := K.x) (i := 11) rfl (.int .i64 ((s.used : Int) + 1))
  replace M2 := Lib.hid M2
  replace G2 := Lib.hid G2
  clear M1 hM e1 e2 hok hok1
  go_enter Tryz.func83, Tryz.ntmps83
  go_wp2_with fail
  go_returns
  exact ⟨rfl, M2.out, G2.out⟩

end Go.Proofs.YtgohnekaolgblaaGreat

/- The document's machine: what programs do, as a relation: runs that do not stop. -/
namespace Go.Proofs.YtgohnekaolgblaaGreat
open Go.RowKit

/-- What is done: a thing, a list, a loop's round (its step is done), a function, of words. -/
inductive Task where
  | one (t : Lo)
  | list (l : List Lo)
  | loop (l : List Lo)
  | call (n : Nat) (vs : List Nat)

/-- A step is done. -/
def St.step (s : St) : St := { s with left := s.left - 1, used := s.used + 1 }

/-- What is done leads from a state to a state, and ends so: 0: through, 1: loops are left, 2: the function ends. The number: how many things stand in one another at most. -/
inductive Runs (fs : List Fx) : Nat → Task → St → St → Nat → Prop
  | nil {k : Nat} {s : St} : Runs fs k (.list []) s s 0
  | cons {k : Nat} {t : Lo} {ts : List Lo} {s s1 s2 : St} {h : Nat} : 0 < s.left → Runs fs k (.one t) s.step s1 0 → Runs fs k (.list ts) s1 s2 h → Runs fs k (.list (t :: ts)) s s2 h
  | stop {k : Nat} {t : Lo} {ts : List Lo} {s s1 : St} {h : Nat} : 0 < s.left → Runs fs k (.one t) s.step s1 h → h ≠ 0 → Runs fs k (.list (t :: ts)) s s1 h
  | set {k : Nat} {x n : Nat} {a : List Ex} {l : List Lo} {s : St} {v : Nat} : Ex.evs s a = some [v] → x < s.own.length → Runs fs k (.one (.mk 1 x n a l)) s { s with own := s.own.set x v } 0
  | put {k : Nat} {x n : Nat} {a : List Ex} {l : List Lo} {s : St} {v : Nat} : Ex.evs s a = some [v] → x < s.g.length → Runs fs k (.one (.mk 2 x n a l)) s { s with g := s.g.set x v } 0
  | store {k : Nat} {x : Nat} {a : List Ex} {l : List Lo} {s : St} {p v : Nat} : Ex.evs s a = some [p, v] → p + 4 ≤ s.N * 65536 → Runs fs k (.one (.mk 3 x 0 a l)) s { s with L := Mm.put s.L p v 4 } 0
  | when_ {k : Nat} {x n : Nat} {a : List Ex} {l : List Lo} {s s1 : St} {v h : Nat} : Ex.evs s a = some [v] → v ≠ 0 → Runs fs k (.list l) s s1 h → Runs fs (k + 1) (.one (.mk 5 x n a l)) s s1 h
  | skip {k : Nat} {x n : Nat} {a : List Ex} {l : List Lo} {s : St} : Ex.evs s a = some [0] → Runs fs k (.one (.mk 5 x n a l)) s s 0
  | loop {k : Nat} {x n : Nat} {a : List Ex} {l : List Lo} {s s1 : St} {h : Nat} : Runs fs k (.loop l) s s1 h → Runs fs (k + 1) (.one (.mk 6 x n a l)) s s1 h
  | brk {k : Nat} {x n : Nat} {l : List Lo} {s : St} : n ≤ 1000 → Runs fs k (.one (.mk 7 x n [] l)) s { s with n := n } 1
  | tell {k : Nat} {x n : Nat} {a : List Ex} {l : List Lo} {s : St} {v : Nat} : Ex.evs s a = some [v] → Runs fs k (.one (.mk 9 x n a l)) s { s with told := v } 2
  | call {k : Nat} {x n : Nat} {a : List Ex} {l : List Lo} {s s1 : St} {vs : List Nat} : Ex.evs s a = some vs → a.length ≤ 20 → x < s.own.length → Runs fs k (.call n vs) s s1 0 → Runs fs (k + 1) (.one (.mk 10 x n a l)) s { s1 with own := s.own.set x s1.told } 0
  | out {k : Nat} {x n : Nat} {a : List Ex} {l : List Lo} {s : St} {v : Nat} : Ex.evs s a = some [v] → s.out.length < 1000 → Runs fs k (.one (.mk 13 x n a l)) s { s with out := s.out ++ [v % 256] } 0
  | again {k : Nat} {l : List Lo} {s s1 s2 : St} {h : Nat} : Runs fs k (.list l) s s1 0 → 0 < s1.left → Runs fs k (.loop l) s1.step s2 h → Runs fs k (.loop l) s s2 h
  | leave {k : Nat} {l : List Lo} {s s1 : St} : Runs fs k (.list l) s s1 1 → s1.n = 0 → Runs fs k (.loop l) s s1 0
  | leaves {k : Nat} {l : List Lo} {s s1 : St} : Runs fs k (.list l) s s1 1 → 0 < s1.n → Runs fs k (.loop l) s { s1 with n := s1.n - 1 } 1
  | tells {k : Nat} {l : List Lo} {s s1 : St} : Runs fs k (.list l) s s1 2 → Runs fs k (.loop l) s s1 2
  | fn {k : Nat} {n : Nat} {vs : List Nat} {f : Fx} {s s1 : St} {h c : Nat} : s.deep < 5000 → fs[n]? = some f → f.n = (c : Int) → c ≤ 1000 → vs.length ≤ 20 → h ≠ 1 →
      Runs fs k (.list f.l) { s with deep := s.deep + 1, own := vs ++ List.replicate c 0, told := 0 } s1 h → Runs fs k (.call n vs) s { s1 with own := s.own, deep := s.deep, told := if h = 0 then 0 else s1.told } 0

theorem Runs.how {fs : List Fx} {k : Nat} {t : Task} {s s1 : St} {h : Nat} (r : Runs fs k t s s1 h) : h ≤ 2 := by
  induction r <;> omega
/-- What stays: the pages; calls in one another, but for the function's own; steps are done, not undone. -/
theorem Runs.same {fs : List Fx} {k : Nat} {t : Task} {s s1 : St} {h : Nat} (r : Runs fs k t s s1 h) : s1.left ≤ s.left ∧ s1.deep = s.deep ∧ s1.N = s.N ∧ s1.own.length = s.own.length ∧ s1.g.length = s.g.length := by
  induction r with
  | nil => exact ⟨Nat.le_refl _, rfl, rfl, rfl, rfl⟩
  | cons h0 _ _ i1 i2 => simp only [St.step] at i1; refine ⟨by omega, by rw [i2.2.1, i1.2.1], by rw [i2.2.2.1, i1.2.2.1], by rw [i2.2.2.2.1, i1.2.2.2.1], by rw [i2.2.2.2.2, i1.2.2.2.2]⟩
  | stop h0 _ _ i1 => simp only [St.step] at i1; exact ⟨by omega, i1.2⟩
  | set => simp
  | put => simp
  | store => simp
  | when_ _ _ _ i => exact i
  | skip => simp
  | loop _ i => exact i
  | brk => simp
  | tell => simp
  | call _ _ _ _ i => exact ⟨i.1, i.2.1, i.2.2.1, by simp, i.2.2.2.2⟩
  | out => simp
  | again _ h0 _ i1 i2 => simp only [St.step] at i2; refine ⟨by omega, by rw [i2.2.1, i1.2.1], by rw [i2.2.2.1, i1.2.2.1], by rw [i2.2.2.2.1, i1.2.2.2.1], by rw [i2.2.2.2.2, i1.2.2.2.2]⟩
  | leave _ _ i => exact i
  | leaves _ _ i => exact i
  | tells _ i => exact i
  | fn _ _ _ _ _ _ _ i => exact ⟨i.1, rfl, i.2.2.1, rfl, i.2.2.2.2⟩

end Go.Proofs.YtgohnekaolgblaaGreat

/- All expressions of things: contract (gimletref28.all); append of lists of expressions. -/
namespace Go.Proofs.YtgohnekaolgblaaGreat
open Go.RowKit

abbrev Ex.flat (vs : List (Value × Value × Value)) : List Value := vs.flatMap fun v => [v.1, v.2.1, v.2.2]
theorem Ex.flat_length (vs : List (Value × Value × Value)) : (Ex.flat vs).length = vs.length * 3 := by
  induction vs with
  | nil => rfl
  | cons v vs ih => simp only [Ex.flat, List.flatMap_cons, List.length_append, List.length_cons, List.length_nil] at ih ⊢; omega
theorem Ex.ats_cells {S : Nat → Prop} {w : World} {b : Nat} : ∀ {l : List Ex} {off : Nat}, Ex.ats S w l b off → ∃ vs, ExV S w l vs ∧ (∀ u ∈ Ex.flat vs, u.oneCell' = true) ∧ ∀ (j : Nat) u, (Ex.flat vs)[j]? = some u → w.cell? ⟨b, off + j, none⟩ = some u
  | [], off, _ => ⟨[], trivial, by simp, by simp⟩
  | t :: l, off, h => by
    rw [Ex.ats] at h
    obtain ⟨⟨v0, v1, v2, c0, c1, c2, ha⟩, hl⟩ := h
    obtain ⟨vs, h1, h2, h3⟩ := Ex.ats_cells hl
    refine ⟨(v0, v1, v2) :: vs, ExV.cons ha h1, ?_, ?_⟩
    · obtain ⟨k, n, l'⟩ := t
      obtain ⟨A, c, e⟩ := Ex.agg ha
      simp only [Value.agg.injEq, Array.mk.injEq, List.cons.injEq, and_true] at e
      obtain ⟨rfl, rfl, rfl⟩ := e
      intro u hu
      simp only [Ex.flat, List.flatMap_cons, List.cons_append, List.nil_append, List.mem_cons] at hu
      rcases hu with rfl | rfl | rfl | hu
      · rfl
      · rfl
      · rfl
      · exact h2 u hu
    · intro j u hj
      simp only [Ex.flat, List.flatMap_cons, List.cons_append, List.nil_append] at hj
      match j, hj with
      | 0, hj => simp at hj; subst hj; exact c0
      | 1, hj => simp at hj; subst hj; exact c1
      | 2, hj => simp at hj; subst hj; exact c2
      | j + 3, hj =>
        have := h3 j u (by simpa using hj)
        rw [show off + (j + 3) = off + 3 + j by omega]; exact this
theorem ExV.append {S : Nat → Prop} {w : World} : ∀ {l l' : List Ex} {vs vs' : List (Value × Value × Value)}, ExV S w l vs → ExV S w l' vs' → ExV S w (l ++ l') (vs ++ vs')
  | [], _, [], _, _, h' => h'
  | _ :: _, _, _ :: _, _, h, h' => ⟨h.1, ExV.append h.2 h'⟩
theorem ExV.imp {S S' : Nat → Prop} {w w' : World} (h : ∀ t v, Ex.at S w t v → Ex.at S' w' t v) : ∀ {l : List Ex} {vs : List (Value × Value × Value)}, ExV S w l vs → ExV S' w' l vs
  | [], [], _ => trivial
  | _ :: _, _ :: _, k => ⟨h _ _ k.1, ExV.imp h k.2⟩
theorem Ex.ats_of_cells {S : Nat → Prop} {w : World} {b : Nat} : ∀ {l : List Ex} {off : Nat} {vs : List (Value × Value × Value)}, ExV S w l vs → (∀ (j : Nat) u, (Ex.flat vs)[j]? = some u → w.cell? ⟨b, off + j, none⟩ = some u) → Ex.ats S w l b off
  | [], _, [], _, _ => by rw [Ex.ats]; trivial
  | t :: l, off, v :: vs, h, hc => by
    rw [Ex.ats]
    refine ⟨⟨v.1, v.2.1, v.2.2, hc 0 _ (by simp [Ex.flat]), hc 1 _ (by simp [Ex.flat]), hc 2 _ (by simp [Ex.flat]), h.1⟩, Ex.ats_of_cells h.2 fun j u hj => ?_⟩
    rw [show off + 3 + j = off + (j + 3) by omega]
    exact hc (j + 3) u (by simpa [Ex.flat] using hj)

/-- A slice of the call's own that holds expressions whose parts lie in S. -/
def OwnX (S : Nat → Prop) (B : Nat) (w : World) (v : Value) (ts : List Ex) : Prop := ∃ vs, ExV S w ts vs ∧ (∀ u ∈ Ex.flat vs, u.oneCell' = true) ∧ w.ownsRow B 79 3 v ts.length (Ex.flat vs)
/-- A slice that is read. -/
def SrcX (S : Nat → Prop) (w : World) (u : Value) (ys : List Ex) : Prop := ∃ A cap vs, u = .slice A ys.length cap ∧ ExV S w ys vs ∧ (∀ u ∈ Ex.flat vs, u.oneCell' = true) ∧ (A = none → ys = []) ∧ ∀ ad, A = some ad → ∀ (j : Nat) u, (Ex.flat vs)[j]? = some u → w.cell? (ad.add j) = some u
theorem OwnX.nil (S : Nat → Prop) (B : Nat) (w : World) : OwnX S B w (.slice none 0 0) [] := ⟨[], trivial, by simp, World.ownsRow_nil _ _ _ _⟩
theorem ExL.src {S : Nat → Prop} {w : World} {u : Value} {ys : List Ex} (h : ExL S w ys u) : SrcX S w u ys := by
  obtain ⟨A, cap, rfl, h1, h2, h3⟩ := h
  by_cases hne : ys = []
  · subst hne
    exact ⟨A, cap, [], rfl, trivial, by simp, fun _ => rfl, fun ad _ j u hj => by simp at hj⟩
  · obtain ⟨b, off, rfl, hb, hS, ha⟩ := h3 hne
    obtain ⟨vs, v1, v2, v3⟩ := Ex.ats_cells ha
    refine ⟨_, cap, vs, rfl, v1, v2, fun e => (by cases e), fun ad e j u hj => ?_⟩
    simp only [Option.some.injEq] at e
    subst e
    rw [Addr.add_lit]; exact v3 j u hj
theorem OwnX.src {S : Nat → Prop} {B : Nat} {w : World} {v : Value} {ts : List Ex} (h : OwnX S B w v ts) : SrcX S w v ts := by
  obtain ⟨vs, h1, h2, h3⟩ := h
  have hc := fun g hg => World.ownsRow.cells h3 (g := g) hg
  obtain ⟨hl, ⟨rfl, hn⟩ | ⟨g, cap, cur, rfl, -⟩⟩ := h3
  · exact ⟨none, 0, vs, by rw [hn], h1, h2, fun _ => List.eq_nil_of_length_eq_zero hn, fun ad e => by cases e⟩
  · exact ⟨_, cap, vs, rfl, h1, h2, fun e => (by cases e), fun ad e j u hj => by simp only [Option.some.injEq] at e; subst e; exact hc g rfl j u hj⟩
theorem OwnX.keep {S : Nat → Prop} {B C : Nat} {w w' : World} {v : Value} {ts : List Ex} (h : OwnX S B w v ts) (hb : Below C w w') (hC : w.heap.size ≤ C) : OwnX S B w' v ts := by
  obtain ⟨vs, h1, h2, h3, h4⟩ := h
  refine ⟨vs, h1.imp fun t v k => Ex.at_keep hb.size (fun _ _ h => h) (fun b o u hlt _ hc => (hb.cell (p := ⟨b, o, none⟩) (by simp only; omega)).trans hc) t v k, h2, h3, ?_⟩
  rcases h4 with h4 | ⟨g, cap, cur, hv, hg, hh, r⟩
  · exact .inl h4
  · have hlt : g < w.heap.size := by
      by_cases hlt : g < w.heap.size
      · exact hlt
      · rw [Array.getElem?_eq_none (by omega)] at hh; cases hh
    exact .inr ⟨g, cap, cur, hv, hg, by rw [hb.block g (by omega)]; exact hh, r⟩
theorem OwnX.exl {S : Nat → Prop} {B : Nat} {w : World} {v : Value} {ts : List Ex} (h : OwnX S B w v ts) : ExL (fun _ => True) w ts v := by
  obtain ⟨vs, h1, h2, h3⟩ := h
  have hc := fun g hg => World.ownsRow.cells h3 (g := g) hg
  have hlt := World.ownsRow.lt h3
  obtain ⟨hl, ⟨rfl, hn⟩ | ⟨g, cap, cur, rfl, hB, hh, h4, h5, -⟩⟩ := h3
  · obtain rfl := List.eq_nil_of_length_eq_zero hn
    exact ExL.nil _ _
  · refine ⟨_, cap, rfl, h4, h5, fun _ => ⟨g, 0, rfl, (hlt g rfl).2, trivial, Ex.ats_of_cells (h1.imp fun t v k => k.mono fun _ _ _ => trivial) fun j u hj => ?_⟩⟩
    have := hc g rfl j u hj
    rw [Addr.add_lit] at this
    exact this

theorem run_ex_nil {P : Program} {w : World} {T ty E : TypeId} {i : TypeInfo} {z : Nat} (hT : P.underlying T = some (.slice E)) (hi : P.info? E = some i)
    {B : Nat} {v : Value} {n : Nat} {xs : List Value} (h : w.ownsRow B E z v n xs) (c : Nat) : (Builtin.append_ #[T, T] ty #[v, .slice none 0 c]).run P w = .ok v w := by
  rcases h.2 with ⟨rfl, hn⟩ | ⟨g, cap, cur, rfl, _, _, hnc, _⟩
  · simp [Builtin.append_, run_underlying hT, sizeOf, typeInfo, hi, Builtin.lenOf, Builtin.firstCells]
  · simp [Builtin.append_, run_underlying hT, sizeOf, typeInfo, hi, Builtin.lenOf, Builtin.firstCells, hnc, storeCells]
theorem app_ex {ops : Array Oper} {rest : List Oper} {o : Oper} {a : Act} {Q : Exit → Act → World → Prop} (hgd : o.guard = none) (s x : Operand)
    (ho : o.op = .call { callee := .builtin .append, args := #[s, x], argTypes := #[73, 73] })
    {S : Nat → Prop} {B : Nat} {w : World} {v u : Value} {ts ys : List Ex} (hs : a.eval s = v) (hx : a.eval x = u) (hown : OwnX S B w v ts) (hu : SrcX S w u ys)
    (hSB : ∀ b, S b → b < B) (hB : B ≤ w.heap.size) (hlen : ts.length + ys.length ≤ 1000000)
    (h : ∀ v' w', OwnX S B w' v' (ts ++ ys) → Below B w w' → wpList Tryz.prog ops Q rest (a.put o.dst v') w') : wpList Tryz.prog ops Q (o :: rest) a w := by
  obtain ⟨i, hi, hz, hsz, hby⟩ := info_parts3 (show (Tryz.prog.info? 79).map (fun i => (i.zero, i.size, i.bytes)) = some (some (.agg #[.int .i64 0, .int .i64 0, .slice none 0 0]), 3, 40) by kernel_rfl)
  obtain ⟨vs, v1, v2, v3⟩ := hown
  obtain ⟨A, cap, us, rfl, u1, u2, u3, u4⟩ := hu
  cases A with
  | none =>
    obtain rfl := u3 rfl
    refine wpList_plain hgd fun K hK => ?_
    have hrun := run_ex_nil (P := Tryz.prog) (w := w) (ty := o.type) Tryz.underlying73 hi v3 cap
    simp only [List.length_nil] at hx
    unfold Oper.wp execOp
    simp only [ho, resolve, invoke, builtin, Sem.run_bind, Sem.run_pure, Result.andThen_ok, List.map_toArray, List.map_cons, List.map_nil, hs, hx, hrun]
    exact hK _ _ <| h v w ⟨vs, by simpa using v1, v2, by simpa using v3⟩ (Below.refl _ _)
  | some ad =>
    obtain ⟨n1, -⟩ := u1.get
    refine wpList_append_own w hgd s x 73 ho B 79 i _ 3 40 Tryz.underlying73 hi hz hsz hby rfl (by decide) v ts.length _ hs v3 ad ys.length cap (Ex.flat us) hx ((Ex.flat_length us).trans (by omega)) (u4 ad rfl) u2 (by unfold maxLen; omega) (by omega) hB fun v' w' k1 k2 _ => ?_
    have hb : Below B w w' := ⟨k2.os, k2.tape, k2.output, k2.size, fun k hk => k2.block k (by omega) (fun e => by have := (World.ownsRow.lt v3 k e.symm).1; omega)⟩
    refine h v' w' ⟨vs ++ us, ExV.append ?_ ?_, ?_, by rw [List.length_append]; unfold Ex.flat; rw [List.flatMap_append]; exact k1⟩ hb
    · exact v1.imp fun t v k => Ex.at_keep hb.size (fun _ _ h => h) (fun b o u _ hS hc => (hb.cell (p := ⟨b, o, none⟩) (hSB b hS)).trans hc) t v k
    · exact u1.imp fun t v k => Ex.at_keep hb.size (fun _ _ h => h) (fun b o u _ hS hc => (hb.cell (p := ⟨b, o, none⟩) (hSB b hS)).trans hc) t v k
    · intro u hu
      unfold Ex.flat at hu
      rw [List.flatMap_append, List.mem_append] at hu
      rcases hu with hu | hu
      · exact v2 u hu
      · exact u2 u hu

mutual
/-- All expressions of things. -/
def Lo.all : Lo → List Ex | .mk _ _ _ a l => a ++ Lo.alls l
def Lo.alls : List Lo → List Ex | [] => [] | t :: l => t.all ++ Lo.alls l
end
theorem Lo.alls_append : ∀ a b : List Lo, Lo.alls (a ++ b) = Lo.alls a ++ Lo.alls b
  | [], b => by simp [Lo.alls]
  | t :: a, b => by simp [Lo.alls, Lo.alls_append a b]
theorem Lo.alls_take (l : List Lo) (i : Nat) (hi : i < l.length) : Lo.alls (l.take (i + 1)) = Lo.alls (l.take i) ++ l[i].a ++ Lo.alls l[i].l := by
  rw [take_step l i hi, Lo.alls_append]; generalize l[i] = t; obtain ⟨k, x, n, a, l'⟩ := t; simp [Lo.alls, Lo.all, Lo.l, Lo.a]
theorem Lo.alls_le (l : List Lo) (i : Nat) : (Lo.alls (l.take i)).length ≤ (Lo.alls l).length := by
  have h := Lo.alls_append (l.take i) (l.drop i); rw [List.take_append_drop] at h; rw [h, List.length_append]; omega

end Go.Proofs.YtgohnekaolgblaaGreat

/- All expressions of things: contract (gimletref28.all). -/
namespace Go.Proofs.YtgohnekaolgblaaGreat
open Go.RowKit

theorem ExL.keepB {S : Nat → Prop} {w w' : World} {ts : List Ex} {v : Value} {B : Nat} (h : ExL S w ts v) (hb : Below B w w') (hSB : ∀ b, S b → b < B) : ExL S w' ts v :=
  ExL.keep hb.size (fun _ _ h => h) (fun b o _ _ hS hc => (hb.cell (p := ⟨b, o, none⟩) (hSB b hS)).trans hc) h
theorem LoL.keepB {S : Nat → Prop} {w w' : World} {ts : List Lo} {v : Value} {B : Nat} (h : LoL S w ts v) (hb : Below B w w') (hSB : ∀ b, S b → b < B) : LoL S w' ts v :=
  LoL.keep hb.size (fun _ _ h => h) (fun b o _ _ hS hc => (hb.cell (p := ⟨b, o, none⟩) (hSB b hS)).trans hc) h

theorem LoL.inS {S : Nat → Prop} {w : World} {l : List Lo} {b off cap : Nat} (h : LoL S w l (.slice (some ⟨b, off, none⟩) l.length cap)) (hne : 0 < l.length) : S b := by
  obtain ⟨A, c, e, -, -, h3⟩ := h
  simp only [Value.slice.injEq, true_and] at e
  obtain ⟨rfl, -⟩ := e
  obtain ⟨b', off', e, -, hS, -⟩ := h3 (by intro e; subst e; simp at hne)
  simp only [Option.some.injEq, Addr.mk.injEq, and_true] at e
  obtain ⟨rfl, rfl⟩ := e
  exact hS
theorem ExL.inS {S : Nat → Prop} {w : World} {l : List Ex} {b off cap : Nat} (h : ExL S w l (.slice (some ⟨b, off, none⟩) l.length cap)) (hne : 0 < l.length) : S b := by
  obtain ⟨A, c, e, -, -, h3⟩ := h
  simp only [Value.slice.injEq, true_and] at e
  obtain ⟨rfl, -⟩ := e
  obtain ⟨b', off', e, -, hS, -⟩ := h3 (by intro e; subst e; simp at hne)
  simp only [Option.some.injEq, Addr.mk.injEq, and_true] at e
  obtain ⟨rfl, rfl⟩ := e
  exact hS

set_option maxHeartbeats 2000000 in
theorem rAll (l : List Lo) : ∀ (S : Nat → Prop) (w : World) (v : Value), LoL S w l v → (∀ b, S b → b < w.heap.size) → (Lo.alls l).length ≤ 500000 → Lo.sizes l ≤ 1000000 →
    Calls Tryz.prog 44 #[v] w fun e w' => ∃ u, e = .returned u ∧ OwnX S w.heap.size w' u (Lo.alls l) ∧ Below w.heap.size w w' := by
  refine Lo.ind' (P := fun l => ∀ (S : Nat → Prop) (w : World) (v : Value), LoL S w l v → (∀ b, S b → b < w.heap.size) → (Lo.alls l).length ≤ 500000 → Lo.sizes l ≤ 1000000 →
    Calls Tryz.prog 44 #[v] w fun e w' => ∃ u, e = .returned u ∧ OwnX S w.heap.size w' u (Lo.alls l) ∧ Below w.heap.size w w') ?_ l
  intro l ih S w v hv hSw hle hsz
  obtain ⟨A, cap, rfl⟩ := hv.slice
  have hll : l.length ≤ 1000000 := Nat.le_trans (Lo.len_le l) hsz
  replace ih := Lib.hid ih
  replace hv := Lib.hid hv
  replace hle := Lib.hid hle
  replace hsz := Lib.hid hsz
  replace hSw := Lib.hid hSw
  obtain ⟨r, hr⟩ : ∃ r, r = Lo.alls l := ⟨_, rfl⟩
  rw [← hr]
  replace hr := Lib.hid hr
  go_enter Tryz.func44, Tryz.ntmps44
  go_wp2_with fail
  go_loopw [3, 4] (fun nn q wr => ∃ (i : Nat) (t : List Ex) (B : Nat), q = .int .i64 (i : Int) ∧ B = w.heap.size ∧ i ≤ l.length ∧ t = Lo.alls (l.take i) ∧ OwnX S B wr nn t ∧ Below B w wr)
    (fun _ q _ => l.length - (intOf q).toNat)
  case atStart => exact ⟨0, [], _, rfl, rfl, by omega, by simp [Lo.alls], OwnX.nil _ _ _, Below.refl _ _⟩
  case round =>
    obtain ⟨i, t, B, rfl, hB, hi, ht, hown, hbel⟩ := hrel
    by_cases hil : i < l.length
    · have hSB : ∀ b, S b → b < B := hB ▸ hSw.out
      obtain ⟨b, off, A1, k1, A2, k2, rfl, hb, d0, d1, d2, d3, d4, d5, ha, hl⟩ := LoL.elem (hv.out.keepB hbel hSB) i hil
      have h1 := Lo.alls_take l i hil
      have h2 := Lo.alls_le l (i + 1)
      have h3 := Lo.sizes_take l i hil
      have h4 := Lo.sizes_le l (i + 1)
      have hSb : b < B := hSB b (hv.out.inS (by omega))
      have hBr : B ≤ wr.heap.size := by have := hbel.size; omega
      rw [h1, List.length_append, List.length_append] at h2
      have g1 := hle.out
      have g2 := hsz.out
      have hn1 : t.length + l[i].a.length ≤ 1000000 := by rw [ht]; omega
      have hn2 : (t ++ l[i].a).length + (Lo.alls l[i].l).length ≤ 1000000 := by rw [ht, List.length_append]; omega
      have hc := fun (w' : World) (vv : Value) (hl' : LoL S w' l[i].l vv) (hS' : ∀ b, S b → b < w'.heap.size) => ih.out l[i] (List.getElem_mem hil) S w' vv hl' hS' (by omega) (by omega)
      have ht' := Lib.hid (show t ++ l[i].a ++ Lo.alls l[i].l = Lo.alls (l.take (i + 1)) by rw [h1, ht])
      clear h1 h2 h3 h4 g1 g2 ht d0 d1 d2
      have hown := Lib.hid hown
      have hbel := Lib.hid hbel
      have hc := Lib.hid hc
      have ha := Lib.hid ha
      have hl := Lib.hid hl
      have hSB := Lib.hid hSB
      have hB := Lib.hid hB
      go_wp2_with (at_builtin; refine app_ex rfl (.tmp 12) (.tmp 17) rfl rfl rfl hown.out ha.out.src hSB.out hBr hn1 ?_; intro u1 w1 o1 b1; replace o1 := Lib.hid o1; have e4 := (b1.cell (p := ⟨b, off + i * 6 + 4, none⟩) hSb).trans d4; have e5 := (b1.cell (p := ⟨b, off + i * 6 + 5, none⟩) hSb).trans d5; clear d3 d4 d5)
      have hB1 : B ≤ w1.heap.size := by have := b1.size; omega
      have hl1 := hl.out.keepB b1 hSB.out
      have hS1 : ∀ b, S b → b < w1.heap.size := fun b hb => Nat.lt_of_lt_of_le (hSB.out b hb) hB1
      have hbel1 := Lib.hid (hbel.out.trans b1)
      refine (hc.out w1 _ hl1 hS1).mono ?_
      rintro _ w2 ⟨u2, rfl, o2, b2⟩
      have hB2 : B ≤ w2.heap.size := by have := b2.size; omega
      have o1' := Lib.hid (o1.out.keep b2 (Nat.le_refl _))
      have hbel2 := Lib.hid (hbel1.out.trans (Below.mono b2 hB1))
      have x5 := (b2.cell (p := ⟨b, off + i * 6 + 5, none⟩) (Nat.lt_of_lt_of_le hSb hB1)).trans e5
      replace o2 := Lib.hid o2
      clear b2 o1 e4 e5 hl1 hS1 hn1 hl ha hown hbel b1 hbel1 hc
      go_wp2_with (at_builtin; refine app_ex rfl (.tmp 19) (.tmp 25) rfl rfl rfl o1'.out o2.out.src hSB.out hB2 hn2 ?_; intro u3 w3 o3 b3; replace o3 := Lib.hid o3; have y5 := (b3.cell (p := ⟨b, off + i * 6 + 5, none⟩) hSb).trans x5; clear x5)
      have hbel3 := Lib.hid (hbel2.out.trans b3)
      clear b3 hbel2 o1' o2
      go_loopw [3, 5] (fun nn q' wr => nn = u3 ∧ q' = .int .i64 0 ∧ wr = w3)
        (fun _ _ _ => 0)
      case atStart => exact ⟨by congr 1, rfl, rfl⟩
      case round =>
        obtain ⟨rfl, rfl, rfl⟩ := hrel
        go_wp2_with fail
        go_roundw
        case measure => simp only [intOf]; omega
        case rel => exact ⟨i + 1, _, B, rfl, hB.out, by omega, ht'.out, o3.out, hbel3.out⟩
    · have hrn : r = t := by rw [hr.out, ht, List.take_of_length_le (by omega)]
      replace hrn := Lib.hid hrn
      replace hown := Lib.hid hown
      replace hbel := Lib.hid hbel
      clear ht
      go_wp2_with fail
      go_returns
      exact ⟨_, rfl, by rw [hrn.out, ← hB]; exact hown.out, hB ▸ hbel.out⟩

end Go.Proofs.YtgohnekaolgblaaGreat
