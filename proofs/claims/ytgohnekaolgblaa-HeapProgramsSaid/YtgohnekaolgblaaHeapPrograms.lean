/- The law HeapPrograms: the walk. -/
import Derived.Test.YtgohnekaolgblaaHpProgs
import Derived.Test.YtgohnekaolgblaaHpAwake
import Derived.Test.YtgohnekaolgblaaTrSame
import Derived.Test.YtgohnekaolgblaaSame
namespace Go.Proofs.Ytgohnekaolgblaa
open Go.RowKit

abbrev nilProg : Value := .agg #[.slice none 0 0, .slice none 0 0, .slice none 0 0, .int .i64 0, .int .i64 0]

theorem sameCellsYes (va vb : Value) (xs : List Int) (w : World) (ha : Sees .u32 w va xs) (hb : Sees .u32 w vb xs) :
    Calls Try.prog 21 #[va, vb] w fun e w' => e = .returned (.bool true) ∧ Below w.heap.size w w' := by
  have h := sameCells va vb xs xs w ha hb
  rwa [decide_eq_true rfl] at h
set_option maxRecDepth 100000 in
theorem sameProgNil (w : World) : Calls Try.prog 18 #[nilProg, nilProg] w fun e w' => e = .returned (.bool true) ∧ Below w.heap.size w w' := by
  have P0 := VB.alloc (VB.new w 27 #[.slice none 0 0, .slice none 0 0, .slice none 0 0, .int .i64 0, .int .i64 0]) (.cells #[.slice none 0 0, .slice none 0 0, .slice none 0 0, .int .i64 0, .int .i64 0] 27)
  have Q0 := VB.new (w.alloc (.cells #[.slice none 0 0, .slice none 0 0, .slice none 0 0, .int .i64 0, .int .i64 0] 27)) 27 #[.slice none 0 0, .slice none 0 0, .slice none 0 0, .int .i64 0, .int .i64 0]
  simp only [World.size_alloc] at Q0
  have B0 := Lib.hid (B.alloc (B.alloc (B.refl w) (.cells #[.slice none 0 0, .slice none 0 0, .slice none 0 0, .int .i64 0, .int .i64 0] 27)) (.cells #[.slice none 0 0, .slice none 0 0, .slice none 0 0, .int .i64 0, .int .i64 0] 27))
  replace P0 := Lib.hid P0
  replace Q0 := Lib.hid Q0
  go_enter Try.func18, Try.ntmps18
  go_wp2_with fail
  refine (sameCellsYes _ _ [] _ (Sees.nil _ _) (Sees.nil _ _)).mono ?_
  rintro _ w1 ⟨rfl, b1⟩
  have P1 := Lib.hid (VB.call P0.out b1)
  have Q1 := Lib.hid (VB.call Q0.out b1)
  have p2 := P1.out.cell 2
  have q2 := Q1.out.cell 2
  have p0 := P1.out.cell 0
  have q0 := Q1.out.cell 0
  simp at p2 q2 p0 q0
  have B1 := Lib.hid (B.call B0.out b1)
  clear b1 P0 Q0 B0
  go_wp2_with fail
  refine (sameBytes (xs := []) (ys := []) (Sees.nil _ _) (Sees.nil _ _) (fun n h => by cases h) (fun n h => by cases h) true rfl).mono ?_
  rintro _ w2 ⟨rfl, rfl⟩
  go_wp2_with fail
  go_loopw [5] (fun q wr => q = .int .i64 0 ∧ wr = w1)
    (fun _ _ => 0)
  case atStart => exact ⟨rfl, rfl⟩
  case round =>
    obtain ⟨rfl, rfl⟩ := hrel
    go_wp2_with fail
    go_returns
    exact ⟨rfl, B1.out⟩

set_option maxRecDepth 100000 in
set_option maxHeartbeats 4000000 in
theorem heapProgramsNo (p s : Int) (w : World) (h0 : 0 ≤ s) (h1 : s < 4294967296) (h : ¬ Wd.planOk p s) :
    Calls Try.prog 3 #[.int .i64 p, .int .u32 s] w fun e w' => e = .returned (.bool true) ∧ Below w.heap.size w w' := by
  have C1 := Lib.hid (fun w => loProgNo p s w h0 h1 h)
  have C2 := fun w => refPlanAll p s w h0 h1
  rw [pair_no p s h] at C2
  replace C2 := Lib.hid C2
  clear h h0 h1
  go_enter Try.func3, Try.ntmps3
  go_wp2_with fail
  refine (C1.out _).mono ?_
  rintro _ w1 ⟨rfl, b1⟩
  replace b1 := Lib.hid b1
  go_wp2_with fail
  refine (C2.out _).mono ?_
  rintro _ w2 ⟨rfl, b2⟩
  have v := VB.call (VB.new w1 27 #[.slice none 0 0, .slice none 0 0, .slice none 0 0, .int .i64 0, .int .i64 0]) b2
  have v0 := v.cell 0
  have v1 := v.cell 1
  have v2 := v.cell 2
  have v3 := v.cell 3
  have v4 := v.cell 4
  have vl := v.lt
  simp at v0 v1 v2 v3 v4
  have B2 := Lib.hid (B.call (B.alloc b1.out _) b2)
  clear b1 b2 v C1 C2
  go_wp2_with fail
  refine (sameProgNil _).mono ?_
  rintro _ w3 ⟨rfl, b3⟩
  have B3 := Lib.hid (B.call (B.alloc B2.out _) b3)
  clear b3
  go_wp2_with fail
  refine (hpAwake _).mono ?_
  rintro _ w4 ⟨rfl, b4⟩
  have B4 := Lib.hid (B.call B3.out b4)
  clear b4
  go_wp2_with fail
  go_returns
  exact ⟨rfl, B4.out⟩

theorem VB.sees5 {w : World} {t : Nat} {T : TypeId} {a b c d e : Int} (h : VB w t T #[.int .u32 a, .int .u32 b, .int .u32 c, .int .u32 d, .int .u32 e]) : Sees .u32 w (.slice (some ⟨t, 0, none⟩) 5 5) [a, b, c, d, e] := by
  refine ⟨_, 5, rfl, by simp, by simp [maxLen], fun _ => ⟨t, 0, rfl, fun j hj => ?_⟩⟩
  have h0 : w.cell? ⟨t, 0, none⟩ = some (.int .u32 a) := h.cell 0
  have h1 : w.cell? ⟨t, 1, none⟩ = some (.int .u32 b) := h.cell 1
  have h2 : w.cell? ⟨t, 2, none⟩ = some (.int .u32 c) := h.cell 2
  have h3 : w.cell? ⟨t, 3, none⟩ = some (.int .u32 d) := h.cell 3
  have h4 : w.cell? ⟨t, 4, none⟩ = some (.int .u32 e) := h.cell 4
  match j, hj with
  | 0, _ => simpa using h0
  | 1, _ => simpa using h1
  | 2, _ => simpa using h2
  | 3, _ => simpa using h3
  | 4, _ => simpa using h4
  | j + 5, hj => simp at hj; omega

set_option maxRecDepth 100000 in
set_option maxHeartbeats 8000000 in
theorem heapProgramsOk (p s : Int) (w : World) (h0 : 0 ≤ s) (h1 : s < 4294967296) (h : Wd.planOk p s) :
    Calls Try.prog 3 #[.int .i64 p, .int .u32 s] w fun e w' => e = .returned (.bool true) ∧ Below w.heap.size w w' := by
  have hst : 0 ≤ Wd.stack s ∧ Wd.stack s < 4294967296 := by
    obtain ⟨a, b, c⟩ := h
    unfold Wd.stack
    omega
  have hpp : 4 ≤ p ∧ p ≤ 65536 := ⟨h.1, h.2.1⟩
  have C1 := loProgOk (fun b => w.heap.size ≤ b) p s w (fun b hb => hb) h0 h1 h hst
  have C2 := fun w => refPlanAll p s w h0 h1
  rw [pair_ok p s h] at C2
  have hok := heapFnsOk (Wd.stack s) hst.1 (by omega)
  revert C1 C2 hok
  generalize Wd.stack s = p1
  generalize Wd.one p s = p2
  generalize p2 + Wd.space p s = p3
  generalize p2 + 2 * Wd.space p s = p4
  intro C1 C2 hok
  replace C1 := Lib.hid C1
  replace C2 := Lib.hid C2
  replace hok := Lib.hid hok
  clear h h0 h1 hst
  go_enter Try.func3, Try.ntmps3
  go_wp2_with fail
  refine C1.out.mono ?_
  rintro _ w1 ⟨v, rfl, ⟨F, uf, g, T, rfl, kf, hFS, hFg, hgw, hgl⟩, b1⟩
  obtain ⟨A, cf, e, kf1, kf2, kf3⟩ := id kf
  replace e : uf = .slice A 4 cf := e
  subst e
  replace hgl : VB w1 g T #[.int .u32 p1, .int .u32 p2, .int .u32 p2, .int .u32 p3, .int .u32 p3] := hgl
  have hgl1 := hgl.lt
  replace b1 := Lib.hid b1
  replace kf := Lib.hid kf
  replace hgl := Lib.hid hgl
  clear kf3
  go_wp2_with fail
  refine (C2.out _).mono ?_
  rintro _ w2 ⟨rfl, b2⟩
  have b2' := (B.alloc (B.refl w1) (.cells #[.slice A 4 cf, .slice (some ⟨g, 0, none⟩) 5 5, .slice none 0 0, .int .i64 p, .int .i64 0] 27)).trans (b2.mono (by simp))
  have V2 := VB.call (VB.new w1 27 #[.slice A 4 cf, .slice (some ⟨g, 0, none⟩) 5 5, .slice none 0 0, .int .i64 p, .int .i64 0]) b2
  have G2 := VB.call hgl.out b2'
  have K2 := kf.out.below b2'
  have B2 := B.call b1.out b2'
  have V3 := (V2.alloc (.cells #[.int .u32 16, .int .u32 p1, .int .u32 p2, .int .u32 p3, .int .u32 p4] 32)).alloc (.cells #[.int .u32 p1, .int .u32 p2, .int .u32 p2, .int .u32 p3, .int .u32 p3] 22)
  have G3 := (G2.alloc (.cells #[.int .u32 16, .int .u32 p1, .int .u32 p2, .int .u32 p3, .int .u32 p4] 32)).alloc (.cells #[.int .u32 p1, .int .u32 p2, .int .u32 p2, .int .u32 p3, .int .u32 p3] 22)
  have W3 := VB.new (w2.alloc (.cells #[.int .u32 16, .int .u32 p1, .int .u32 p2, .int .u32 p3, .int .u32 p4] 32)) 22 #[.int .u32 p1, .int .u32 p2, .int .u32 p2, .int .u32 p3, .int .u32 p3]
  simp only [World.size_alloc] at W3
  have K3 := (K2.below (B.alloc (B.refl w2) (.cells #[.int .u32 16, .int .u32 p1, .int .u32 p2, .int .u32 p3, .int .u32 p4] 32))).below (B.alloc (B.refl _) (.cells #[.int .u32 p1, .int .u32 p2, .int .u32 p2, .int .u32 p3, .int .u32 p3] 22))
  have B3 := B.alloc (B.alloc B2 (.cells #[.int .u32 16, .int .u32 p1, .int .u32 p2, .int .u32 p3, .int .u32 p4] 32)) (.cells #[.int .u32 p1, .int .u32 p2, .int .u32 p2, .int .u32 p3, .int .u32 p3] 22)
  have v0 := V2.cell 0
  have v1 := V2.cell 1
  have v2 := V2.cell 2
  have v3 := V2.cell 3
  have v4 := V2.cell 4
  have vl := V2.lt
  simp at v0 v1 v2 v3 v4
  replace V3 := Lib.hid V3
  replace G3 := Lib.hid G3
  replace W3 := Lib.hid W3
  replace K3 := Lib.hid K3
  replace B3 := Lib.hid B3
  clear b1 b2 b2' V2 G2 K2 B2 hgl kf C1 C2
  go_wp2_with fail
  refine (rCheck F (heapFns p1) A (some ⟨g, 0, none⟩) none cf 5 5 0 0 p 0 _ K3.out (by show 4 ≤ 16384; decide) (by decide) (by decide) hok.out (by decide) (by show 0 < 4; decide) rfl hpp).mono ?_
  rintro _ w3 ⟨rfl, b3⟩
  have V4 := VB.call V3.out b3
  have y0 := V4.cell 0
  have y1 := V4.cell 1
  have y2 := V4.cell 2
  have y3 := V4.cell 3
  have y4 := V4.cell 4
  simp at y0 y1 y2 y3 y4
  have G4 := Lib.hid (VB.call G3.out b3)
  have W4 := Lib.hid (VB.call W3.out b3)
  have K4 := Lib.hid (K3.out.below b3)
  have B4 := Lib.hid (B.call B3.out b3)
  replace V4 := Lib.hid V4
  clear b3 V3 G3 W3 K3 B3 v0 v1 v2 v3 v4
  go_wp2_with fail
  refine (sameCellsYes _ _ [p1, p2, p2, p3, p3] w3 G4.out.sees5 W4.out.sees5).mono ?_
  rintro _ w4 ⟨rfl, b4⟩
  have V5 := VB.call V4.out b4
  have z0 := V5.cell 0
  have z4 := V5.cell 4
  simp at z0 z4
  have K5 : FxL F w4 (heapFns p1) (.slice A (heapFns p1).length cf) := K4.out.below b4
  obtain ⟨b, off, A1, k1, hA, hbl, -, d0, d1, d2, -⟩ := K5.elem 0 (by show 0 < 4; decide)
  obtain ⟨b', off', A2, k2, hA2, -, -, e0, -, -, -⟩ := K5.elem 1 (by show 1 < 4; decide)
  obtain ⟨b'', off'', A3, k3, hA3, -, -, g0, -, -, -⟩ := K5.elem 2 (by show 2 < 4; decide)
  subst hA
  simp only [Option.some.injEq, Addr.mk.injEq, and_true] at hA2 hA3
  obtain ⟨rfl, rfl⟩ := hA2
  obtain ⟨rfl, rfl⟩ := hA3
  replace d0 : w4.cell? ⟨b, off, none⟩ = some (.int .i64 0) := d0
  replace d2 : w4.cell? ⟨b, off + 2, none⟩ = some (.slice A1 0 k1) := d2
  replace e0 : w4.cell? ⟨b, off + 3, none⟩ = some (.int .i64 0) := e0
  replace g0 : w4.cell? ⟨b, off + 6, none⟩ = some (.int .i64 1) := g0
  have B5 := Lib.hid (B.call B4.out b4)
  clear b4 V4 G4 W4 K4 B4 V5 y0 y1 y2 y3 y4 K5 d1
  go_wp2_with fail
  refine (hpAwake _).mono ?_
  rintro _ w5 ⟨rfl, b5⟩
  have B6 := Lib.hid (B.call B5.out b5)
  clear b5
  go_wp2_with fail
  go_returns
  exact ⟨rfl, B6.out⟩

theorem heapProgramsWalk (p s : Int) (w : World) (_h1 : (Lit.int .i64 p).wf = true) (h2 : (Lit.int .u32 s).wf = true) :
    Calls Try.prog 3 #[.int .i64 p, .int .u32 s] w fun e w' => e = .returned (.bool true) ∧ Below w.heap.size w w' := by
  obtain ⟨h0, h1⟩ := wf_u32 h2
  by_cases h : Wd.planOk p s
  · exact heapProgramsOk p s w h0 h1 h
  · exact heapProgramsNo p s w h0 h1 h

end Go.Proofs.Ytgohnekaolgblaa
