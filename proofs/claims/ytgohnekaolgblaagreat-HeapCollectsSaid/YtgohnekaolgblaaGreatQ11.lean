/- word.Plan, gimletref27.Plan: contracts. -/
import Derived.Test.YtgohnekaolgblaaGreatQ01
import Derived.Laws.BitsAllLaws
import Derived.Test.YtgohnekaolgblaaGreatQ10
namespace Go.Proofs.YtgohnekaolgblaaGreat
open Go.RowKit

def Wd.planOk (p s : Int) : Prop := 4 ≤ p ∧ p ≤ 65536 ∧ s ≤ 16384 * p
instance (p s : Int) : Decidable (Wd.planOk p s) := inferInstanceAs (Decidable (_ ∧ _))
def Wd.stack (s : Int) : Int := 16 + (s + 7) / 8 * 8
def Wd.left (p s : Int) : Int := p * 65536 - Wd.stack s
def Wd.one (p s : Int) : Int := Wd.stack s + Wd.left p s / 8 / 8 * 8
def Wd.space (p s : Int) : Int := (p * 65536 - Wd.one p s - 8) / 2 / 8 * 8
def tupP (p s : Int) : Value :=
  if Wd.planOk p s then .tuple #[.agg #[.int .u32 16, .int .u32 (Wd.stack s), .int .u32 (Wd.one p s), .int .u32 (Wd.one p s + Wd.space p s), .int .u32 (Wd.one p s + 2 * Wd.space p s)], .int .i64 0]
  else .tuple #[.agg #[.int .u32 0, .int .u32 0, .int .u32 0, .int .u32 0, .int .u32 0], .int .i64 5]

theorem down_bits (x : Int) (h0 : 0 ≤ x) (h1 : x < 18446744073709551616) : bits .andNot .u64 x 7 = x / 8 * 8 := by
  rw [u64_andNot x 7 h0 h1 (by decide) (by decide)]
  obtain ⟨n, rfl⟩ := Int.eq_ofNat_of_zero_le h0
  have hn : n < 2 ^ 64 := by omega
  have e : n &&& ((2 ^ 61 - 1) <<< 3) = (n >>> 3) <<< 3 := by
    apply Nat.eq_of_testBit_eq
    intro i
    rw [Nat.testBit_and, Nat.testBit_shiftLeft, Nat.testBit_shiftLeft, Nat.testBit_shiftRight, Nat.testBit_two_pow_sub_one]
    by_cases h3 : i ≥ 3
    · simp only [h3, decide_true, Bool.true_and]
      rw [show 3 + (i - 3) = i by omega]
      by_cases h6 : i - 3 < 61
      · simp [h6]
      · have : n.testBit i = false := Nat.testBit_lt_two_pow (Nat.lt_of_lt_of_le hn (Nat.pow_le_pow_right (by decide) (by omega)))
        simp [this]
    · simp [h3]
  have e2 : (n >>> 3) <<< 3 = n / 8 * 8 := by rw [Nat.shiftLeft_eq, Nat.shiftRight_eq_div_pow]
  simp only [Int.toNat_natCast, show (7 : Int).toNat = 7 from rfl]
  rw [show 18446744073709551615 - 7 = (2 ^ 61 - 1) <<< 3 from by decide, e, e2]
  omega

theorem wdDown (x : Int) (w : World) (h0 : 0 ≤ x) (h1 : x < 18446744073709551616) : Calls Tryz.prog 59 #[.int .u64 x] w fun e w' => e = .returned (.int .u64 (x / 8 * 8)) ∧ w' = w := by
  have hm := down_bits x h0 h1
  go_enter Tryz.func59, Tryz.ntmps59
  go_wp2
  go_returns
  exact ⟨rfl, rfl⟩

theorem Wd.plan_range (p s : Int) (h : Wd.planOk p s) (h0 : 0 ≤ s) : 16 ≤ Wd.stack s ∧ Wd.stack s ≤ 16 + s + 7 ∧ Wd.stack s ≤ Wd.one p s ∧ 0 ≤ Wd.space p s ∧ Wd.one p s + 2 * Wd.space p s ≤ p * 65536 - 8 ∧ 49121 ≤ Wd.left p s / 1 := by
  obtain ⟨a, b, c⟩ := h
  unfold Wd.space Wd.one Wd.left Wd.stack
  omega

set_option maxHeartbeats 1000000 in
theorem wdPlan_no (p s : Int) (w : World) (h0 : 0 ≤ s) (h1 : s < 4294967296) (hn : ¬ Wd.planOk p s) : Calls Tryz.prog 38 #[.int .i64 p, .int .u32 s] w fun e w' => e = .returned (tupP p s) ∧ Below w.heap.size w w' := by
  have hr : tupP p s = .tuple #[.agg #[.int .u32 0, .int .u32 0, .int .u32 0, .int .u32 0, .int .u32 0], .int .i64 5] := by unfold tupP; rw [if_neg hn]
  rw [hr]
  by_cases a1 : p < 4
  · go_enter Tryz.func38, Tryz.ntmps38
    go_wp2_with fail
    refine bodyPost_ret (v := .tuple #[.agg #[.int .u32 0, .int .u32 0, .int .u32 0, .int .u32 0, .int .u32 0], .int .i64 5]) (by simp [results, Tryz.results38, go_sem]) rfl ⟨rfl, ?_⟩
    go_grown
  by_cases a2 : 65536 < p
  · go_enter Tryz.func38, Tryz.ntmps38
    go_wp2_with fail
    refine bodyPost_ret (v := .tuple #[.agg #[.int .u32 0, .int .u32 0, .int .u32 0, .int .u32 0, .int .u32 0], .int .i64 5]) (by simp [results, Tryz.results38, go_sem]) rfl ⟨rfl, ?_⟩
    go_grown
  have a3 : 16384 * p < s := by unfold Wd.planOk at hn; omega
  clear hn hr
  have u1 : IntKind.u64.wrap p = p := IntWalk.u64_in _ (by omega)
  go_enter Tryz.func38, Tryz.ntmps38
  go_wp2_with fail
  refine bodyPost_ret (v := .tuple #[.agg #[.int .u32 0, .int .u32 0, .int .u32 0, .int .u32 0, .int .u32 0], .int .i64 5]) (by simp [results, Tryz.results38, go_sem]) rfl ⟨rfl, ?_⟩
  go_grown

set_option maxHeartbeats 1000000 in
theorem wdPlan_ok (p s : Int) (w : World) (h0 : 0 ≤ s) (h1 : s < 4294967296) (hn : Wd.planOk p s) : Calls Tryz.prog 38 #[.int .i64 p, .int .u32 s] w fun e w' => e = .returned (tupP p s) ∧ Below w.heap.size w w' := by
  obtain ⟨r1, r2, r3, r4, r5, r6⟩ := Wd.plan_range p s hn h0
  obtain ⟨n1, n2, n3⟩ := hn
  go_enter Tryz.func38, Tryz.ntmps38
  go_wp2_with fail
  refine (wdDown (16 + s + 7) _ (by omega) (by omega)).mono ?_
  rintro _ w1 ⟨rfl, hw1⟩
  obtain rfl := hw1.symm
  have e1 : (16 + s + 7) / 8 * 8 = Wd.stack s := by unfold Wd.stack; omega
  rw [e1]
  clear e1
  have e2 : Wd.one p s = Wd.stack s + (p * 65536 - Wd.stack s) / 8 / 8 * 8 := rfl
  go_wp2_with fail
  refine (wdDown ((p * 65536 - Wd.stack s) / 8) _ (by omega) (by omega)).mono ?_
  rintro _ w1 ⟨rfl, hw1⟩
  obtain rfl := hw1.symm
  generalize hd : (p * 65536 - Wd.stack s) / 8 / 8 * 8 = d at e2
  go_wp2_with fail
  refine (wdDown ((p * 65536 - (Wd.stack s + d) - 8) / 2) _ (by omega) (by omega)).mono ?_
  rintro _ w1 ⟨rfl, hw1⟩
  obtain rfl := hw1.symm
  have e3 : Wd.space p s = (p * 65536 - (Wd.stack s + d) - 8) / 2 / 8 * 8 := by unfold Wd.space; rw [e2]
  generalize hc : (p * 65536 - (Wd.stack s + d) - 8) / 2 / 8 * 8 = c at e3
  rw [e2, e3] at r5
  rw [e2] at r3
  rw [e3] at r4
  go_wp2_with fail
  have hf : tupP p s = .tuple #[.agg #[.int .u32 16, .int .u32 (Wd.stack s), .int .u32 (Wd.stack s + d), .int .u32 (Wd.stack s + d + c), .int .u32 (Wd.stack s + d + 2 * c)], .int .i64 0] := by
    unfold tupP
    rw [if_pos ⟨n1, n2, n3⟩, e2, e3]
  rw [hf]
  refine bodyPost_ret (v := .tuple #[.agg #[.int .u32 16, .int .u32 (Wd.stack s), .int .u32 (Wd.stack s + d), .int .u32 (Wd.stack s + d + c), .int .u32 (Wd.stack s + d + 2 * c)], .int .i64 0]) (by simp [results, Tryz.results38, go_sem]) rfl ⟨rfl, ?_⟩
  go_grown

set_option maxHeartbeats 1000000 in
theorem refPlan_no (p s : Int) (w : World) (h0 : 0 ≤ s) (h1 : s < 4294967296) (hn : ¬ Wd.planOk p s) : Calls Tryz.prog 24 #[.int .i64 p, .int .u32 s] w fun e w' => e = .returned (tupP p s) ∧ Below w.heap.size w w' := by
  have hr : tupP p s = .tuple #[.agg #[.int .u32 0, .int .u32 0, .int .u32 0, .int .u32 0, .int .u32 0], .int .i64 5] := by unfold tupP; rw [if_neg hn]
  rw [hr]
  by_cases a1 : p < 4
  · go_enter Tryz.func24, Tryz.ntmps24
    go_wp2_with fail
    refine bodyPost_ret (v := .tuple #[.agg #[.int .u32 0, .int .u32 0, .int .u32 0, .int .u32 0, .int .u32 0], .int .i64 5]) (by simp [results, Tryz.results24, go_sem]) rfl ⟨rfl, ?_⟩
    go_grown
  by_cases a2 : 65536 < p
  · go_enter Tryz.func24, Tryz.ntmps24
    go_wp2_with fail
    refine bodyPost_ret (v := .tuple #[.agg #[.int .u32 0, .int .u32 0, .int .u32 0, .int .u32 0, .int .u32 0], .int .i64 5]) (by simp [results, Tryz.results24, go_sem]) rfl ⟨rfl, ?_⟩
    go_grown
  have a3 : 16384 * p < s := by unfold Wd.planOk at hn; omega
  clear hn hr
  go_enter Tryz.func24, Tryz.ntmps24
  go_wp2_with fail
  refine bodyPost_ret (v := .tuple #[.agg #[.int .u32 0, .int .u32 0, .int .u32 0, .int .u32 0, .int .u32 0], .int .i64 5]) (by simp [results, Tryz.results24, go_sem]) rfl ⟨rfl, ?_⟩
  go_grown

set_option maxHeartbeats 1000000 in
theorem refPlan_ok (p s : Int) (w : World) (h0 : 0 ≤ s) (h1 : s < 4294967296) (hn : Wd.planOk p s) : Calls Tryz.prog 24 #[.int .i64 p, .int .u32 s] w fun e w' => e = .returned (tupP p s) ∧ Below w.heap.size w w' := by
  obtain ⟨r1, r2, r3, r4, r5, r6⟩ := Wd.plan_range p s hn h0
  have hf : tupP p s = .tuple #[.agg #[.int .u32 16, .int .u32 (Wd.stack s), .int .u32 (Wd.one p s), .int .u32 (Wd.one p s + Wd.space p s), .int .u32 (Wd.one p s + 2 * Wd.space p s)], .int .i64 0] := by
    unfold tupP
    rw [if_pos hn]
  rw [hf]
  have k1 : 0 ≤ Wd.left p s := by omega
  obtain ⟨n1, n2, n3⟩ := hn
  have d1 : Wd.stack s = 16 + (s + 7) / 8 * 8 := rfl
  have d2 : Wd.left p s = p * 65536 - Wd.stack s := rfl
  have d3 : Wd.one p s = Wd.stack s + Wd.left p s / 8 / 8 * 8 := rfl
  have d4 : Wd.space p s = (p * 65536 - Wd.one p s - 8) / 2 / 8 * 8 := rfl
  have d5 : (p * 65536 - (Wd.stack s + Wd.left p s / 8 / 8 * 8) - 8) = p * 65536 - Wd.stack s - Wd.left p s / 8 / 8 * 8 - 8 := by omega
  rw [d4, d3, d5, d2, d1] at *
  clear d1 d2 d3 d4 d5 hf
  go_enter Tryz.func24, Tryz.ntmps24
  go_wp2_with fail
  refine bodyPost_ret (v := .tuple #[.agg #[.int .u32 16, .int .u32 (16 + (s + 7) / 8 * 8), .int .u32 (16 + (s + 7) / 8 * 8 + (p * 65536 - (16 + (s + 7) / 8 * 8)) / 8 / 8 * 8), .int .u32 ((16 + (s + 7) / 8 * 8 + (p * 65536 - (16 + (s + 7) / 8 * 8)) / 8 / 8 * 8) + ((p * 65536 - (16 + (s + 7) / 8 * 8) - (p * 65536 - (16 + (s + 7) / 8 * 8)) / 8 / 8 * 8 - 8) / 2 / 8 * 8)), .int .u32 ((16 + (s + 7) / 8 * 8 + (p * 65536 - (16 + (s + 7) / 8 * 8)) / 8 / 8 * 8) + 2 * ((p * 65536 - (16 + (s + 7) / 8 * 8) - (p * 65536 - (16 + (s + 7) / 8 * 8)) / 8 / 8 * 8 - 8) / 2 / 8 * 8))], .int .i64 0]) (by simp [results, Tryz.results24, go_sem]) rfl ⟨rfl, ?_⟩
  go_grown

theorem wdPlanAll (p s : Int) (w : World) (h0 : 0 ≤ s) (h1 : s < 4294967296) : Calls Tryz.prog 38 #[.int .i64 p, .int .u32 s] w fun e w' => e = .returned (tupP p s) ∧ Below w.heap.size w w' := by
  by_cases h : Wd.planOk p s
  · exact wdPlan_ok p s w h0 h1 h
  · exact wdPlan_no p s w h0 h1 h

theorem refPlanAll (p s : Int) (w : World) (h0 : 0 ≤ s) (h1 : s < 4294967296) : Calls Tryz.prog 24 #[.int .i64 p, .int .u32 s] w fun e w' => e = .returned (tupP p s) ∧ Below w.heap.size w w' := by
  by_cases h : Wd.planOk p s
  · exact refPlan_ok p s w h0 h1 h
  · exact refPlan_no p s w h0 h1 h

end Go.Proofs.YtgohnekaolgblaaGreat

/- heap.Program: laws of its operations (printed by wip/gen_loprog.py). -/
namespace Go.Proofs.YtgohnekaolgblaaGreat
open Go.RowKit

/-- A function, as it is told: its parameters, its variables, what it does. -/
structure Fx where
  p : Int
  n : Int
  l : List Lo
/-- The slice holds the functions. -/
def Fx.ats (S : Nat → Prop) (w : World) : List Fx → Nat → Nat → Prop
  | [], _, _ => True
  | t :: l, b, off => (∃ v0 v1 v2, w.cell? ⟨b, off, none⟩ = some v0 ∧ w.cell? ⟨b, off + 1, none⟩ = some v1 ∧ w.cell? ⟨b, off + 2, none⟩ = some v2 ∧ FnAt S w t.p t.n t.l (.agg #[v0, v1, v2])) ∧ Fx.ats S w l b (off + 3)
def FxL (S : Nat → Prop) (w : World) (l : List Fx) (v : Value) : Prop := ∃ A cap, v = .slice A l.length cap ∧ l.length ≤ cap ∧ cap ≤ maxLen ∧ (l ≠ [] → ∃ b off, A = some ⟨b, off, none⟩ ∧ b < w.heap.size ∧ S b ∧ Fx.ats S w l b off)

theorem FnAt.keepS {S S' : Nat → Prop} {w w' : World} (hs : w.heap.size ≤ w'.heap.size) (hS : ∀ b, b < w.heap.size → S b → S' b) (hc : ∀ b o u, b < w.heap.size → S b → w.cell? ⟨b, o, none⟩ = some u → w'.cell? ⟨b, o, none⟩ = some u) {p n : Int} {l : List Lo} {v : Value} (k : FnAt S w p n l v) : FnAt S' w' p n l v := let ⟨u, e, k⟩ := k; ⟨u, e, k.keep hs hS hc⟩
theorem Fx.ats_keep {S S' : Nat → Prop} {w w' : World} (hs : w.heap.size ≤ w'.heap.size) (hS : ∀ b, b < w.heap.size → S b → S' b) (hc : ∀ b o u, b < w.heap.size → S b → w.cell? ⟨b, o, none⟩ = some u → w'.cell? ⟨b, o, none⟩ = some u) {b : Nat} (hb : b < w.heap.size) (hSb : S b) : ∀ {l : List Fx} {off : Nat}, Fx.ats S w l b off → Fx.ats S' w' l b off
  | [], _, _ => by rw [Fx.ats]; trivial
  | t :: l, off, h => by
    rw [Fx.ats] at h ⊢
    obtain ⟨⟨v0, v1, v2, c0, c1, c2, ha⟩, hl⟩ := h
    exact ⟨⟨v0, v1, v2, hc _ _ _ hb hSb c0, hc _ _ _ hb hSb c1, hc _ _ _ hb hSb c2, ha.keepS hs hS hc⟩, Fx.ats_keep hs hS hc hb hSb hl⟩
theorem FxL.keep {S S' : Nat → Prop} {w w' : World} (hs : w.heap.size ≤ w'.heap.size) (hS : ∀ b, b < w.heap.size → S b → S' b) (hc : ∀ b o u, b < w.heap.size → S b → w.cell? ⟨b, o, none⟩ = some u → w'.cell? ⟨b, o, none⟩ = some u) {l : List Fx} {v : Value} (h : FxL S w l v) : FxL S' w' l v := by
  obtain ⟨A, cap, rfl, h1, h2, h3⟩ := h
  refine ⟨A, cap, rfl, h1, h2, fun hne => ?_⟩
  obtain ⟨b, off, rfl, hb, hSb, ha⟩ := h3 hne
  exact ⟨b, off, rfl, Nat.lt_of_lt_of_le hb hs, hS b hb hSb, Fx.ats_keep hs hS hc hb hSb ha⟩
theorem FxL.nil (S : Nat → Prop) (w : World) : FxL S w [] (.slice none 0 0) := ⟨none, 0, rfl, by simp, by simp [maxLen], fun h => absurd rfl h⟩
theorem FxL.below {S : Nat → Prop} {w w' : World} {t : List Fx} {v : Value} (h : FxL S w t v) (hb : Below w.heap.size w w') : FxL S w' t v := FxL.keep hb.size (fun _ _ h => h) (fun b o u h1 _ => keepB hb b o u h1) h
theorem FxL.mono {S S' : Nat → Prop} {w : World} {t : List Fx} {v : Value} (h : FxL S w t v) (hS : ∀ b, b < w.heap.size → S b → S' b) : FxL S' w t v := FxL.keep (Nat.le_refl _) hS (fun _ _ _ _ _ h => h) h
def FxV (S : Nat → Prop) (w : World) : List Fx → List (Value × Value × Value) → Prop
  | [], [] => True
  | t :: ts, v :: vs => FnAt S w t.p t.n t.l (.agg #[v.1, v.2.1, v.2.2]) ∧ FxV S w ts vs
  | _, _ => False
theorem Fx.ats_of_cells {S : Nat → Prop} {w : World} {b : Nat} : ∀ {l : List Fx} {off : Nat} {vs : List (Value × Value × Value)}, FxV S w l vs →
    (∀ (j : Nat) u, (vs.flatMap fun v => [v.1, v.2.1, v.2.2])[j]? = some u → w.cell? ⟨b, off + j, none⟩ = some u) → Fx.ats S w l b off
  | [], _, [], _, _ => by rw [Fx.ats]; trivial
  | t :: l, off, v :: vs, h, hc => by
    rw [Fx.ats]
    refine ⟨⟨v.1, v.2.1, v.2.2, hc 0 _ (by simp), hc 1 _ (by simp), hc 2 _ (by simp), h.1⟩, Fx.ats_of_cells h.2 fun j u hj => ?_⟩
    rw [show off + 3 + j = off + (j + 3) by omega]
    exact hc (j + 3) u (by simpa using hj)
theorem FxV.alloc {S : Nat → Prop} {w : World} (o : Obj) : ∀ {l : List Fx} {vs : List (Value × Value × Value)}, FxV S w l vs → FxV S (w.alloc o) l vs
  | [], [], _ => trivial
  | _ :: _, _ :: _, h => ⟨let ⟨u, e, k⟩ := h.1; ⟨u, e, k.alloc o⟩, FxV.alloc o h.2⟩
theorem FxL.of {S : Nat → Prop} {w : World} {ts : List Fx} (vs : List (Value × Value × Value)) (h : FxV S w ts vs) (T : TypeId) (cells : Array Value) (hc : cells = (vs.flatMap fun v => [v.1, v.2.1, v.2.2]).toArray) (hm : ts.length ≤ maxLen) (g : Nat) (hg : g = w.heap.size) (hS : S g) :
    FxL S (w.alloc (.cells cells T)) ts (.slice (some ⟨g, 0, none⟩) ts.length ts.length) := by
  subst hg hc
  refine ⟨_, _, rfl, Nat.le_refl _, hm, fun _ => ⟨_, _, rfl, by simp, hS, Fx.ats_of_cells (vs := vs) (h.alloc _) fun j u hj => ?_⟩⟩
  have h0 := (VB.new w T (vs.flatMap fun v => [v.1, v.2.1, v.2.2]).toArray).cell j
  rw [Nat.zero_add, h0, List.getElem?_toArray, hj]

theorem VB.set5 {w : World} {t : Nat} {T : TypeId} {a b c d e : Value} (h : VB w t T #[a, b, c, d, e]) (x y z u v : Value) : VB (((((w.setCell ⟨t, 0, none⟩ x).setCell ⟨t, 1, none⟩ y).setCell ⟨t, 2, none⟩ z).setCell ⟨t, 3, none⟩ u).setCell ⟨t, 4, none⟩ v) t T #[x, y, z, u, v] := ((((h.set 0 x).set 1 y).set 2 z).set 3 u).set 4 v
theorem VB.far5 {w : World} {t : Nat} {T : TypeId} {cs : Array Value} (h : VB w t T cs) {b : Nat} (hne : t ≠ b) (x y z u v : Value) : VB (((((w.setCell ⟨b, 0, none⟩ x).setCell ⟨b, 1, none⟩ y).setCell ⟨b, 2, none⟩ z).setCell ⟨b, 3, none⟩ u).setCell ⟨b, 4, none⟩ v) t T cs := ((((h.far b 0 hne x).far b 1 hne y).far b 2 hne z).far b 3 hne u).far b 4 hne v
theorem B.set5 {w W : World} {t : Nat} (h : Below w.heap.size w W) (ht : w.heap.size ≤ t) (x y z u v : Value) : Below w.heap.size w (((((W.setCell ⟨t, 0, none⟩ x).setCell ⟨t, 1, none⟩ y).setCell ⟨t, 2, none⟩ z).setCell ⟨t, 3, none⟩ u).setCell ⟨t, 4, none⟩ v) :=
  ((((h.setCell (p := ⟨t, 0, none⟩) ht x).setCell (p := ⟨t, 1, none⟩) ht y).setCell (p := ⟨t, 2, none⟩) ht z).setCell (p := ⟨t, 3, none⟩) ht u).setCell (p := ⟨t, 4, none⟩) ht v
def World.set5 (w : World) (t : Nat) (x y z u v : Value) : World := ((((w.setCell ⟨t, 0, none⟩ x).setCell ⟨t, 1, none⟩ y).setCell ⟨t, 2, none⟩ z).setCell ⟨t, 3, none⟩ u).setCell ⟨t, 4, none⟩ v
theorem set5_same (w : World) (t : Nat) (x y z u v : Value) : (World.set5 w t x y z u v).os = w.os ∧ (World.set5 w t x y z u v).tape = w.tape ∧ (World.set5 w t x y z u v).output = w.output ∧ (World.set5 w t x y z u v).heap.size = w.heap.size ∧ ∀ b, b ≠ t → (World.set5 w t x y z u v).heap[b]? = w.heap[b]? := by
  unfold World.set5
  refine ⟨by simp [World.setCell], by simp [World.setCell], by simp [World.setCell], by simp [World.setCell], fun b hb => ?_⟩
  rw [Below.heap_setCell _ _ _ _ hb, Below.heap_setCell _ _ _ _ hb, Below.heap_setCell _ _ _ _ hb, Below.heap_setCell _ _ _ _ hb, Below.heap_setCell _ _ _ _ hb]
def AV.fns (t : List Fx) : AV := ⟨fun F _ w v => FxL F w t v, fun h _ k => k.keep h.size h.mem h.cell⟩
/-- A slice that is a variable's cells. -/
def AV.slc (x n : Nat) : AV := ⟨fun _ V _ v => ∃ g, V x = some g ∧ v = .slice (some ⟨g, 0, none⟩) n n, fun h _ ⟨g, hg, e⟩ => ⟨g, h.var _ _ hg, e⟩⟩
/-- A program: its functions, its lasting words in a variable's cells, no bytes. -/
def AV.prg (t : List Fx) (x n : Nat) (pages main : Int) : AV := ⟨fun F V w v => ∃ uf g, v = .agg #[uf, .slice (some ⟨g, 0, none⟩) n n, .slice none 0 0, .int .i64 pages, .int .i64 main] ∧ FxL F w t uf ∧ V x = some g,
  fun h _ ⟨uf, g, e, k, hg⟩ => ⟨uf, g, e, k.keep h.size h.mem h.cell, h.var _ _ hg⟩⟩

theorem st_fnE {c : Cx} (hP : c.P = Tryz.prog) {Q : Exit → Act → World → Prop} {o : Oper} {d : Nat} (hd : o.dst = some d) (hdn : d < c.n) (ho : o.op = .build 81 #[]) (hty : c.ty d = AV.fn 0 0 []) : StepOk c Q o [] [] [] := by
  refine step_read fun F V Dt Dv a w h ht _ => ⟨.agg #[.int .i64 0, .int .i64 0, .slice none 0 0], ?_, fun d' hd' => ?_⟩
  · rw [hP]; unfold execOp; simp only [ho]; clear h; go_simp
  · rw [hd] at hd'; simp only [Option.some.injEq] at hd'; subst hd'
    exact ⟨hdn, by rw [hty]; exact ⟨_, rfl, LoL.nil _ _⟩⟩
theorem st_loadPlanAll {c : Cx} (hP : c.P = Tryz.prog) {Q : Exit → Act → World → Prop} {o : Oper} {d p x : Nat} {p0 p1 p2 p3 p4 : Int} (hp : c.ty p = AV.ptr x 0) (hd : o.dst = some d) (hdn : d < c.n) (ho : o.op = .load 32 (.tmp p)) (hc : c.con x = AV.raw (.agg #[.int .u32 p0, .int .u32 p1, .int .u32 p2, .int .u32 p3, .int .u32 p4])) (hty : c.ty d = AV.raw (.agg #[.int .u32 p0, .int .u32 p1, .int .u32 p2, .int .u32 p3, .int .u32 p4])) : StepOk c Q o [p] [2 * x + 1] [] := by
  refine st_load hp hd hdn fun F V a w g cs T e hb hs hcon => ?_
  rw [hc] at hcon
  have hcs : cs = #[.int .u32 p0, .int .u32 p1, .int .u32 p2, .int .u32 p3, .int .u32 p4] := by
    have : (Value.agg cs) = .agg #[.int .u32 p0, .int .u32 p1, .int .u32 p2, .int .u32 p3, .int .u32 p4] := hcon
    simpa using this
  subst hcs
  have hv : VB w g T #[.int .u32 p0, .int .u32 p1, .int .u32 p2, .int .u32 p3, .int .u32 p4] := hb
  have h0 : w.cell? ⟨g, 0, none⟩ = some (.int .u32 p0) := hv.cell 0
  have h1 : w.cell? ⟨g, 1, none⟩ = some (.int .u32 p1) := hv.cell 1
  have h2 : w.cell? ⟨g, 2, none⟩ = some (.int .u32 p2) := hv.cell 2
  have h3 : w.cell? ⟨g, 3, none⟩ = some (.int .u32 p3) := hv.cell 3
  have h4 : w.cell? ⟨g, 4, none⟩ = some (.int .u32 p4) := hv.cell 4
  refine ⟨_, ?_, by rw [hty]; exact rfl⟩
  clear hb hcon hs
  rw [hP]; unfold execOp; simp only [ho]; generalize a.eval = ev at *; rw [e]; go_simp
theorem mk_collector {c : Cx} (hP : c.P = Tryz.prog) (hN : ∀ b, c.w0.heap.size ≤ b → c.S b) {Q : Exit → Act → World → Prop} {o : Oper} {d : Nat} {tys : Array TypeId} {x0 : Nat} {p0 p1 p2 p3 p4 : Int} (hx0 : c.ty x0 = AV.raw (.agg #[.int .u32 p0, .int .u32 p1, .int .u32 p2, .int .u32 p3, .int .u32 p4])) (hp1 : 0 ≤ p1 ∧ p1 < 4294967296) (hd : o.dst = some d) (hdn : d < c.n)
    (ho : o.op = .call { callee := .value (.func 39), args := #[.tmp x0], argTypes := tys }) (hty : c.ty d = AV.fn 0 5 (collectL p1)) : StepOk c Q o [x0] [] [] := by
  refine st_call hN (by rw [hP]; exact Tryz.func39) (by kernel_rfl) (by kernel_rfl) hd hdn ho fun F V Dt Dv a w h ht => ?_
  have k0 : a.tmps.getD x0 undef = .agg #[.int .u32 p0, .int .u32 p1, .int .u32 p2, .int .u32 p3, .int .u32 p4] := by have := h.tmp x0 (ht _ (by simp)); rw [hx0] at this; exact this
  have e : (#[.tmp x0] : Array Operand).map a.eval = #[.agg #[.int .u32 p0, .int .u32 p1, .int .u32 p2, .int .u32 p3, .int .u32 p4]] := by simp [Act.eval, k0]
  rw [e, hP, hty]
  refine (loCollector (withNew F w) p0 p1 p2 p3 p4 hp1 w (New.withNew F w)).mono ?_
  rintro _ w' ⟨v, rfl, ⟨u, e, hv⟩, hb⟩
  exact ⟨v, rfl, ⟨u, e, hv.outt⟩, hb⟩

theorem mk_taker {c : Cx} (hP : c.P = Tryz.prog) (hN : ∀ b, c.w0.heap.size ≤ b → c.S b) {Q : Exit → Act → World → Prop} {o : Oper} {d : Nat} {tys : Array TypeId} (hd : o.dst = some d) (hdn : d < c.n)
    (ho : o.op = .call { callee := .value (.func 40), args := #[], argTypes := tys }) (hty : c.ty d = AV.fn 1 1 takerL) : StepOk c Q o [] [] [] := by
  refine st_call hN (by rw [hP]; exact Tryz.func40) (by kernel_rfl) (by kernel_rfl) hd hdn ho fun F V Dt Dv a w h _ => ?_
  have e : (#[] : Array Operand).map a.eval = #[] := by simp
  rw [e, hP, hty]
  refine (loTaker (withNew F w) w (New.withNew F w)).mono ?_
  rintro _ w' ⟨v, rfl, ⟨u, e, hv⟩, hb⟩
  exact ⟨v, rfl, ⟨u, e, hv.outt⟩, hb⟩

theorem mk_moving {c : Cx} (hP : c.P = Tryz.prog) (hN : ∀ b, c.w0.heap.size ≤ b → c.S b) {Q : Exit → Act → World → Prop} {o : Oper} {d : Nat} {tys : Array TypeId} (hd : o.dst = some d) (hdn : d < c.n)
    (ho : o.op = .call { callee := .value (.func 41), args := #[], argTypes := tys }) (hty : c.ty d = AV.fn 1 4 movingL) : StepOk c Q o [] [] [] := by
  refine st_call hN (by rw [hP]; exact Tryz.func41) (by kernel_rfl) (by kernel_rfl) hd hdn ho fun F V Dt Dv a w h _ => ?_
  have e : (#[] : Array Operand).map a.eval = #[] := by simp
  rw [e, hP, hty]
  refine (loMoving (withNew F w) w (New.withNew F w)).mono ?_
  rintro _ w' ⟨v, rfl, ⟨u, e, hv⟩, hb⟩
  exact ⟨v, rfl, ⟨u, e, hv.outt⟩, hb⟩

theorem st_fns4 {c : Cx} (hP : c.P = Tryz.prog) (hN : ∀ b, c.w0.heap.size ≤ b → c.S b) {Q : Exit → Act → World → Prop} {o : Oper} {d : Nat} {x0 : Nat} {f0 : Fx} (h0 : c.ty x0 = AV.fn f0.p f0.n f0.l) {x1 : Nat} {f1 : Fx} (h1 : c.ty x1 = AV.fn f1.p f1.n f1.l) {x2 : Nat} {f2 : Fx} (h2 : c.ty x2 = AV.fn f2.p f2.n f2.l) {x3 : Nat} {f3 : Fx} (h3 : c.ty x3 = AV.fn f3.p f3.n f3.l) (hd : o.dst = some d) (hdn : d < c.n)
    (ho : o.op = .buildSlice 27 4 #[(0, .tmp x0), (1, .tmp x1), (2, .tmp x2), (3, .tmp x3)]) (hty : c.ty d = AV.fns [f0, f1, f2, f3]) : StepOk c Q o [x0, x1, x2, x3] [] [] := by
  refine st_list hN hd hdn fun F V a w h => ?_
  have k0 : FnAt F w f0.p f0.n f0.l (a.eval (.tmp x0)) := by have := h x0 (by simp); rw [h0] at this; exact this
  have k1 : FnAt F w f1.p f1.n f1.l (a.eval (.tmp x1)) := by have := h x1 (by simp); rw [h1] at this; exact this
  have k2 : FnAt F w f2.p f2.n f2.l (a.eval (.tmp x2)) := by have := h x2 (by simp); rw [h2] at this; exact this
  have k3 : FnAt F w f3.p f3.n f3.l (a.eval (.tmp x3)) := by have := h x3 (by simp); rw [h3] at this; exact this
  generalize a.eval = ev at *
  obtain ⟨u0, e0, k0⟩ := k0; obtain ⟨A0, c0, rfl, q0⟩ := id k0; clear q0
  obtain ⟨u1, e1, k1⟩ := k1; obtain ⟨A1, c1, rfl, q1⟩ := id k1; clear q1
  obtain ⟨u2, e2, k2⟩ := k2; obtain ⟨A2, c2, rfl, q2⟩ := id k2; clear q2
  obtain ⟨u3, e3, k3⟩ := k3; obtain ⟨A3, c3, rfl, q3⟩ := id k3; clear q3
  have hnew : ∀ o, FxV (grownTo F w (w.alloc o)) w [f0, f1, f2, f3] [(.int .i64 f0.p, .int .i64 f0.n, .slice A0 f0.l.length c0), (.int .i64 f1.p, .int .i64 f1.n, .slice A1 f1.l.length c1), (.int .i64 f2.p, .int .i64 f2.n, .slice A2 f2.l.length c2), (.int .i64 f3.p, .int .i64 f3.n, .slice A3 f3.l.length c3)] := fun o => ⟨⟨_, rfl, k0.mono fun _ _ h => .inl h⟩, ⟨_, rfl, k1.mono fun _ _ h => .inl h⟩, ⟨_, rfl, k2.mono fun _ _ h => .inl h⟩, ⟨_, rfl, k3.mono fun _ _ h => .inl h⟩, trivial⟩
  refine ⟨#[.int .i64 f0.p, .int .i64 f0.n, .slice A0 f0.l.length c0, .int .i64 f1.p, .int .i64 f1.n, .slice A1 f1.l.length c1, .int .i64 f2.p, .int .i64 f2.n, .slice A2 f2.l.length c2, .int .i64 f3.p, .int .i64 f3.n, .slice A3 f3.l.length c3], 81, 4, ?_, ?_⟩
  · rw [hP]; unfold execOp; simp only [ho, List.map_toArray, List.map_cons, List.map_nil, e0, e1, e2, e3]; clear hnew k0 k1 k2 k3; go_simp
  · rw [hty]; exact FxL.of _ (hnew _) _ _ rfl (by simp [maxLen]) _ rfl (.inr (by simp))
/-- Five words in a new block. -/
theorem st_words5 {c : Cx} (hP : c.P = Tryz.prog) {Q : Exit → Act → World → Prop} {o : Oper} {d x : Nat} {x0 : Nat} {q0 : Int} (h0 : c.ty x0 = AV.raw (.int .u32 q0)) {x1 : Nat} {q1 : Int} (h1 : c.ty x1 = AV.raw (.int .u32 q1)) {x2 : Nat} {q2 : Int} (h2 : c.ty x2 = AV.raw (.int .u32 q2)) {x3 : Nat} {q3 : Int} (h3 : c.ty x3 = AV.raw (.int .u32 q3)) {x4 : Nat} {q4 : Int} (h4 : c.ty x4 = AV.raw (.int .u32 q4)) (hd : o.dst = some d) (hdn : d < c.n)
    (ho : o.op = .buildSlice 23 5 #[(0, .tmp x0), (1, .tmp x1), (2, .tmp x2), (3, .tmp x3), (4, .tmp x4)]) (hty : c.ty d = AV.slc x 5) (hl : c.len x = 5) (hc : c.con x = AV.raw (.agg #[.int .u32 q0, .int .u32 q1, .int .u32 q2, .int .u32 q3, .int .u32 q4])) : StepOk c Q o [x0, x1, x2, x3, x4] [] [2 * x, 2 * x + 1] := by
  refine step_newV (x := x) true hd hdn (fun g => .slice (some ⟨g, 0, none⟩) 5 5) (fun _ _ _ g hg => by rw [hty]; exact ⟨g, hg, rfl⟩) fun F V Dt Dv a w h ht => ?_
  have k0 : a.eval (.tmp x0) = .int .u32 q0 := by have := h.tmp x0 (ht _ (by simp)); rw [h0] at this; exact this
  have k1 : a.eval (.tmp x1) = .int .u32 q1 := by have := h.tmp x1 (ht _ (by simp)); rw [h1] at this; exact this
  have k2 : a.eval (.tmp x2) = .int .u32 q2 := by have := h.tmp x2 (ht _ (by simp)); rw [h2] at this; exact this
  have k3 : a.eval (.tmp x3) = .int .u32 q3 := by have := h.tmp x3 (ht _ (by simp)); rw [h3] at this; exact this
  have k4 : a.eval (.tmp x4) = .int .u32 q4 := by have := h.tmp x4 (ht _ (by simp)); rw [h4] at this; exact this
  refine ⟨#[.int .u32 q0, .int .u32 q1, .int .u32 q2, .int .u32 q3, .int .u32 q4], 22, ?_, by simp [hl], fun _ => by rw [hc]; exact rfl⟩
  clear h ht
  rw [hP]; unfold execOp; simp only [ho, List.map_toArray, List.map_cons, List.map_nil]; generalize a.eval = ev at *; rw [k0, k1, k2, k3, k4]; go_simp
theorem st_prog {c : Cx} (hP : c.P = Tryz.prog) {Q : Exit → Act → World → Prop} {o : Oper} {d x0 x1 x2 x : Nat} {fs : List Fx} {pg : Int} (h0 : c.ty x0 = AV.fns fs) (h1 : c.ty x1 = AV.slc x 5) (h2 : c.ty x2 = AV.raw (.int .i64 pg)) (hd : o.dst = some d) (hdn : d < c.n)
    (ho : o.op = .build 30 #[(0, .tmp x0), (1, .tmp x1), (3, .tmp x2)]) (hty : c.ty d = AV.prg fs x 5 pg 0) : StepOk c Q o [x0, x1, x2] [] [] := by
  refine step_read fun F V Dt Dv a w h ht _ => ?_
  have k0 : FxL F w fs (a.eval (.tmp x0)) := by have := h.tmp x0 (ht _ (by simp)); rw [h0] at this; exact this
  have k1 : ∃ g, V x = some g ∧ a.eval (.tmp x1) = .slice (some ⟨g, 0, none⟩) 5 5 := by have := h.tmp x1 (ht _ (by simp)); rw [h1] at this; exact this
  have k2 : a.eval (.tmp x2) = .int .i64 pg := by have := h.tmp x2 (ht _ (by simp)); rw [h2] at this; exact this
  clear h ht
  generalize a.eval = ev at *
  obtain ⟨g, hg, k1⟩ := k1
  obtain ⟨A, cap, e, hr⟩ := id k0
  refine ⟨.agg #[ev (.tmp x0), .slice (some ⟨g, 0, none⟩) 5 5, .slice none 0 0, .int .i64 pg, .int .i64 0], ?_, fun d' hd' => ?_⟩
  · rw [hP]; unfold execOp; simp only [ho, List.map_toArray, List.map_cons, List.map_nil, k1, k2, e]; clear hr k0; go_simp
  · rw [hd] at hd'; simp only [Option.some.injEq] at hd'; subst hd'
    exact ⟨hdn, by rw [hty]; exact ⟨_, g, rfl, k0, hg⟩⟩
theorem st_storeProg {c : Cx} (hP : c.P = Tryz.prog) {Q : Exit → Act → World → Prop} {o : Oper} {p s x y : Nat} {fs : List Fx} {pg : Int} (hp : c.ty p = AV.ptr x 0) (hd : o.dst = none) (ho : o.op = .store 30 (.tmp p) (.tmp s)) (hl : c.len x = 5) (hs : c.ty s = AV.prg fs y 5 pg 0) (hty : c.con x = AV.prg fs y 5 pg 0) : StepOk c Q o [p, s] [] [2 * x + 1] := by
  refine step_store hd fun F V Dt Dv a w h ht _ => ?_
  have hpp := h.tmp p (ht _ (by simp)); rw [hp] at hpp
  obtain ⟨g, hg, e⟩ := hpp
  have hss := h.tmp s (ht _ (by simp)); rw [hs] at hss
  obtain ⟨uf, gg, hu, kf, hgg⟩ := id hss
  refine ⟨g, hg, fun cs T hb hsz => ?_⟩
  rw [hl] at hsz
  obtain ⟨A, cap, rfl, -⟩ := id kf
  obtain ⟨l⟩ := cs
  match l, hsz, hb with
  | [v0, v1, v2, v3, v4], _, hb =>
    have hv : VB w g T #[v0, v1, v2, v3, v4] := hb
    have c0 : w.cell? ⟨g, 0, none⟩ = some v0 := hv.cell 0
    have c1 : w.cell? ⟨g, 1, none⟩ = some v1 := hv.cell 1
    have c2 : w.cell? ⟨g, 2, none⟩ = some v2 := hv.cell 2
    have c3 : w.cell? ⟨g, 3, none⟩ = some v3 := hv.cell 3
    have c4 : w.cell? ⟨g, 4, none⟩ = some v4 := hv.cell 4
    have f0 := hv.free 0
    have f1 := hv.free 1
    have f2 := hv.free 2
    have f3 := hv.free 3
    have f4 := hv.free 4
    have e1 : a.eval (.tmp p) = .pointer (some ⟨g, 0, none⟩) := e
    have e2 : a.eval (.tmp s) = .agg #[.slice A fs.length cap, .slice (some ⟨gg, 0, none⟩) 5 5, .slice none 0 0, .int .i64 pg, .int .i64 0] := hu
    obtain ⟨i1, i2, i3, i4, i5⟩ := set5_same w g (.slice A fs.length cap) (.slice (some ⟨gg, 0, none⟩) 5 5) (.slice none 0 0) (.int .i64 pg) (.int .i64 0)
    have i6 : VB (World.set5 w g (.slice A fs.length cap) (.slice (some ⟨gg, 0, none⟩) 5 5) (.slice none 0 0) (.int .i64 pg) (.int .i64 0)) g T _ := hv.set5 _ _ _ _ _
    have i7 : (execOp a.eval o).run c.P w = .ok .skip (World.set5 w g (.slice A fs.length cap) (.slice (some ⟨gg, 0, none⟩) 5 5) (.slice none 0 0) (.int .i64 pg) (.int .i64 0)) := by
      clear hv hb hss hu kf h i1 i2 i3 i4 i5 i6
      unfold World.set5
      rw [hP]; unfold execOp; simp only [ho]; generalize a.eval = ev at *; rw [e1, e2]; go_simp
    exact ⟨_, _, i7, i1, i2, i3, i4, i6, i5, by simp [hl], by rw [hty]; exact ⟨_, gg, rfl, kf, hgg⟩⟩

end Go.Proofs.YtgohnekaolgblaaGreat
