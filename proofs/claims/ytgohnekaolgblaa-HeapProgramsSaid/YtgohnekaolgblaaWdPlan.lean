/- word.Plan, gimletref27.Plan: contracts. -/
import Derived.Test.YtgohnekaolgblaaWdUn
import Derived.Laws.BitsAllLaws
namespace Go.Proofs.Ytgohnekaolgblaa
open Go.RowKit

def Wd.planOk (p s : Int) : Prop := 4 ≤ p ∧ p ≤ 65536 ∧ s ≤ 16384 * p
instance (p s : Int) : Decidable (Wd.planOk p s) := inferInstanceAs (Decidable (_ ∧ _))
def Wd.stack (s : Int) : Int := 16 + (s + 7) / 8 * 8
def Wd.left (p s : Int) : Int := p * 65536 - Wd.stack s
def Wd.one (p s : Int) : Int := Wd.stack s + Wd.left p s / 8 / 8 * 8
def Wd.space (p s : Int) : Int := (p * 65536 - Wd.one p s - 8) / 2 / 8 * 8
def tupP (p s : Int) : Value :=
  if Wd.planOk p s then .tuple #[.agg #[.int .u32 16, .int .u32 (Wd.stack s), .int .u32 (Wd.one p s), .int .u32 (Wd.one p s + Wd.space p s), .int .u32 (Wd.one p s + 2 * Wd.space p s)], .int .i64 0]
  else .tuple #[.agg #[.int .u32 0, .int .u32 0, .int .u32 0, .int .u32 0, .int .u32 0], .int .i64 5]

theorem down_bits (x : Int) (h0 : 0 ≤ x) (h1 : x < 18446744073709551616) : bits .andNot .u64 x 7 = x / 8 * 8 := by
  rw [u64_andNot x 7 h0 h1 (by decide) (by decide)]
  obtain ⟨n, rfl⟩ := Int.eq_ofNat_of_zero_le h0
  have hn : n < 2 ^ 64 := by omega
  have e : n &&& ((2 ^ 61 - 1) <<< 3) = (n >>> 3) <<< 3 := by
    apply Nat.eq_of_testBit_eq
    intro i
    rw [Nat.testBit_and, Nat.testBit_shiftLeft, Nat.testBit_shiftLeft, Nat.testBit_shiftRight, Nat.testBit_two_pow_sub_one]
    by_cases h3 : i ≥ 3
    · simp only [h3, decide_true, Bool.true_and]
      rw [show 3 + (i - 3) = i by omega]
      by_cases h6 : i - 3 < 61
      · simp [h6]
      · have : n.testBit i = false := Nat.testBit_lt_two_pow (Nat.lt_of_lt_of_le hn (Nat.pow_le_pow_right (by decide) (by omega)))
        simp [this]
    · simp [h3]
  have e2 : (n >>> 3) <<< 3 = n / 8 * 8 := by rw [Nat.shiftLeft_eq, Nat.shiftRight_eq_div_pow]
  simp only [Int.toNat_natCast, show (7 : Int).toNat = 7 from rfl]
  rw [show 18446744073709551615 - 7 = (2 ^ 61 - 1) <<< 3 from by decide, e, e2]
  omega

theorem wdDown (x : Int) (w : World) (h0 : 0 ≤ x) (h1 : x < 18446744073709551616) : Calls Try.prog 83 #[.int .u64 x] w fun e w' => e = .returned (.int .u64 (x / 8 * 8)) ∧ w' = w := by
  have hm := down_bits x h0 h1
  go_enter Try.func83, Try.ntmps83
  go_wp2
  go_returns
  exact ⟨rfl, rfl⟩

theorem Wd.plan_range (p s : Int) (h : Wd.planOk p s) (h0 : 0 ≤ s) : 16 ≤ Wd.stack s ∧ Wd.stack s ≤ 16 + s + 7 ∧ Wd.stack s ≤ Wd.one p s ∧ 0 ≤ Wd.space p s ∧ Wd.one p s + 2 * Wd.space p s ≤ p * 65536 - 8 ∧ 49121 ≤ Wd.left p s / 1 := by
  obtain ⟨a, b, c⟩ := h
  unfold Wd.space Wd.one Wd.left Wd.stack
  omega

set_option maxHeartbeats 1000000 in
theorem wdPlan_no (p s : Int) (w : World) (h0 : 0 ≤ s) (h1 : s < 4294967296) (hn : ¬ Wd.planOk p s) : Calls Try.prog 52 #[.int .i64 p, .int .u32 s] w fun e w' => e = .returned (tupP p s) ∧ Below w.heap.size w w' := by
  have hr : tupP p s = .tuple #[.agg #[.int .u32 0, .int .u32 0, .int .u32 0, .int .u32 0, .int .u32 0], .int .i64 5] := by unfold tupP; rw [if_neg hn]
  rw [hr]
  by_cases a1 : p < 4
  · go_enter Try.func52, Try.ntmps52
    go_wp2_with fail
    refine bodyPost_ret (v := .tuple #[.agg #[.int .u32 0, .int .u32 0, .int .u32 0, .int .u32 0, .int .u32 0], .int .i64 5]) (by simp [results, Try.results52, go_sem]) rfl ⟨rfl, ?_⟩
    go_grown
  by_cases a2 : 65536 < p
  · go_enter Try.func52, Try.ntmps52
    go_wp2_with fail
    refine bodyPost_ret (v := .tuple #[.agg #[.int .u32 0, .int .u32 0, .int .u32 0, .int .u32 0, .int .u32 0], .int .i64 5]) (by simp [results, Try.results52, go_sem]) rfl ⟨rfl, ?_⟩
    go_grown
  have a3 : 16384 * p < s := by unfold Wd.planOk at hn; omega
  clear hn hr
  have u1 : IntKind.u64.wrap p = p := IntWalk.u64_in _ (by omega)
  go_enter Try.func52, Try.ntmps52
  go_wp2_with fail
  refine bodyPost_ret (v := .tuple #[.agg #[.int .u32 0, .int .u32 0, .int .u32 0, .int .u32 0, .int .u32 0], .int .i64 5]) (by simp [results, Try.results52, go_sem]) rfl ⟨rfl, ?_⟩
  go_grown

set_option maxHeartbeats 1000000 in
theorem wdPlan_ok (p s : Int) (w : World) (h0 : 0 ≤ s) (h1 : s < 4294967296) (hn : Wd.planOk p s) : Calls Try.prog 52 #[.int .i64 p, .int .u32 s] w fun e w' => e = .returned (tupP p s) ∧ Below w.heap.size w w' := by
  obtain ⟨r1, r2, r3, r4, r5, r6⟩ := Wd.plan_range p s hn h0
  obtain ⟨n1, n2, n3⟩ := hn
  go_enter Try.func52, Try.ntmps52
  go_wp2_with fail
  refine (wdDown (16 + s + 7) _ (by omega) (by omega)).mono ?_
  rintro _ w1 ⟨rfl, hw1⟩
  obtain rfl := hw1.symm
  have e1 : (16 + s + 7) / 8 * 8 = Wd.stack s := by unfold Wd.stack; omega
  rw [e1]
  clear e1
  have e2 : Wd.one p s = Wd.stack s + (p * 65536 - Wd.stack s) / 8 / 8 * 8 := rfl
  go_wp2_with fail
  refine (wdDown ((p * 65536 - Wd.stack s) / 8) _ (by omega) (by omega)).mono ?_
  rintro _ w1 ⟨rfl, hw1⟩
  obtain rfl := hw1.symm
  generalize hd : (p * 65536 - Wd.stack s) / 8 / 8 * 8 = d at e2
  go_wp2_with fail
  refine (wdDown ((p * 65536 - (Wd.stack s + d) - 8) / 2) _ (by omega) (by omega)).mono ?_
  rintro _ w1 ⟨rfl, hw1⟩
  obtain rfl := hw1.symm
  have e3 : Wd.space p s = (p * 65536 - (Wd.stack s + d) - 8) / 2 / 8 * 8 := by unfold Wd.space; rw [e2]
  generalize hc : (p * 65536 - (Wd.stack s + d) - 8) / 2 / 8 * 8 = c at e3
  rw [e2, e3] at r5
  rw [e2] at r3
  rw [e3] at r4
  go_wp2_with fail
  have hf : tupP p s = .tuple #[.agg #[.int .u32 16, .int .u32 (Wd.stack s), .int .u32 (Wd.stack s + d), .int .u32 (Wd.stack s + d + c), .int .u32 (Wd.stack s + d + 2 * c)], .int .i64 0] := by
    unfold tupP
    rw [if_pos ⟨n1, n2, n3⟩, e2, e3]
  rw [hf]
  refine bodyPost_ret (v := .tuple #[.agg #[.int .u32 16, .int .u32 (Wd.stack s), .int .u32 (Wd.stack s + d), .int .u32 (Wd.stack s + d + c), .int .u32 (Wd.stack s + d + 2 * c)], .int .i64 0]) (by simp [results, Try.results52, go_sem]) rfl ⟨rfl, ?_⟩
  go_grown

set_option maxHeartbeats 1000000 in
theorem refPlan_no (p s : Int) (w : World) (h0 : 0 ≤ s) (h1 : s < 4294967296) (hn : ¬ Wd.planOk p s) : Calls Try.prog 17 #[.int .i64 p, .int .u32 s] w fun e w' => e = .returned (tupP p s) ∧ Below w.heap.size w w' := by
  have hr : tupP p s = .tuple #[.agg #[.int .u32 0, .int .u32 0, .int .u32 0, .int .u32 0, .int .u32 0], .int .i64 5] := by unfold tupP; rw [if_neg hn]
  rw [hr]
  by_cases a1 : p < 4
  · go_enter Try.func17, Try.ntmps17
    go_wp2_with fail
    refine bodyPost_ret (v := .tuple #[.agg #[.int .u32 0, .int .u32 0, .int .u32 0, .int .u32 0, .int .u32 0], .int .i64 5]) (by simp [results, Try.results17, go_sem]) rfl ⟨rfl, ?_⟩
    go_grown
  by_cases a2 : 65536 < p
  · go_enter Try.func17, Try.ntmps17
    go_wp2_with fail
    refine bodyPost_ret (v := .tuple #[.agg #[.int .u32 0, .int .u32 0, .int .u32 0, .int .u32 0, .int .u32 0], .int .i64 5]) (by simp [results, Try.results17, go_sem]) rfl ⟨rfl, ?_⟩
    go_grown
  have a3 : 16384 * p < s := by unfold Wd.planOk at hn; omega
  clear hn hr
  go_enter Try.func17, Try.ntmps17
  go_wp2_with fail
  refine bodyPost_ret (v := .tuple #[.agg #[.int .u32 0, .int .u32 0, .int .u32 0, .int .u32 0, .int .u32 0], .int .i64 5]) (by simp [results, Try.results17, go_sem]) rfl ⟨rfl, ?_⟩
  go_grown

set_option maxHeartbeats 1000000 in
theorem refPlan_ok (p s : Int) (w : World) (h0 : 0 ≤ s) (h1 : s < 4294967296) (hn : Wd.planOk p s) : Calls Try.prog 17 #[.int .i64 p, .int .u32 s] w fun e w' => e = .returned (tupP p s) ∧ Below w.heap.size w w' := by
  obtain ⟨r1, r2, r3, r4, r5, r6⟩ := Wd.plan_range p s hn h0
  have hf : tupP p s = .tuple #[.agg #[.int .u32 16, .int .u32 (Wd.stack s), .int .u32 (Wd.one p s), .int .u32 (Wd.one p s + Wd.space p s), .int .u32 (Wd.one p s + 2 * Wd.space p s)], .int .i64 0] := by
    unfold tupP
    rw [if_pos hn]
  rw [hf]
  have k1 : 0 ≤ Wd.left p s := by omega
  obtain ⟨n1, n2, n3⟩ := hn
  have d1 : Wd.stack s = 16 + (s + 7) / 8 * 8 := rfl
  have d2 : Wd.left p s = p * 65536 - Wd.stack s := rfl
  have d3 : Wd.one p s = Wd.stack s + Wd.left p s / 8 / 8 * 8 := rfl
  have d4 : Wd.space p s = (p * 65536 - Wd.one p s - 8) / 2 / 8 * 8 := rfl
  have d5 : (p * 65536 - (Wd.stack s + Wd.left p s / 8 / 8 * 8) - 8) = p * 65536 - Wd.stack s - Wd.left p s / 8 / 8 * 8 - 8 := by omega
  rw [d4, d3, d5, d2, d1] at *
  clear d1 d2 d3 d4 d5 hf
  go_enter Try.func17, Try.ntmps17
  go_wp2_with fail
  refine bodyPost_ret (v := .tuple #[.agg #[.int .u32 16, .int .u32 (16 + (s + 7) / 8 * 8), .int .u32 (16 + (s + 7) / 8 * 8 + (p * 65536 - (16 + (s + 7) / 8 * 8)) / 8 / 8 * 8), .int .u32 ((16 + (s + 7) / 8 * 8 + (p * 65536 - (16 + (s + 7) / 8 * 8)) / 8 / 8 * 8) + ((p * 65536 - (16 + (s + 7) / 8 * 8) - (p * 65536 - (16 + (s + 7) / 8 * 8)) / 8 / 8 * 8 - 8) / 2 / 8 * 8)), .int .u32 ((16 + (s + 7) / 8 * 8 + (p * 65536 - (16 + (s + 7) / 8 * 8)) / 8 / 8 * 8) + 2 * ((p * 65536 - (16 + (s + 7) / 8 * 8) - (p * 65536 - (16 + (s + 7) / 8 * 8)) / 8 / 8 * 8 - 8) / 2 / 8 * 8))], .int .i64 0]) (by simp [results, Try.results17, go_sem]) rfl ⟨rfl, ?_⟩
  go_grown

theorem wdPlanAll (p s : Int) (w : World) (h0 : 0 ≤ s) (h1 : s < 4294967296) : Calls Try.prog 52 #[.int .i64 p, .int .u32 s] w fun e w' => e = .returned (tupP p s) ∧ Below w.heap.size w w' := by
  by_cases h : Wd.planOk p s
  · exact wdPlan_ok p s w h0 h1 h
  · exact wdPlan_no p s w h0 h1 h

theorem refPlanAll (p s : Int) (w : World) (h0 : 0 ≤ s) (h1 : s < 4294967296) : Calls Try.prog 17 #[.int .i64 p, .int .u32 s] w fun e w' => e = .returned (tupP p s) ∧ Below w.heap.size w w' := by
  by_cases h : Wd.planOk p s
  · exact refPlan_ok p s w h0 h1 h
  · exact refPlan_no p s w h0 h1 h

end Go.Proofs.Ytgohnekaolgblaa
