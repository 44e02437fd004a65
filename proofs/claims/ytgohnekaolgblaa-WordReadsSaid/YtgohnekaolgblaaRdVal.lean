/- reader.value: contract, way by way. -/
import Derived.Test.YtgohnekaolgblaaRdText
import Derived.Test.YtgohnekaolgblaaTrRow
import Derived.Deep.RegionHeld3
namespace Go.Proofs.Ytgohnekaolgblaa
open Go.RowKit

/-- What value tells: the tree, or the reader is bad. -/
def ValPost (w : World) (br : Nat) (vl : Value) (a : Int) (r : Option (Tr × Nat × Nat)) (e : Ending) (w' : World) : Prop :=
  ∃ v t nx m bd, e = .returned v ∧ Tr.at (fun b off => w.heap.size ≤ b ∧ b < w'.heap.size ∧ Fresh w' b off) w' t v ∧ VB w' br 114 (Rd5 vl a nx m bd) ∧ GrowS (fun k => k = br) w w' ∧
    (match r with
    | none => bd = true
    | some (t', nx', m') => bd = false ∧ t' = t ∧ nx' = nx ∧ m' = m)

/-- What the fields' reading tells. -/
def AccPost (r : Option (List Tr × Nat × Nat)) (ts : List Tr) (nx m : Nat) (bd : Bool) : Prop :=
  match r with
  | none => bd = true
  | some (ts', nx', m') => bd = false ∧ ts' = ts ∧ nx' = nx ∧ m' = m

/-- What value does, so many levels left. -/
def ValHyp (g : Nat) : Prop := ∀ (u : Int) (d next many : Nat) (vA : Option Addr) (ls : List Int) (vc : Nat) (a : Int) (br B : Nat) (w : World), d + g = 201 → VB w br 114 (Rd5 (.slice vA ls.length vc) a next many false) → SeesB .u32 B w (.slice vA ls.length vc) ls → B ≤ br → (0 ≤ u ∧ u < 4294967296) → (∀ x ∈ ls, 0 ≤ x ∧ x < 4294967296) → next ≤ ls.length → many ≤ 16384 → ls.length ≤ 1048576 →
    Calls Try.prog 80 #[.pointer (some ⟨br, 0, none⟩), .int .u32 u, .int .i64 (d : Int)] w (ValPost w br (.slice vA ls.length vc) a (Wd.rd ls a g u next many))

theorem GrowS.cell {T : Nat → Prop} {w w' : World} (h : GrowS T w w') {b o : Nat} {v : Value} (hn : ¬ T b) (hc : w.cell? ⟨b, o, none⟩ = some v) : w'.cell? ⟨b, o, none⟩ = some v :=
  (World.cell?_of_block (w := w) (h.block b (by simpa using World.block_lt_of_cell? w _ hc) hn)).trans hc
theorem GrowS.frozen {T : Nat → Prop} {w w' : World} (h : GrowS T w w') {b o : Nat} (hb : b < w.heap.size) (hn : ¬ T b) : w'.frozen? ⟨b, o, none⟩ = w.frozen? ⟨b, o, none⟩ :=
  World.frozen?_of_block (h.block b hb hn)

theorem Tr.at_leaf (S : Nat → Nat → Prop) (w : World) (k n : Int) (s : ByteArray) : Tr.at S w (.mk k n s []) (.agg #[.int .i64 k, .int .i64 n, .string s, .slice none 0 0]) := by
  rw [Tr.at_mk]
  exact ⟨none, 0, rfl, by simp, by unfold maxLen; omega, fun h => absurd rfl h⟩

set_option maxHeartbeats 1000000 in
set_option maxRecDepth 100000 in
theorem val_num (u : Int) (d : Nat) (next many : Nat) (vA : Option Addr) (vn vc : Nat) (a : Int) (br : Nat) (w : World) (n : Int) (is : Bool) (hof : Wd.of u = (n, is)) (bad' : Bool) (hb : bad' = (decide (16384 ≤ many) || decide (200 < d))) (hst : is = true ∨ bad' = true)
    (hr : VB w br 114 (Rd5 (.slice vA vn vc) a next many false)) (hu : 0 ≤ u ∧ u < 4294967296) (hd : d ≤ 1000) (hm : many ≤ 16384) :
    Calls Try.prog 80 #[.pointer (some ⟨br, 0, none⟩), .int .u32 u, .int .i64 (d : Int)] w fun e w' =>
      e = .returned (.agg #[.int .i64 1, .int .i64 n, .string ⟨#[]⟩, .slice none 0 0]) ∧ VB w' br 114 (Rd5 (.slice vA vn vc) a next (many + 1) bad') ∧ GrowS (fun k => k = br) w w' := by
  have HO : ∀ w, Calls Try.prog 44 #[.int .u32 u] w fun e w' => e = .returned (.tuple #[.int .i64 n, .bool is]) ∧ w' = w := fun w => by
    have h := wdOf u w hu.1 hu.2
    rw [hof] at h
    exact h
  have r3 := hr.cell 3
  have f3 := hr.free 3
  have r4 := hr.cell 4
  have f4 := hr.free 4
  have lr := hr.lt
  simp [Rd5] at r3 r4
  have HR := Lib.hid hr
  replace HO := Lib.hid HO
  clear hr hof
  have X0 := Lib.hid (VB.new w 58 #[.int .i64 0, .int .i64 0, .string ⟨#[]⟩, .slice none 0 0])
  have G0 := Lib.hid (GrowS.refl (fun k => k = br) w)
  subst hb
  by_cases h1 : 16384 ≤ many
  · have e1 : (decide (16384 ≤ many) || decide (200 < d)) = true := by simp [h1]
    rw [e1]
    clear hst
    go_enter Try.func80, Try.ntmps80
    go_wp2_with fail
    refine (HO.out _).mono ?_
    rintro _ w1 ⟨rfl, hw1⟩
    subst hw1
    go_wp2_with fail
    all_goals
      refine bodyPost_ret (v := .agg #[.int .i64 1, .int .i64 n, .string ⟨#[]⟩, .slice none 0 0]) (by simp [results, Try.results80, go_sem]) rfl ⟨rfl, ?_, ?_⟩
      · have := ((HR.out.set 3 (.int .i64 (many + 1))).set 4 (.bool true)).alloc (.cells #[.int .i64 1, .int .i64 n, .string ⟨#[]⟩, .slice none 0 0] 58)
        simpa [Rd5] using this
      · exact ((G0.out.set (b := br) rfl _).set (b := br) rfl _).alloc _
  by_cases h2 : 200 < d
  · have e1 : (decide (16384 ≤ many) || decide (200 < d)) = true := by simp [h2]
    rw [e1]
    clear hst
    go_enter Try.func80, Try.ntmps80
    go_wp2_with fail
    refine (HO.out _).mono ?_
    rintro _ w1 ⟨rfl, hw1⟩
    subst hw1
    go_wp2_with fail
    all_goals
      refine bodyPost_ret (v := .agg #[.int .i64 1, .int .i64 n, .string ⟨#[]⟩, .slice none 0 0]) (by simp [results, Try.results80, go_sem]) rfl ⟨rfl, ?_, ?_⟩
      · have := ((HR.out.set 3 (.int .i64 (many + 1))).set 4 (.bool true)).alloc (.cells #[.int .i64 1, .int .i64 n, .string ⟨#[]⟩, .slice none 0 0] 58)
        simpa [Rd5] using this
      · exact ((G0.out.set (b := br) rfl _).set (b := br) rfl _).alloc _
  · have e1 : (decide (16384 ≤ many) || decide (200 < d)) = false := by simp [h1, h2]
    rw [e1]
    rw [e1] at hst
    obtain rfl : is = true := by simpa using hst
    go_enter Try.func80, Try.ntmps80
    go_wp2_with fail
    refine (HO.out _).mono ?_
    rintro _ w1 ⟨rfl, hw1⟩
    subst hw1
    go_wp2_with fail
    all_goals
      refine bodyPost_ret (v := .agg #[.int .i64 1, .int .i64 n, .string ⟨#[]⟩, .slice none 0 0]) (by simp [results, Try.results80, go_sem]) rfl ⟨rfl, ?_, ?_⟩
      · have := (HR.out.set 3 (.int .i64 (many + 1))).alloc (.cells #[.int .i64 1, .int .i64 n, .string ⟨#[]⟩, .slice none 0 0] 58)
        simpa [Rd5] using this
      · exact (G0.out.set (b := br) rfl _).alloc _

end Go.Proofs.Ytgohnekaolgblaa
