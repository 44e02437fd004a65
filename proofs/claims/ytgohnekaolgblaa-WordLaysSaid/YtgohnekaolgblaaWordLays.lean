/- The law WordLays: the walk (printed by wip/gen_lays.py). -/
import Derived.Test.YtgohnekaolgblaaWordApart
import Derived.Test.YtgohnekaolgblaaRfLay
import Derived.Test.YtgohnekaolgblaaRdLaw6
namespace Go.Proofs.Ytgohnekaolgblaa
open Go.RowKit

set_option maxHeartbeats 8000000 in
set_option maxRecDepth 100000 in
theorem wordLaysWalk (t : Tr) (v : Value) (a : Int) (w : World) (ha : Tr.at (fun b _ => b < w.heap.size) w t v) (h2 : (Lit.int .u32 a).wf = true) :
    Calls Try.prog 7 #[v, .int .u32 a] w fun e w' => e = .returned (.bool true) ∧ Below w.heap.size w w' := by
  obtain ⟨hu0, hu1⟩ := wf_u32 h2
  have hka : ∀ w', Below w.heap.size w w' → Tr.at (fun b _ => b < w.heap.size) w' t v := fun w' hb => Tr.at_below ha hb (fun _ _ h => h)
  have HVA := Lib.hid fun w' (h : Below w.heap.size w w') => values t t (List.mem_singleton.2 rfl) _ w' v 3000 (hka w' h) (fun _ _ hl => Nat.lt_of_lt_of_le hl h.size) (by omega) (by omega)
  have hva := Tr.vals_le t 3000 (by omega)
  have HCP := Lib.hid fun (hc : t.count ≤ 3000) w' (h : Below w.heap.size w w') => copyValue t t (List.mem_singleton.2 rfl) _ w' v (hka w' h) (fun b off hl => Nat.lt_of_lt_of_le hl h.size) (by omega)
  have HRL := Lib.hid fun (hc : t.count ≤ 3000) w' (h : Below w.heap.size w w') => rfLay t v a w' (Tr.at_mono (hka w' h) (fun b off hl => Nat.lt_of_lt_of_le hl h.size)) (by omega) hu0 hu1
  have HCK := Lib.hid fun (hc : t.count ≤ 3000) w' (h : Below w.heap.size w w') => rfChk t v w' (Tr.at_mono (hka w' h) (fun b off hl => Nat.lt_of_lt_of_le hl h.size)) (by omega) (by have := Tr.deep_le t; omega)
  have HKA := Lib.hid hka
  have HAW := Lib.hid awake27
  have HU0 := Lib.hid (And.intro hu0 hu1)
  obtain ⟨A, cA, rfl, -⟩ := Tr.at_agg ha
  clear ha hka h2 hu0 hu1
  obtain ⟨na, hna⟩ : ∃ x, x = t.vals 3000 := ⟨_, rfl⟩
  rw [← hna] at hva HVA
  clear hna
  have BW0 : Below w.heap.size w (w.alloc (.cells #[.int .i64 t.k, .int .i64 t.n, .string t.s, .slice A t.l.length cA] 58)) := B.alloc (B.refl w) _
  have H4 : ∀ w', Below (w.alloc (.cells #[.int .i64 t.k, .int .i64 t.n, .string t.s, .slice A t.l.length cA] 58)).heap.size (w.alloc (.cells #[.int .i64 t.k, .int .i64 t.n, .string t.s, .slice A t.l.length cA] 58)) w' → w'.cell? ⟨w.heap.size, 0, none⟩ = some (.int .i64 t.k) ∧ w'.cell? ⟨w.heap.size, 1, none⟩ = some (.int .i64 t.n) ∧ w'.cell? ⟨w.heap.size, 2, none⟩ = some (.string t.s) ∧ w'.cell? ⟨w.heap.size, 3, none⟩ = some (.slice A t.l.length cA) ∧ w.heap.size < w'.heap.size := by
    intro w' hb
    have v0 := (VB.new w 58 #[.int .i64 t.k, .int .i64 t.n, .string t.s, .slice A t.l.length cA]).call hb
    exact ⟨v0.cell 0, v0.cell 1, v0.cell 2, v0.cell 3, v0.lt⟩
  have HBW : ∀ w', Below (w.alloc (.cells #[.int .i64 t.k, .int .i64 t.n, .string t.s, .slice A t.l.length cA] 58)).heap.size (w.alloc (.cells #[.int .i64 t.k, .int .i64 t.n, .string t.s, .slice A t.l.length cA] 58)) w' → Below w.heap.size w w' := fun w' hb => B.call BW0 hb
  replace H4 := Lib.hid H4
  replace HBW := Lib.hid HBW
  replace BW0 := Lib.hid BW0
  go_enter Try.func7, Try.ntmps7
  go_wp2_with fail
  refine (HVA.out _ (HBW.out _ (B.refl _))).mono ?_
  rintro _ w1 ⟨rfl, b1⟩
  have BW1 := Lib.hid b1
  clear b1
  obtain ⟨x0, x1, x2, x3, lx⟩ := H4.out _ BW1.out
  by_cases hn1 : 3000 < na
  · go_wp2_with fail
    go_returns
    exact ⟨rfl, HBW.out _ BW1.out⟩
  have hca : t.count ≤ 3000 := by have := hva.2.2 (by omega); omega
  clear hva HVA
  go_wp2_with fail
  refine (HCP.out hca _ (HBW.out _ BW1.out)).mono ?_
  rintro _ w2 ⟨v2, rfl, at2, b2⟩
  obtain ⟨A2, k2, rfl, _⟩ := Tr.at_agg at2
  have BW2 := Lib.hid (B.call BW1.out b2)
  clear b2 BW1 x0 x1 x2 x3 lx HCP
  obtain ⟨x0, x1, x2, x3, lx⟩ := H4.out _ BW2.out
  go_wp2_with fail
  obtain ⟨w3, hw3⟩ : ∃ x, x = w2.alloc (.cells #[.int .i64 t.k, .int .i64 t.n, .string t.s, .slice A2 t.l.length k2] 58) := ⟨_, rfl⟩
  rw [← hw3]
  have B23 : Below w2.heap.size w2 w3 := by rw [hw3]; exact B.alloc (B.refl _) _
  have HY : ∀ w', Below w3.heap.size w3 w' → w'.cell? ⟨w2.heap.size, 0, none⟩ = some (.int .i64 t.k) ∧ w'.cell? ⟨w2.heap.size, 1, none⟩ = some (.int .i64 t.n) ∧ w'.cell? ⟨w2.heap.size, 2, none⟩ = some (.string t.s) ∧ w'.cell? ⟨w2.heap.size, 3, none⟩ = some (.slice A2 t.l.length k2) := by
    intro w' hb
    rw [hw3] at hb
    have v0 := (VB.new w2 58 #[.int .i64 t.k, .int .i64 t.n, .string t.s, .slice A2 t.l.length k2]).call hb
    exact ⟨v0.cell 0, v0.cell 1, v0.cell 2, v0.cell 3⟩
  replace HY := Lib.hid HY
  have at3 := keepT at2 B23
  have BW3 := Lib.hid (B.call BW2.out B23)
  clear hw3 B23 at2 BW2 x0 x1 x2 x3 lx
  obtain ⟨x0, x1, x2, x3, lx⟩ := H4.out _ BW3.out
  obtain ⟨y0, y1, y2, y3⟩ := HY.out _ (B.refl _)
  have HL3 := wdLay t _ a w3 (Tr.at_mono at3 (fun _ _ h => h.2.1)) (by omega) (by have := Tr.deep_le t; omega) HU0.out.1 HU0.out.2
  obtain ⟨rl, hrl⟩ : ∃ x, x = Wd.lay t a := ⟨_, rfl⟩
  rw [← hrl] at HL3 HRL
  obtain ⟨ws, xw, xe⟩ := rl
  replace hrl := Lib.hid hrl
  go_wp2_with fail
  refine HL3.mono ?_
  rintro _ w4 ⟨o4, rfl, ow4, b4⟩
  have s4 := ow4.sees.len
  obtain ⟨A4, k4, rfl, _, _⟩ := s4
  have S4 := Lib.hid ow4.sees
  have BW4 := Lib.hid (B.call BW3.out b4)
  have at4 := keepT at3 b4
  have BY4 := Lib.hid b4
  clear b4 ow4 HL3 x0 x1 x2 x3 lx y0 y1 y2 y3
  obtain ⟨x0, x1, x2, x3, lx⟩ := H4.out _ BW4.out
  obtain ⟨y0, y1, y2, y3⟩ := HY.out _ BY4.out
  go_wp2_with fail
  refine (HRL.out hca _ (HBW.out _ BW4.out)).mono ?_
  rintro _ w5 ⟨o5, rfl, ow5, b5⟩
  have s5 := ow5.sees.len
  obtain ⟨A5, k5, rfl, _, _⟩ := s5
  have S5 := Lib.hid ow5.sees
  have BW5 := Lib.hid (B.call BW4.out b5)
  have at5 := keepT at4 b5
  have BY5 := Lib.hid (B.call BY4.out b5)
  have HSC := Lib.hid fun w' (h : Below w5.heap.size w5 w') => sameCells_true _ _ _ w' (S4.out.below (B.call b5 h) (Nat.le_refl _)) (S5.out.below h (Nat.le_refl _))
  clear b5 ow5 x0 x1 x2 x3 lx y0 y1 y2 y3
  obtain ⟨x0, x1, x2, x3, lx⟩ := H4.out _ BW5.out
  obtain ⟨y0, y1, y2, y3⟩ := HY.out _ BY5.out
  have HK := Lib.hid fun w' (h : Below w5.heap.size w5 w') => wdChk t _ w' (Tr.at_mono (keepT at5 h) (fun _ _ h => h.2.1)) (by omega) (by have := Tr.deep_le t; omega)
  have HK2 := Lib.hid fun w' (h : Below w5.heap.size w5 w') => HCK.out hca w' (HBW.out _ (B.call BW5.out h))
  have hsame : t.same t = true := (Tr.same_iff _ _).2 rfl
  have HSV := Lib.hid fun w' (h : Below w5.heap.size w5 w') => sameValue t t (List.mem_singleton.2 rfl) t _ _ w' _ _ (keepT at5 h) (HKA.out w' (HBW.out _ (B.call BW5.out h))) (fun _ _ hl => hl.2.1) (fun _ _ hl => Nat.lt_of_lt_of_le hl (HBW.out _ (B.call BW5.out h)).size)
  rw [hsame] at HSV
  obtain ⟨ck, hck⟩ : ∃ x, x = Wd.chk t := ⟨_, rfl⟩
  rw [← hck] at HK HK2
  have HF := Lib.hid (HBW.out _ BW5.out)
  clear hck hsame HCK HRL HKA H4 HY HBW BW0 BW4 BW3 BY4 BY5 BW5 at3 at4 at5 S4 S5 hrl HU0 hn1 hca
  go_wp2_with fail
  go_region_held3 (fun w' => Below w5.heap.size w5 w' ∧ w'.cell? ⟨w.heap.size, 0, none⟩ = some (.int .i64 t.k) ∧ w'.cell? ⟨w.heap.size, 1, none⟩ = some (.int .i64 t.n) ∧ w'.cell? ⟨w.heap.size, 2, none⟩ = some (.string t.s) ∧ w'.cell? ⟨w.heap.size, 3, none⟩ = some (.slice A t.l.length cA) ∧ w'.cell? ⟨w2.heap.size, 0, none⟩ = some (.int .i64 t.k) ∧ w'.cell? ⟨w2.heap.size, 1, none⟩ = some (.int .i64 t.n) ∧ w'.cell? ⟨w2.heap.size, 2, none⟩ = some (.string t.s) ∧ w'.cell? ⟨w2.heap.size, 3, none⟩ = some (.slice A2 t.l.length k2))
    (first
      | exact ⟨(B.refl w5).drew, x0, x1, x2, x3, y0, y1, y2, y3⟩
      | (go_split_ands; exact ⟨B.call (by assumption) bS, cellK bS (by assumption), cellK bS (by assumption), cellK bS (by assumption), cellK bS (by assumption), cellK bS (by assumption), cellK bS (by assumption), cellK bS (by assumption), cellK bS (by assumption)⟩)
      | (go_split_ands; exact ⟨B.call (by assumption) bA, cellK bA (by assumption), cellK bA (by assumption), cellK bA (by assumption), cellK bA (by assumption), cellK bA (by assumption), cellK bA (by assumption), cellK bA (by assumption), cellK bA (by assumption)⟩)
      | (go_split_ands; exact ⟨B.call (by assumption) bB, cellK bB (by assumption), cellK bB (by assumption), cellK bB (by assumption), cellK bB (by assumption), cellK bB (by assumption), cellK bB (by assumption), cellK bB (by assumption), cellK bB (by assumption)⟩)
      | (go_split_ands; exact ⟨B.call (by assumption) bC, cellK bC (by assumption), cellK bC (by assumption), cellK bC (by assumption), cellK bC (by assumption), cellK bC (by assumption), cellK bC (by assumption), cellK bC (by assumption), cellK bC (by assumption)⟩)
      | (go_split_ands; exact ⟨B.call (by assumption) bD, cellK bD (by assumption), cellK bD (by assumption), cellK bD (by assumption), cellK bD (by assumption), cellK bD (by assumption), cellK bD (by assumption), cellK bD (by assumption), cellK bD (by assumption)⟩))
    ((first
      | (go_at_call 21; go_split_ands; with_reducible refine (HSC.out _ (by assumption)).mono ?_; rintro _ wC ⟨rfl, bC⟩)
      | (go_at_call 34; go_split_ands; with_reducible refine (HK.out _ (by assumption)).mono ?_; rintro _ wA ⟨rfl, bA⟩)
      | (go_at_call 35; go_split_ands; with_reducible refine (HK2.out _ (by assumption)).mono ?_; rintro _ wB ⟨rfl, bB⟩)
      | (go_at_call 36; go_split_ands; with_reducible refine (HSV.out _ (by assumption)).mono ?_; rintro _ wS ⟨rfl, bS⟩)
      | (go_at_call 37; go_split_ands; with_reducible refine (HAW.out _).mono ?_; rintro _ wD ⟨rfl, bD⟩)))
  all_goals go_wp2_with fail
  all_goals go_returns
  all_goals go_split_ands
  all_goals exact ⟨rfl, B.call HF.out (by assumption)⟩

end Go.Proofs.Ytgohnekaolgblaa
