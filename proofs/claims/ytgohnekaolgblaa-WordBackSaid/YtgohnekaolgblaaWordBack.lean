/- The law WordBack: the walk (printed by wip/gen_back.py). -/
import Derived.Test.YtgohnekaolgblaaRdLaw6
namespace Go.Proofs.Ytgohnekaolgblaa
open Go.RowKit

set_option maxHeartbeats 8000000 in
set_option maxRecDepth 100000 in
theorem wordBackWalk (ta : Tr) (va : Value) (a : Int) (vl : Value) (ls : List Int) (u : Int) (w : World) (ha : Tr.at (fun b _ => b < w.heap.size) w ta va) (h2 : (Lit.int .u32 a).wf = true) (hl : Sees .u32 w vl ls) (hlr : ∀ n ∈ ls, (Lit.int .u32 n).wf = true) (h3 : (Lit.int .u32 u).wf = true) :
    Calls Try.prog 9 #[va, .int .u32 a, vl, .int .u32 u] w fun e w' => e = .returned (.bool true) ∧ Below w.heap.size w w' := by
  obtain ⟨hu0, hu1⟩ := wf_u32 h2
  have hu := wf_u32 h3
  have hlr' : ∀ x ∈ ls, 0 ≤ x ∧ x < 4294967296 := fun x hx => wf_u32 (hlr x hx)
  have hka : ∀ w', Below w.heap.size w w' → Tr.at (fun b _ => b < w.heap.size) w' ta va := fun w' hb => Tr.at_below ha hb (fun _ _ h => h)
  have HVA := Lib.hid fun w' (h : Below w.heap.size w w') => values ta ta (List.mem_singleton.2 rfl) _ w' va 3000 (hka w' h) (fun _ _ hl => Nat.lt_of_lt_of_le hl h.size) (by omega) (by omega)
  have hva := Tr.vals_le ta 3000 (by omega)
  have hsz := Tr.size_vals ta 3000 (by omega)
  have HLA := Lib.hid fun (hc : ta.count ≤ 3000) w' (h : Below w.heap.size w w') => wdLay ta va a w' (Tr.at_mono (hka w' h) (fun b off hl => Nat.lt_of_lt_of_le hl h.size)) (by omega) (by have := Tr.deep_le ta; omega) hu0 hu1
  have HPA := Lib.hid fun (hc : ta.count ≤ 3000) w' (h : Below w.heap.size w w') => plainValue ta ta (List.mem_singleton.2 rfl) _ w' va (hka w' h) (fun b off hl => Nat.lt_of_lt_of_le hl h.size) (by omega)
  have HSL := Lib.hid fun w' (h : Below w.heap.size w w') => hl.below h (Nat.le_refl _)
  have HRL := Lib.hid fun w' (h : Below w.heap.size w w') => wdRead vl ls a u w' (hl.below h (Nat.le_refl _)) hu0 hu1 hu hlr'
  have hr : ∃ t f, Wd.read ls a u = (t, f) := ⟨_, _, rfl⟩
  obtain ⟨ty, fy, hr⟩ := hr
  rw [hr] at HRL
  replace hr := Lib.hid hr
  have HLR := Lib.hid hlr'
  have HU := Lib.hid hu
  have HU0 := Lib.hid (And.intro hu0 hu1)
  obtain ⟨A, cA, rfl, -⟩ := Tr.at_agg ha
  obtain ⟨AL, cL, rfl, hL1, hL2⟩ := hl.len
  unfold maxLen at hL2
  clear ha hl hka h2 h3 hlr hlr' hu hu0 hu1
  obtain ⟨na, hna⟩ : ∃ x, x = ta.vals 3000 := ⟨_, rfl⟩
  rw [← hna] at hva hsz HVA
  clear hna
  have BW0 : Below w.heap.size w (w.alloc (.cells #[.int .i64 ta.k, .int .i64 ta.n, .string ta.s, .slice A ta.l.length cA] 58)) := B.alloc (B.refl w) _
  have H4 : ∀ w', Below (w.alloc (.cells #[.int .i64 ta.k, .int .i64 ta.n, .string ta.s, .slice A ta.l.length cA] 58)).heap.size (w.alloc (.cells #[.int .i64 ta.k, .int .i64 ta.n, .string ta.s, .slice A ta.l.length cA] 58)) w' → w'.cell? ⟨w.heap.size, 0, none⟩ = some (.int .i64 ta.k) ∧ w'.cell? ⟨w.heap.size, 1, none⟩ = some (.int .i64 ta.n) ∧ w'.cell? ⟨w.heap.size, 2, none⟩ = some (.string ta.s) ∧ w'.cell? ⟨w.heap.size, 3, none⟩ = some (.slice A ta.l.length cA) ∧ w.heap.size < w'.heap.size := by
    intro w' hb
    have v0 := (VB.new w 58 #[.int .i64 ta.k, .int .i64 ta.n, .string ta.s, .slice A ta.l.length cA]).call hb
    exact ⟨v0.cell 0, v0.cell 1, v0.cell 2, v0.cell 3, v0.lt⟩
  have HBW : ∀ w', Below (w.alloc (.cells #[.int .i64 ta.k, .int .i64 ta.n, .string ta.s, .slice A ta.l.length cA] 58)).heap.size (w.alloc (.cells #[.int .i64 ta.k, .int .i64 ta.n, .string ta.s, .slice A ta.l.length cA] 58)) w' → Below w.heap.size w w' := fun w' hb => B.call BW0 hb
  replace H4 := Lib.hid H4
  replace HBW := Lib.hid HBW
  replace BW0 := Lib.hid BW0
  obtain ⟨nl, hnl⟩ : ∃ x, x = ls.length := ⟨_, rfl⟩
  rw [← hnl] at HSL HRL hL1 ⊢
  replace hnl := Lib.hid hnl
  go_enter Try.func9, Try.ntmps9
  go_wp2_with fail
  refine (awake27 _).mono ?_
  rintro _ w1 ⟨rfl, b1⟩
  have BW1 := Lib.hid b1
  clear b1
  obtain ⟨x0, x1, x2, x3, lx⟩ := H4.out _ BW1.out
  go_wp2_with fail
  refine (HVA.out _ (HBW.out _ BW1.out)).mono ?_
  rintro _ w2 ⟨rfl, b2⟩
  have BW2 := Lib.hid (B.call BW1.out b2)
  clear b2 BW1 x0 x1 x2 x3 lx
  obtain ⟨x0, x1, x2, x3, lx⟩ := H4.out _ BW2.out
  by_cases hn1 : 3000 < na
  · go_wp2_with fail
    go_returns
    exact ⟨rfl, HBW.out _ BW2.out⟩
  have hca : ta.count ≤ 3000 := by have := hva.2.2 (by omega); omega
  have hsa : ta.size ≤ 1048576 := by have := hsz (by omega); omega
  by_cases hn2 : (3000 : Int) < nl
  · go_wp2_with fail
    go_returns
    exact ⟨rfl, HBW.out _ BW2.out⟩
  clear hva hsz HVA
  go_wp2_with fail
  refine (HLA.out hca _ (HBW.out _ BW2.out)).mono ?_
  rintro _ w3 ⟨o3, rfl, ow3, b3⟩
  obtain ⟨A3, k3, rfl, _, _⟩ := ow3.sees.len
  have BW3 := Lib.hid (B.call BW2.out b3)
  have S3 := Lib.hid ow3.sees
  clear b3 ow3 BW2 x0 x1 x2 x3 lx HLA
  obtain ⟨x0, x1, x2, x3, lx⟩ := H4.out _ BW3.out
  by_cases he : (Wd.lay ta a).2.2 = 0
  · obtain ⟨hp, ca, ea⟩ := Wd.lay_zero he
    rw [ea] at S3 ⊢
    simp only at S3 ⊢
    have HR3 := Lib.hid fun w' (h : Below w3.heap.size w3 w') => wdRead _ _ a (ta.word a) w' (S3.out.below h (Nat.le_refl _)) HU0.out.1 HU0.out.2 (Tr.word_range ta a HU0.out) (Tr.words_range ta (Wd.chk_ok ca).2.2 a)
    rw [Wd.read_lay ta a HU0.out.1 hp ca hsa] at HR3
    obtain ⟨xa, hxa⟩ : ∃ x, x = ta.word a := ⟨_, rfl⟩
    obtain ⟨la, hla⟩ : ∃ x, x = (ta.words a).length := ⟨_, rfl⟩
    rw [← hxa, ← hla] at HR3
    rw [← hxa, ← hla]
    clear hxa hla S3 he ea
    go_wp2_with fail
    refine (HR3.out _ (B.refl _)).mono ?_
    rintro _ w4 ⟨v4, rfl, at4, b4⟩
    obtain ⟨A4, k4, rfl, _⟩ := Tr.at_agg at4
    have BW4 := Lib.hid (B.call BW3.out b4)
    clear b4 BW3 x0 x1 x2 x3 lx HR3
    obtain ⟨x0, x1, x2, x3, lx⟩ := H4.out _ BW4.out
    go_wp2_with fail
    obtain ⟨w5, hw5⟩ : ∃ x, x = w4.alloc (.cells #[.int .i64 ta.plain.k, .int .i64 ta.plain.n, .string ta.plain.s, .slice A4 ta.plain.l.length k4] 58) := ⟨_, rfl⟩
    rw [← hw5]
    have B45 : Below w4.heap.size w4 w5 := by rw [hw5]; exact B.alloc (B.refl _) _
    obtain ⟨y0, y1, y2, y3⟩ : w5.cell? ⟨w4.heap.size, 0, none⟩ = some (.int .i64 ta.plain.k) ∧ w5.cell? ⟨w4.heap.size, 1, none⟩ = some (.int .i64 ta.plain.n) ∧ w5.cell? ⟨w4.heap.size, 2, none⟩ = some (.string ta.plain.s) ∧ w5.cell? ⟨w4.heap.size, 3, none⟩ = some (.slice A4 ta.plain.l.length k4) := by
      rw [hw5]
      have v0 := VB.new w4 58 #[.int .i64 ta.plain.k, .int .i64 ta.plain.n, .string ta.plain.s, .slice A4 ta.plain.l.length k4]
      exact ⟨v0.cell 0, v0.cell 1, v0.cell 2, v0.cell 3⟩
    have BW5 := Lib.hid (B.call BW4.out B45)
    have at5 := keepT at4 B45
    clear hw5 B45 at4 BW4 x0 x1 x2 x3 lx
    obtain ⟨x0, x1, x2, x3, lx⟩ := H4.out _ BW5.out
    have HP5 := Lib.hid fun w' (h : Below w5.heap.size w5 w') => HPA.out hca w' (HBW.out _ (B.call BW5.out h))
    have hsame : ta.plain.same ta.plain = true := (Tr.same_iff _ _).2 rfl
    replace hsame := Lib.hid hsame
    go_region_held3 (fun w' => Below w5.heap.size w5 w' ∧ w'.cell? ⟨w.heap.size, 0, none⟩ = some (.int .i64 ta.k) ∧ w'.cell? ⟨w.heap.size, 1, none⟩ = some (.int .i64 ta.n) ∧ w'.cell? ⟨w.heap.size, 2, none⟩ = some (.string ta.s) ∧ w'.cell? ⟨w.heap.size, 3, none⟩ = some (.slice A ta.l.length cA) ∧ w'.cell? ⟨w4.heap.size, 0, none⟩ = some (.int .i64 ta.plain.k) ∧ w'.cell? ⟨w4.heap.size, 1, none⟩ = some (.int .i64 ta.plain.n) ∧ w'.cell? ⟨w4.heap.size, 2, none⟩ = some (.string ta.plain.s) ∧ w'.cell? ⟨w4.heap.size, 3, none⟩ = some (.slice A4 ta.plain.l.length k4))
      (first
        | exact ⟨(B.refl w5).drew, x0, x1, x2, x3, y0, y1, y2, y3⟩
        | (go_split_ands; exact ⟨B.call (by assumption) bS, cellK bS (by assumption), cellK bS (by assumption), cellK bS (by assumption), cellK bS (by assumption), cellK bS (by assumption), cellK bS (by assumption), cellK bS (by assumption), cellK bS (by assumption)⟩)
        | (go_split_ands; exact ⟨B.call (by assumption) bA, cellK bA (by assumption), cellK bA (by assumption), cellK bA (by assumption), cellK bA (by assumption), cellK bA (by assumption), cellK bA (by assumption), cellK bA (by assumption), cellK bA (by assumption)⟩))
      ((first
        | (go_at_call 41; go_split_ands; with_reducible refine (HP5.out _ (by assumption)).mono ?_; rintro _ wA ⟨vA, rfl, atA, bA⟩; obtain ⟨A6, k6, rfl, _⟩ := Tr.at_agg atA)
        | (go_at_call 36; go_split_ands; with_reducible refine (sameValueN ta.plain ta.plain _ _ _ ⟨_, keepT (keepT at5 (by assumption)) bA⟩ ⟨_, atA⟩ _ hsame.out).mono ?_; rintro _ wS ⟨rfl, bS⟩)))
    go_split_ands
    have BW6 := Lib.hid (B.call BW5.out (show Below w5.heap.size w5 wS by assumption))
    go_wp2_with fail

    refine (HRL.out _ (HBW.out _ BW6.out)).mono ?_
    rintro _ w7 ⟨v7, rfl, at7, b7⟩
    have BW7 := Lib.hid (B.call BW6.out b7)
    have h7 := Tr.at_agg at7
    obtain ⟨A7, k7, rfl, _⟩ := h7
    clear b7
    by_cases hf : fy = 0
    · subst hf
      obtain ⟨hlay, hpl⟩ := Wd.lay_read ls a u ty HU0.out.1 HLR.out HU.out hr.out
      have hcnt := Wd.read_count HLR.out HU.out hr.out
      go_wp2_with fail
      obtain ⟨w8, hw8⟩ : ∃ x, x = w7.alloc (.cells #[.int .i64 ty.k, .int .i64 ty.n, .string ty.s, .slice A7 ty.l.length k7] 58) := ⟨_, rfl⟩
      rw [← hw8]
      have B78 : Below w7.heap.size w7 w8 := by rw [hw8]; exact B.alloc (B.refl _) _
      have H7 : ∀ w', Below w8.heap.size w8 w' → w'.cell? ⟨w7.heap.size, 0, none⟩ = some (.int .i64 ty.k) ∧ w'.cell? ⟨w7.heap.size, 1, none⟩ = some (.int .i64 ty.n) ∧ w'.cell? ⟨w7.heap.size, 2, none⟩ = some (.string ty.s) ∧ w'.cell? ⟨w7.heap.size, 3, none⟩ = some (.slice A7 ty.l.length k7) := by
        intro w' hb
        rw [hw8] at hb
        have v0 := (VB.new w7 58 #[.int .i64 ty.k, .int .i64 ty.n, .string ty.s, .slice A7 ty.l.length k7]).call hb
        exact ⟨v0.cell 0, v0.cell 1, v0.cell 2, v0.cell 3⟩
      replace H7 := Lib.hid H7
      have BW8 := Lib.hid (B.call BW7.out B78)
      have at8 := keepT at7 B78
      clear hw8 B78 at7 BW7
      have HL8 := wdLay ty _ a w8 (Tr.at_mono at8 (fun _ _ h => h.2.1)) (by omega) (by have := Tr.deep_le ty; omega) HU0.out.1 HU0.out.2
      rw [hlay] at HL8
      obtain ⟨x0, x1, x2, x3⟩ := H7.out _ (B.refl _)
      go_wp2_with fail
      refine HL8.mono ?_
      rintro _ w9 ⟨o9, rfl, ow9, b9⟩
      have s9 := ow9.sees.len
      obtain ⟨A9, k9, rfl, _, _⟩ := s9
      have S9 := Lib.hid ow9.sees
      obtain ⟨y0, y1, y2, y3⟩ := H7.out _ b9
      have BW9 := Lib.hid (B.call BW8.out b9)
      have at9 := keepT at8 b9
      clear b9 ow9 BW8 at8 HL8 x0 x1 x2 x3 H7
      have HSC := Lib.hid fun w' (h : Below w9.heap.size w9 w') => sameCells_true _ _ _ w' (S9.out.below h (Nat.le_refl _)) (HSL.out w' (HBW.out _ (B.call BW9.out h)))
      have HP9 := Lib.hid fun w' (h : Below w9.heap.size w9 w') => plainValue ty ty (List.mem_singleton.2 rfl) _ w' _ (keepT at9 h) (fun _ _ hl => hl.2.1) (by omega)
      rw [hpl] at HP9
      have hsame : ty.same ty = true := (Tr.same_iff _ _).2 rfl
      replace hsame := Lib.hid hsame
      have HF := Lib.hid (HBW.out _ BW9.out)
      rw [hnl.out.symm] at HSC ⊢
      clear S9 hlay hcnt
      go_wp2_with fail
      go_region_held3 (fun w' => Below w9.heap.size w9 w' ∧ w'.cell? ⟨w7.heap.size, 0, none⟩ = some (.int .i64 ty.k) ∧ w'.cell? ⟨w7.heap.size, 1, none⟩ = some (.int .i64 ty.n) ∧ w'.cell? ⟨w7.heap.size, 2, none⟩ = some (.string ty.s) ∧ w'.cell? ⟨w7.heap.size, 3, none⟩ = some (.slice A7 ty.l.length k7))
        (first
          | exact ⟨(B.refl w9).drew, y0, y1, y2, y3⟩
          | (go_split_ands; exact ⟨B.call (by assumption) bS, cellK bS (by assumption), cellK bS (by assumption), cellK bS (by assumption), cellK bS (by assumption)⟩)
          | (go_split_ands; exact ⟨B.call (by assumption) bA, cellK bA (by assumption), cellK bA (by assumption), cellK bA (by assumption), cellK bA (by assumption)⟩)
          | (go_split_ands; exact ⟨B.call (by assumption) bC, cellK bC (by assumption), cellK bC (by assumption), cellK bC (by assumption), cellK bC (by assumption)⟩))
        ((first
          | (go_at_call 21; go_split_ands; with_reducible refine (HSC.out _ (by assumption)).mono ?_; rintro _ wC ⟨rfl, bC⟩)
          | (go_at_call 41; go_split_ands; with_reducible refine (HP9.out _ (by assumption)).mono ?_; rintro _ wA ⟨vA, rfl, atA, bA⟩; obtain ⟨A6, k6, rfl, _⟩ := Tr.at_agg atA)
          | (go_at_call 36; go_split_ands; with_reducible refine (sameValueN ty ty _ _ _ ⟨_, keepT (keepT at9 (by assumption)) bA⟩ ⟨_, atA⟩ _ hsame.out).mono ?_; rintro _ wS ⟨rfl, bS⟩)))
      all_goals go_wp2_with fail
      all_goals go_returns
      all_goals go_split_ands
      all_goals exact ⟨rfl, B.call HF.out (by assumption)⟩
    · go_wp2_with fail
      go_returns
      exact ⟨rfl, B.alloc (HBW.out _ BW7.out) _⟩
  · go_wp2_with fail
    refine (HRL.out _ (HBW.out _ BW3.out)).mono ?_
    rintro _ w7 ⟨v7, rfl, at7, b7⟩
    have BW7 := Lib.hid (B.call BW3.out b7)
    have h7 := Tr.at_agg at7
    obtain ⟨A7, k7, rfl, _⟩ := h7
    clear b7
    by_cases hf : fy = 0
    · subst hf
      obtain ⟨hlay, hpl⟩ := Wd.lay_read ls a u ty HU0.out.1 HLR.out HU.out hr.out
      have hcnt := Wd.read_count HLR.out HU.out hr.out
      go_wp2_with fail
      obtain ⟨w8, hw8⟩ : ∃ x, x = w7.alloc (.cells #[.int .i64 ty.k, .int .i64 ty.n, .string ty.s, .slice A7 ty.l.length k7] 58) := ⟨_, rfl⟩
      rw [← hw8]
      have B78 : Below w7.heap.size w7 w8 := by rw [hw8]; exact B.alloc (B.refl _) _
      have H7 : ∀ w', Below w8.heap.size w8 w' → w'.cell? ⟨w7.heap.size, 0, none⟩ = some (.int .i64 ty.k) ∧ w'.cell? ⟨w7.heap.size, 1, none⟩ = some (.int .i64 ty.n) ∧ w'.cell? ⟨w7.heap.size, 2, none⟩ = some (.string ty.s) ∧ w'.cell? ⟨w7.heap.size, 3, none⟩ = some (.slice A7 ty.l.length k7) := by
        intro w' hb
        rw [hw8] at hb
        have v0 := (VB.new w7 58 #[.int .i64 ty.k, .int .i64 ty.n, .string ty.s, .slice A7 ty.l.length k7]).call hb
        exact ⟨v0.cell 0, v0.cell 1, v0.cell 2, v0.cell 3⟩
      replace H7 := Lib.hid H7
      have BW8 := Lib.hid (B.call BW7.out B78)
      have at8 := keepT at7 B78
      clear hw8 B78 at7 BW7
      have HL8 := wdLay ty _ a w8 (Tr.at_mono at8 (fun _ _ h => h.2.1)) (by omega) (by have := Tr.deep_le ty; omega) HU0.out.1 HU0.out.2
      rw [hlay] at HL8
      obtain ⟨x0, x1, x2, x3⟩ := H7.out _ (B.refl _)
      go_wp2_with fail
      refine HL8.mono ?_
      rintro _ w9 ⟨o9, rfl, ow9, b9⟩
      have s9 := ow9.sees.len
      obtain ⟨A9, k9, rfl, _, _⟩ := s9
      have S9 := Lib.hid ow9.sees
      obtain ⟨y0, y1, y2, y3⟩ := H7.out _ b9
      have BW9 := Lib.hid (B.call BW8.out b9)
      have at9 := keepT at8 b9
      clear b9 ow9 BW8 at8 HL8 x0 x1 x2 x3 H7
      have HSC := Lib.hid fun w' (h : Below w9.heap.size w9 w') => sameCells_true _ _ _ w' (S9.out.below h (Nat.le_refl _)) (HSL.out w' (HBW.out _ (B.call BW9.out h)))
      have HP9 := Lib.hid fun w' (h : Below w9.heap.size w9 w') => plainValue ty ty (List.mem_singleton.2 rfl) _ w' _ (keepT at9 h) (fun _ _ hl => hl.2.1) (by omega)
      rw [hpl] at HP9
      have hsame : ty.same ty = true := (Tr.same_iff _ _).2 rfl
      replace hsame := Lib.hid hsame
      have HF := Lib.hid (HBW.out _ BW9.out)
      rw [hnl.out.symm] at HSC ⊢
      clear S9 hlay hcnt
      go_wp2_with fail
      go_region_held3 (fun w' => Below w9.heap.size w9 w' ∧ w'.cell? ⟨w7.heap.size, 0, none⟩ = some (.int .i64 ty.k) ∧ w'.cell? ⟨w7.heap.size, 1, none⟩ = some (.int .i64 ty.n) ∧ w'.cell? ⟨w7.heap.size, 2, none⟩ = some (.string ty.s) ∧ w'.cell? ⟨w7.heap.size, 3, none⟩ = some (.slice A7 ty.l.length k7))
        (first
          | exact ⟨(B.refl w9).drew, y0, y1, y2, y3⟩
          | (go_split_ands; exact ⟨B.call (by assumption) bS, cellK bS (by assumption), cellK bS (by assumption), cellK bS (by assumption), cellK bS (by assumption)⟩)
          | (go_split_ands; exact ⟨B.call (by assumption) bA, cellK bA (by assumption), cellK bA (by assumption), cellK bA (by assumption), cellK bA (by assumption)⟩)
          | (go_split_ands; exact ⟨B.call (by assumption) bC, cellK bC (by assumption), cellK bC (by assumption), cellK bC (by assumption), cellK bC (by assumption)⟩))
        ((first
          | (go_at_call 21; go_split_ands; with_reducible refine (HSC.out _ (by assumption)).mono ?_; rintro _ wC ⟨rfl, bC⟩)
          | (go_at_call 41; go_split_ands; with_reducible refine (HP9.out _ (by assumption)).mono ?_; rintro _ wA ⟨vA, rfl, atA, bA⟩; obtain ⟨A6, k6, rfl, _⟩ := Tr.at_agg atA)
          | (go_at_call 36; go_split_ands; with_reducible refine (sameValueN ty ty _ _ _ ⟨_, keepT (keepT at9 (by assumption)) bA⟩ ⟨_, atA⟩ _ hsame.out).mono ?_; rintro _ wS ⟨rfl, bS⟩)))
      all_goals go_wp2_with fail
      all_goals go_returns
      all_goals go_split_ands
      all_goals exact ⟨rfl, B.call HF.out (by assumption)⟩
    · go_wp2_with fail
      go_returns
      exact ⟨rfl, B.alloc (HBW.out _ BW7.out) _⟩

end Go.Proofs.Ytgohnekaolgblaa
