/- reader.value: things and functions (printed by wip/gen_rdval.py). -/
import Derived.Test.YtgohnekaolgblaaRdValO
namespace Go.Proofs.Ytgohnekaolgblaa
open Go.RowKit

set_option maxHeartbeats 8000000 in
set_option maxRecDepth 100000 in
theorem val_fields3 (u : Int) (d : Nat) (next many : Nat) (b off : Nat) (ls : List Int) (vc : Nat) (a : Int) (br : Nat) (w : World) (h : Int) (n : Int) (s : Nat) (wn : Nat) (hof : Wd.of u = (0, false)) (hua : u = (a + 4 * next) % 4294967296) (hh : ls[next]? = some h)
    (hun : Wd.unhead h = (0, n, (s : Int), true)) (hwn : Wd.words h = ((wn : Int), true)) (hfit : next + wn ≤ ls.length) (hw1 : 1 ≤ wn) (hw5 : wn ≤ 5000) (hvc : ls.length ≤ vc) (_hvm : vc ≤ 9223372036854775807) (hcq : ¬ vc = next + 1) (hs0 : 0 < s) (own : List Int) (hol : own.length = wn - 1) (hou : Hid (∀ x ∈ own, 0 ≤ x ∧ x < 4294967296)) (hoc : Hid (∀ j (hj : j < own.length), w.cell? ⟨b, off + (next + 1) + j, none⟩ = some (.int .u32 own[j]))) (B : Nat) (hbB : b < B) (hB : B ≤ br) (f : Int → Nat → Nat → Option (Tr × Nat × Nat)) (g : Nat) (hdg : d + 1 + g = 201) (hf : Hid (f = fun u n m => Wd.rd ls a g u n m)) (HI : Hid (ValHyp g)) (HB : Hid (∀ u n m t n' m', n ≤ ls.length → f u n m = some (t, n', m') → n' ≤ ls.length ∧ m' ≤ 16384)) (HS : Hid (SeesB .u32 B w (.slice (some ⟨b, off, none⟩) ls.length vc) ls)) (HL : Hid (∀ x ∈ ls, 0 ≤ x ∧ x < 4294967296))
    (hr : VB w br 114 (Rd5 (.slice (some ⟨b, off, none⟩) ls.length vc) a next many false)) (hc : w.cell? ⟨b, off + next, none⟩ = some (.int .u32 h)) (hbr : ¬ b = br) (hbw : b < w.heap.size) (hu : 0 ≤ u ∧ u < 4294967296) (hh0 : 0 ≤ h ∧ h < 4294967296) (_hd : d ≤ 200) (hm : many < 16384) (hn : ls.length ≤ 1048576)
    : Calls Try.prog 80 #[.pointer (some ⟨br, 0, none⟩), .int .u32 u, .int .i64 (d : Int)] w fun e w' => ∃ ts vL nx m bd, e = .returned (.agg #[.int .i64 3, .int .i64 n, .string ⟨#[]⟩, vL]) ∧ RowT (w.heap.size + 2) w' vL ts ∧ VB w' br 114 (Rd5 (.slice (some ⟨b, off, none⟩) ls.length vc) a nx m bd) ∧ GrowS (fun k => k = br) w w' ∧ AccPost (Wd.rdAcc f own [] (next + wn) (many + 1)) ts nx m bd := by
  have HO : ∀ w, Calls Try.prog 44 #[.int .u32 u] w fun e w' => e = .returned (.tuple #[.int .i64 0, .bool false]) ∧ w' = w := fun w => by
    have h := wdOf u w hu.1 hu.2
    rw [hof] at h
    exact h
  have HU : ∀ w, Calls Try.prog 48 #[.int .u32 h] w fun e w' => e = .returned (.tuple #[.int .i64 0, .int .i64 n, .int .i64 (s : Int), .bool true]) ∧ w' = w := fun w => by
    have h := wdUnhead h w hh0.1 hh0.2
    rw [hun] at h
    exact h
  have HW : ∀ w, Calls Try.prog 50 #[.int .u32 h] w fun e w' => e = .returned (.tuple #[.int .i64 (wn : Int), .bool true]) ∧ w' = w := fun w => by
    have h := wdWords h w hh0.1 hh0.2
    rw [hwn] at h
    exact h
  obtain ⟨hlt, -⟩ := List.getElem?_eq_some_iff.1 hh
  obtain ⟨iV, hiV, hzV, hsV, hbV⟩ := info_parts (show (Try.prog.info? 58).map (fun i => (i.zero, i.size, i.bytes)) = some (some (.agg #[.int .i64 0, .int .i64 0, .string ⟨#[]⟩, .slice none 0 0]), 4, 56) by kernel_rfl)
  have r0 := hr.cell 0
  have r1 := hr.cell 1
  have r2 := hr.cell 2
  have f2 := hr.free 2
  have r3 := hr.cell 3
  have f3 := hr.free 3
  have r4 := hr.cell 4
  have f4 := hr.free 4
  have lr := hr.lt
  simp [Rd5] at r0 r1 r2 r3 r4
  have HR := Lib.hid hr
  replace HO := Lib.hid HO
  replace HU := Lib.hid HU
  replace HW := Lib.hid HW
  clear hr hof hun hwn hh
  subst hua
  clear hu
  have hs0z : ((s : Int) == 0) = false := by simp; omega
  go_enter Try.func80, Try.ntmps80
  go_wp2_with fail
  refine (HO.out _).mono ?_
  rintro _ w1 ⟨rfl, hw1⟩
  subst hw1
  clear HO
  go_wp2_with fail
  refine (HU.out _).mono ?_
  rintro _ w1 ⟨rfl, hw1⟩
  subst hw1
  clear HU
  go_wp2_with fail
  refine (HW.out _).mono ?_
  rintro _ w1 ⟨rfl, hw1⟩
  subst hw1
  clear HW hh0
  go_wp2_with fail
  have R3 : VB (((w.setCell ⟨br, 3, none⟩ (.int .i64 (many + 1))).setCell ⟨br, 2, none⟩ (.int .i64 (next + wn))).alloc (.cells #[.int .i64 0, .int .i64 0, .string ⟨#[]⟩, .slice none 0 0] 58)) br 114 (Rd5 (.slice (some ⟨b, off, none⟩) ls.length vc) a (next + wn) (many + 1) false) := by
    have := ((HR.out.set 3 (.int .i64 (many + 1))).set 2 (.int .i64 (next + wn))).alloc (.cells #[.int .i64 0, .int .i64 0, .string ⟨#[]⟩, .slice none 0 0] 58)
    simpa [Rd5] using this
  have G3 : GrowS (fun k => k = br) w (((w.setCell ⟨br, 3, none⟩ (.int .i64 (many + 1))).setCell ⟨br, 2, none⟩ (.int .i64 (next + wn))).alloc (.cells #[.int .i64 0, .int .i64 0, .string ⟨#[]⟩, .slice none 0 0] 58)) := (((GrowS.refl (fun k => k = br) w).set (b := br) (i := 3) rfl (.int .i64 (many + 1))).set (b := br) (i := 2) rfl (.int .i64 (next + wn))).alloc (.cells #[.int .i64 0, .int .i64 0, .string ⟨#[]⟩, .slice none 0 0] 58)
  have X3 : VB (((w.setCell ⟨br, 3, none⟩ (.int .i64 (many + 1))).setCell ⟨br, 2, none⟩ (.int .i64 (next + wn))).alloc (.cells #[.int .i64 0, .int .i64 0, .string ⟨#[]⟩, .slice none 0 0] 58)) w.heap.size 58 #[.int .i64 0, .int .i64 0, .string ⟨#[]⟩, .slice none 0 0] := by
    have := VB.new ((w.setCell ⟨br, 3, none⟩ (.int .i64 (many + 1))).setCell ⟨br, 2, none⟩ (.int .i64 (next + wn))) 58 #[.int .i64 0, .int .i64 0, .string ⟨#[]⟩, .slice none 0 0]
    simpa using this
  have V3 : VB ((((w.setCell ⟨br, 3, none⟩ (.int .i64 (many + 1))).setCell ⟨br, 2, none⟩ (.int .i64 (next + wn))).alloc (.cells #[.int .i64 0, .int .i64 0, .string ⟨#[]⟩, .slice none 0 0] 58)).alloc (.cells #[.int .i64 3, .int .i64 n, .string ⟨#[]⟩, .slice none 0 0] 58)) (w.heap.size + 1) 58 #[.int .i64 3, .int .i64 n, .string ⟨#[]⟩, .slice none 0 0] := by
    have := VB.new (((w.setCell ⟨br, 3, none⟩ (.int .i64 (many + 1))).setCell ⟨br, 2, none⟩ (.int .i64 (next + wn))).alloc (.cells #[.int .i64 0, .int .i64 0, .string ⟨#[]⟩, .slice none 0 0] 58)) 58 #[.int .i64 3, .int .i64 n, .string ⟨#[]⟩, .slice none 0 0]
    simpa using this
  have R4 := Lib.hid (R3.alloc (.cells #[.int .i64 3, .int .i64 n, .string ⟨#[]⟩, .slice none 0 0] 58))
  have G4 := Lib.hid (G3.alloc (.cells #[.int .i64 3, .int .i64 n, .string ⟨#[]⟩, .slice none 0 0] 58))
  have X4 := Lib.hid (X3.alloc (.cells #[.int .i64 3, .int .i64 n, .string ⟨#[]⟩, .slice none 0 0] 58))
  replace V3 := Lib.hid V3
  clear R3 G3 X3 HR r0 r1 r2 r3 r4 f2 f3 f4 hw5 hvc hlt hc hs0 hs0z
  rw [show next + wn - (next + 1) = wn - 1 by omega]
  go_loopw [160] (fun q wr => ∃ (i : Nat) (ts : List Tr) (vL : Value) (nx m : Nat) (bd : Bool), q = .int .i64 (i : Int) ∧ i ≤ own.length ∧ ts.length ≤ i ∧ VB wr br 114 (Rd5 (.slice (some ⟨b, off, none⟩) ls.length vc) a nx m bd) ∧ VB wr (w.heap.size + 1) 58 #[.int .i64 3, .int .i64 n, .string ⟨#[]⟩, vL] ∧ RowT (w.heap.size + 2) wr vL ts ∧ VB wr w.heap.size 58 #[.int .i64 0, .int .i64 0, .string ⟨#[]⟩, .slice none 0 0] ∧ GrowS (fun k => k = br) w wr ∧ w.heap.size + 2 ≤ wr.heap.size ∧ ((bd = true ∧ Wd.rdAcc f own [] (next + wn) (many + 1) = none) ∨ (bd = false ∧ Wd.rdAcc f own [] (next + wn) (many + 1) = Wd.rdAcc f (own.drop i) ts nx m ∧ nx ≤ ls.length ∧ m ≤ 16384)))
    (fun q _ => own.length - (intOf q).toNat)
  case atStart => exact ⟨0, [], _, next + wn, many + 1, false, rfl, by omega, by simp, R4.out, V3.out, RowT.nil _ _, X4.out, G4.out, by simp, .inr ⟨rfl, rfl, by omega, by omega⟩⟩
  case round =>
    obtain ⟨i, ts, vL, nx, m, bd, rfl, hi, htl, r5, v5, row5, x5, g5, hz5, hres⟩ := hrel
    obtain ⟨AL, cL, rfl, hcL1, hcL2⟩ := row5.len
    clear R4 V3 X4 G4
    by_cases hil : i < own.length
    · have c5 : wr.cell? ⟨b, off + (next + 1) + i, none⟩ = some (.int .u32 own[i]) := by
        rw [World.cell?_of_block (w := w) (g5.block b hbw hbr)]
        exact hoc.out i hil
      have q4 := r5.cell 4
      have q4f := r5.lt
      simp [Rd5] at q4
      cases bd
      · have hacc : Wd.rdAcc f own [] (next + wn) (many + 1) = Wd.rdAcc f (own.drop i) ts nx m ∧ nx ≤ ls.length ∧ m ≤ 16384 := by
          rcases hres with ⟨h, _⟩ | ⟨_, h⟩
          · cases h
          · exact h
        clear hres
        obtain ⟨hacc, hnx, hmm⟩ := hacc
        replace hacc := Lib.hid hacc
        have hoi := hou.out _ (List.getElem_mem hil)
        have l3 := v5.cell 3
        have l3f := v5.free 3
        have l3l := v5.lt
        simp at l3
        have hcall := HI.out own[i] (d + 1) nx m (some ⟨b, off, none⟩) ls vc a br B wr.drew hdg r5 (HS.out.grow (S := fun k => k = br) g5.drew (fun k hk e => by omega)) hB hoi HL.out hnx hmm hn
        rw [show ((d + 1 : Nat) : Int) = IntKind.i64.wrap ((d : Int) + 1) by rw [IntKind.wrap_i64]; omega] at hcall
        replace hcall := Lib.hid (hcall.mono fun e w' h => ValPost.out h)
        have hrlt := row5.lt
        have R5 := Lib.hid r5
        have V5 := Lib.hid v5
        have ROW := Lib.hid row5
        have X5 := Lib.hid x5
        have G5 := Lib.hid g5
        replace hrlt := Lib.hid hrlt
        replace hoi := Lib.hid hoi
        have haft : ∀ w6, GrowS (fun k => k = br) wr.drew w6 → w6.cell? ⟨w.heap.size + 1, 3, none⟩ = some (.slice AL ts.length cL) ∧ w6.frozen? ⟨w.heap.size + 1, 3, none⟩ = false ∧ w.heap.size + 1 < w6.heap.size :=
          fun w6 g6 => ⟨g6.cell (by omega) l3, (g6.frozen l3l (by omega)).trans l3f, Nat.lt_of_lt_of_le l3l g6.size⟩
        have haft7 : ∀ w6 ob w7, World.cell? w6 ⟨w.heap.size + 1, 3, none⟩ = some (.slice AL ts.length cL) → w6.frozen? ⟨w.heap.size + 1, 3, none⟩ = false → (w6.alloc ob).grownBy w7 (Value.slice AL ts.length cL).ownBlock → w7.cell? ⟨w.heap.size + 1, 3, none⟩ = some (.slice AL ts.length cL) ∧ w7.frozen? ⟨w.heap.size + 1, 3, none⟩ = false :=
          fun w6 ob w7 h1 h2 g7 => ⟨grCell g7 (cellA h1 _) (fun e => by have := (hrlt.out _ e.symm).1; omega), (grFrz g7 (cellA h1 _) (fun e => by have := (hrlt.out _ e.symm).1; omega)).trans ((frzA h1 _).trans h2)⟩
        have hrow6 : ∀ w6, GrowS (fun k => k = br) wr.drew w6 → RowT (w.heap.size + 2) w6 (.slice AL ts.length cL) ts := fun w6 g6 => row5.keep g6.size (fun k hk1 hk2 => g6.block k hk2 (by omega))
        have hb56 : (ts.length + 1) * 56 ≤ 140737488355328 ∧ ts.length + 1 ≤ maxLen := by unfold maxLen; omega
        replace haft := Lib.hid haft
        replace haft7 := Lib.hid haft7
        replace hrow6 := Lib.hid hrow6
        replace hb56 := Lib.hid hb56
        clear r5 v5 row5 x5 g5
        go_wp2_with fail
        go_region_law (first
          | (go_simp; go_at_call 80; with_reducible refine hcall.out.mono ?_; rintro _ w6 ⟨v6, t6, nx6, m6, bd6, rfl, at6, r6, g6, res6⟩; obtain ⟨A6, k6, rfl, _, _, _⟩ := Tr.at_agg at6; obtain ⟨l36, l35, l37⟩ := haft.out w6 g6)
          | (refine step_app4 (lo := w.heap.size + 2) (lo' := wr.drew.heap.size) Try.underlying56 hiV hzV (by rfl) hsV hbV rfl (.tmp 169) (.tmp 175) rfl rfl rfl (hrow6.out w6 g6) at6 hz5 (fun g hg => (hrlt.out g hg).2) (Nat.le_trans hz5 g6.size) hb56.out.1 hb56.out.2 ?_; intro v7 w7 row7 g7; obtain ⟨A7, k7, rfl, _, _⟩ := row7.len; rw [show (ts ++ [t6]).length = ts.length + 1 by simp] at row7 ⊢; obtain ⟨l38, l39⟩ := haft7.out w6 _ w7 l36 l35 g7))
        all_goals go_wp2_with fail
        all_goals go_roundw
        all_goals first
          | (simp only [intOf]; omega)
          | (refine ⟨i + 1, ts ++ [t6], .slice A7 (ts.length + 1) k7, nx6, m6, bd6, rfl, by omega, by (simp; omega), ?_, ?_, ?_, ?_, ?_, ?_, ?_⟩
             · exact ((VB.alloc r6 _).grownAny g7 (fun g hg => by have := (hrlt.out g hg).1; omega)).far _ _ (by omega) _
             · have := ((VB.alloc (GrowS.vb g6 (show VB wr.drew _ _ _ from V5.out) (by omega)) _).grownAny g7 (fun g hg => by have := (hrlt.out g hg).1; omega)).set 3 (.slice A7 (ts.length + 1) k7)
               simpa using this
             · exact row7.keep (by simp [World.setCell]) (fun k hk _ => Below.heap_setCell w7 ⟨w.heap.size + 1, 3, none⟩ _ k (by simp only; omega))
             · exact ((VB.alloc (GrowS.vb g6 (show VB wr.drew _ _ _ from X5.out) (by omega)) _).grownAny g7 (fun g hg => by have := (hrlt.out g hg).1; omega)).far _ _ (by omega) _
             · exact ((((G5.out.drew.trans g6).alloc _).grown g7 (fun g hg hlt => by have := (hrlt.out g hg).1; omega)).setNew (by omega) _)
             · have h1 := g6.size; have h2 := g7.size; simp [World.setCell] at h1 h2 ⊢; omega
             · have hfe : f own[i] nx m = Wd.rd ls a g own[i] nx m := by rw [hf.out]
               rw [← hfe] at res6
               cases hq : f own[i] nx m with
               | none =>
                 rw [hq] at res6
                 exact .inl ⟨res6, by rw [hacc.out, Wd.rdAcc_none hil hq]⟩
               | some r =>
                 obtain ⟨t', n', m'⟩ := r
                 rw [hq] at res6
                 obtain ⟨hb, rfl, rfl, rfl⟩ := res6
                 exact .inr ⟨hb, by rw [hacc.out, Wd.rdAcc_some hil hq], HB.out own[i] nx m t' n' m' hnx hq⟩)
      · have hacc : AccPost (Wd.rdAcc f own [] (next + wn) (many + 1)) ts nx m true := by
          rcases hres with ⟨_, h⟩ | ⟨h, _⟩
          · rw [h]; rfl
          · cases h
        clear hres
        have w0 := v5.cell 0
        have w1 := v5.cell 1
        have w2 := v5.cell 2
        have w3 := v5.cell 3
        have wl := v5.lt
        have x0 := x5.cell 0
        have x1 := x5.cell 1
        have x2 := x5.cell 2
        have x3 := x5.cell 3
        have fx0 := x5.free 0
        have fx1 := x5.free 1
        have fx2 := x5.free 2
        have fx3 := x5.free 3
        have lx := x5.lt
        simp at w0 w1 w2 w3 x0 x1 x2 x3
        replace row5 := Lib.hid row5
        replace r5 := Lib.hid r5
        replace g5 := Lib.hid g5
        replace hacc := Lib.hid hacc
        clear v5 x5
        go_wp2_with fail
        refine bodyPost_ret (v := .agg #[.int .i64 3, .int .i64 n, .string ⟨#[]⟩, .slice AL ts.length cL]) (by simp [results, Try.results80, go_sem, x0, x1, x2, x3]) rfl ⟨ts, _, nx, m, _, rfl, ?_, ?_, ?_, hacc.out⟩
        · exact row5.out.keep (by simp [World.setCell]) (fun k hk _ => (Below.heap_setCell _ _ _ k (by simp only; omega)).trans ((Below.heap_setCell _ _ _ k (by simp only; omega)).trans ((Below.heap_setCell _ _ _ k (by simp only; omega)).trans (Below.heap_setCell _ _ _ k (by simp only; omega)))))
        · exact (((r5.out.far _ _ (by omega) _).far _ _ (by omega) _).far _ _ (by omega) _).far _ _ (by omega) _
        · exact (((g5.out.setNew (Nat.le_refl _) _).setNew (Nat.le_refl _) _).setNew (Nat.le_refl _) _).setNew (Nat.le_refl _) _
    · have hacc : AccPost (Wd.rdAcc f own [] (next + wn) (many + 1)) ts nx m bd := by
        rcases hres with ⟨h1, h⟩ | ⟨h1, h, _⟩
        · rw [h]; exact h1
        · rw [h, List.drop_eq_nil_of_le (by omega)]; exact ⟨h1, rfl, rfl, rfl⟩
      clear hres
      have w0 := v5.cell 0
      have w1 := v5.cell 1
      have w2 := v5.cell 2
      have w3 := v5.cell 3
      have wl := v5.lt
      have x0 := x5.cell 0
      have x1 := x5.cell 1
      have x2 := x5.cell 2
      have x3 := x5.cell 3
      have fx0 := x5.free 0
      have fx1 := x5.free 1
      have fx2 := x5.free 2
      have fx3 := x5.free 3
      have lx := x5.lt
      simp at w0 w1 w2 w3 x0 x1 x2 x3
      replace row5 := Lib.hid row5
      replace r5 := Lib.hid r5
      replace g5 := Lib.hid g5
      replace hacc := Lib.hid hacc
      clear v5 x5
      go_wp2_with fail
      refine bodyPost_ret (v := .agg #[.int .i64 3, .int .i64 n, .string ⟨#[]⟩, .slice AL ts.length cL]) (by simp [results, Try.results80, go_sem, x0, x1, x2, x3]) rfl ⟨ts, _, nx, m, _, rfl, ?_, ?_, ?_, hacc.out⟩
      · exact row5.out.keep (by simp [World.setCell]) (fun k hk _ => (Below.heap_setCell _ _ _ k (by simp only; omega)).trans ((Below.heap_setCell _ _ _ k (by simp only; omega)).trans ((Below.heap_setCell _ _ _ k (by simp only; omega)).trans (Below.heap_setCell _ _ _ k (by simp only; omega)))))
      · exact (((r5.out.far _ _ (by omega) _).far _ _ (by omega) _).far _ _ (by omega) _).far _ _ (by omega) _
      · exact (((g5.out.setNew (Nat.le_refl _) _).setNew (Nat.le_refl _) _).setNew (Nat.le_refl _) _).setNew (Nat.le_refl _) _

end Go.Proofs.Ytgohnekaolgblaa
