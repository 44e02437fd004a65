/- reader.value: things and functions (printed by wip/gen_rdval.py). -/
import Derived.Test.YtgohnekaolgblaaRdValO
namespace Go.Proofs.Ytgohnekaolgblaa
open Go.RowKit

set_option maxHeartbeats 8000000 in
set_option maxRecDepth 100000 in
theorem val_fields4e (u : Int) (d : Nat) (next many : Nat) (b off : Nat) (ls : List Int) (a : Int) (br : Nat) (w : World) (h : Int) (n : Int) (s : Nat) (wn : Nat) (hof : Wd.of u = (0, false)) (hua : u = (a + 4 * next) % 4294967296) (hh : ls[next]? = some h)
    (hun : Wd.unhead h = (1, n, (s : Int), true)) (hwn : Wd.words h = ((wn : Int), true)) (hfit : next + wn ≤ ls.length) (hw1 : 1 ≤ wn) (hw5 : wn ≤ 5000) (hvc : ls.length ≤ (next + 1)) (hvm : (next + 1) ≤ 9223372036854775807) (own : List Int) (hol : own.length = wn - 1) (hou : Hid (∀ x ∈ own, 0 ≤ x ∧ x < 4294967296)) (B : Nat) (hbB : b < B) (hB : B ≤ br) (f : Int → Nat → Nat → Option (Tr × Nat × Nat))
    (hr : VB w br 114 (Rd5 (.slice (some ⟨b, off, none⟩) ls.length (next + 1)) a next many false)) (hc : w.cell? ⟨b, off + next, none⟩ = some (.int .u32 h)) (_hbr : ¬ b = br) (hbw : b < w.heap.size) (hu : 0 ≤ u ∧ u < 4294967296) (hh0 : 0 ≤ h ∧ h < 4294967296) (hd : d ≤ 200) (hm : many < 16384) (hn : ls.length ≤ 1048576)
    : Calls Try.prog 80 #[.pointer (some ⟨br, 0, none⟩), .int .u32 u, .int .i64 (d : Int)] w fun e w' => ∃ ts vL nx m bd, e = .returned (.agg #[.int .i64 4, .int .i64 n, .string ⟨#[]⟩, vL]) ∧ RowT (w.heap.size + 2) w' vL ts ∧ VB w' br 114 (Rd5 (.slice (some ⟨b, off, none⟩) ls.length (next + 1)) a nx m bd) ∧ GrowS (fun k => k = br) w w' ∧ AccPost (Wd.rdAcc f own [] (next + wn) (many + 1)) ts nx m bd := by
  have HO : ∀ w, Calls Try.prog 44 #[.int .u32 u] w fun e w' => e = .returned (.tuple #[.int .i64 0, .bool false]) ∧ w' = w := fun w => by
    have h := wdOf u w hu.1 hu.2
    rw [hof] at h
    exact h
  have HU : ∀ w, Calls Try.prog 48 #[.int .u32 h] w fun e w' => e = .returned (.tuple #[.int .i64 1, .int .i64 n, .int .i64 (s : Int), .bool true]) ∧ w' = w := fun w => by
    have h := wdUnhead h w hh0.1 hh0.2
    rw [hun] at h
    exact h
  have HW : ∀ w, Calls Try.prog 50 #[.int .u32 h] w fun e w' => e = .returned (.tuple #[.int .i64 (wn : Int), .bool true]) ∧ w' = w := fun w => by
    have h := wdWords h w hh0.1 hh0.2
    rw [hwn] at h
    exact h
  obtain ⟨hlt, -⟩ := List.getElem?_eq_some_iff.1 hh
  obtain ⟨iV, hiV, hzV, hsV, hbV⟩ := info_parts (show (Try.prog.info? 58).map (fun i => (i.zero, i.size, i.bytes)) = some (some (.agg #[.int .i64 0, .int .i64 0, .string ⟨#[]⟩, .slice none 0 0]), 4, 56) by kernel_rfl)
  have r0 := hr.cell 0
  have r1 := hr.cell 1
  have r2 := hr.cell 2
  have f2 := hr.free 2
  have r3 := hr.cell 3
  have f3 := hr.free 3
  have r4 := hr.cell 4
  have f4 := hr.free 4
  have lr := hr.lt
  simp [Rd5] at r0 r1 r2 r3 r4
  have HR := Lib.hid hr
  replace HO := Lib.hid HO
  replace HU := Lib.hid HU
  replace HW := Lib.hid HW
  clear hr hof hun hwn hh
  subst hua
  clear hu
  obtain rfl : wn = 1 := by omega
  obtain rfl : own = [] := List.eq_nil_of_length_eq_zero (by omega)
  go_enter Try.func80, Try.ntmps80
  go_wp2_with fail
  refine (HO.out _).mono ?_
  rintro _ w1 ⟨rfl, hw1⟩
  subst hw1
  clear HO
  go_wp2_with fail
  refine (HU.out _).mono ?_
  rintro _ w1 ⟨rfl, hw1⟩
  subst hw1
  clear HU
  go_wp2_with fail
  refine (HW.out _).mono ?_
  rintro _ w1 ⟨rfl, hw1⟩
  subst hw1
  clear HW hh0
  go_wp2_with fail
  have R3 : VB (((w.setCell ⟨br, 3, none⟩ (.int .i64 (many + 1))).setCell ⟨br, 2, none⟩ (.int .i64 (next + 1))).alloc (.cells #[.int .i64 0, .int .i64 0, .string ⟨#[]⟩, .slice none 0 0] 58)) br 114 (Rd5 (.slice (some ⟨b, off, none⟩) ls.length (next + 1)) a (next + 1) (many + 1) false) := by
    have := ((HR.out.set 3 (.int .i64 (many + 1))).set 2 (.int .i64 (next + 1))).alloc (.cells #[.int .i64 0, .int .i64 0, .string ⟨#[]⟩, .slice none 0 0] 58)
    simpa [Rd5] using this
  have G3 : GrowS (fun k => k = br) w (((w.setCell ⟨br, 3, none⟩ (.int .i64 (many + 1))).setCell ⟨br, 2, none⟩ (.int .i64 (next + 1))).alloc (.cells #[.int .i64 0, .int .i64 0, .string ⟨#[]⟩, .slice none 0 0] 58)) := (((GrowS.refl (fun k => k = br) w).set (b := br) (i := 3) rfl (.int .i64 (many + 1))).set (b := br) (i := 2) rfl (.int .i64 (next + 1))).alloc (.cells #[.int .i64 0, .int .i64 0, .string ⟨#[]⟩, .slice none 0 0] 58)
  have X3 : VB (((w.setCell ⟨br, 3, none⟩ (.int .i64 (many + 1))).setCell ⟨br, 2, none⟩ (.int .i64 (next + 1))).alloc (.cells #[.int .i64 0, .int .i64 0, .string ⟨#[]⟩, .slice none 0 0] 58)) w.heap.size 58 #[.int .i64 0, .int .i64 0, .string ⟨#[]⟩, .slice none 0 0] := by
    have := VB.new ((w.setCell ⟨br, 3, none⟩ (.int .i64 (many + 1))).setCell ⟨br, 2, none⟩ (.int .i64 (next + 1))) 58 #[.int .i64 0, .int .i64 0, .string ⟨#[]⟩, .slice none 0 0]
    simpa using this
  have V3 : VB ((((w.setCell ⟨br, 3, none⟩ (.int .i64 (many + 1))).setCell ⟨br, 2, none⟩ (.int .i64 (next + 1))).alloc (.cells #[.int .i64 0, .int .i64 0, .string ⟨#[]⟩, .slice none 0 0] 58)).alloc (.cells #[.int .i64 4, .int .i64 n, .string ⟨#[]⟩, .slice none 0 0] 58)) (w.heap.size + 1) 58 #[.int .i64 4, .int .i64 n, .string ⟨#[]⟩, .slice none 0 0] := by
    have := VB.new (((w.setCell ⟨br, 3, none⟩ (.int .i64 (many + 1))).setCell ⟨br, 2, none⟩ (.int .i64 (next + 1))).alloc (.cells #[.int .i64 0, .int .i64 0, .string ⟨#[]⟩, .slice none 0 0] 58)) 58 #[.int .i64 4, .int .i64 n, .string ⟨#[]⟩, .slice none 0 0]
    simpa using this
  have R4 := Lib.hid (R3.alloc (.cells #[.int .i64 4, .int .i64 n, .string ⟨#[]⟩, .slice none 0 0] 58))
  have G4 := Lib.hid (G3.alloc (.cells #[.int .i64 4, .int .i64 n, .string ⟨#[]⟩, .slice none 0 0] 58))
  have X4 := Lib.hid (X3.alloc (.cells #[.int .i64 4, .int .i64 n, .string ⟨#[]⟩, .slice none 0 0] 58))
  replace V3 := Lib.hid V3
  clear R3 G3 X3 HR r0 r1 r2 r3 r4 f2 f3 f4 hw5 hvc hvm hlt hc
  have wl := V3.out.lt
  go_loopw [160] (fun q wr => q = .int .i64 0 ∧ VB wr br 114 (Rd5 (.slice (some ⟨b, off, none⟩) ls.length (next + 1)) a (next + 1) (many + 1) false) ∧ VB wr (w.heap.size + 1) 58 #[.int .i64 4, .int .i64 n, .string ⟨#[]⟩, .slice none 0 0] ∧ VB wr w.heap.size 58 #[.int .i64 0, .int .i64 0, .string ⟨#[]⟩, .slice none 0 0] ∧ GrowS (fun k => k = br) w wr)
    (fun q _ => 1 - (intOf q).toNat)
  case atStart => exact ⟨rfl, R4.out, V3.out, X4.out, G4.out⟩
  case round =>
    obtain ⟨rfl, r5, v5, x5, g5⟩ := hrel
    clear R4 V3 X4 G4
    obtain ⟨ts, hts⟩ : ∃ ts : List Tr, ts = [] := ⟨_, rfl⟩
    obtain ⟨AL, hAL⟩ : ∃ A : Option Addr, A = none := ⟨_, rfl⟩
    obtain ⟨cL, hcL⟩ : ∃ c : Nat, c = 0 := ⟨_, rfl⟩
    obtain ⟨nx, hnx⟩ : ∃ c : Nat, c = next + 1 := ⟨_, rfl⟩
    obtain ⟨m, hmm⟩ : ∃ c : Nat, c = many + 1 := ⟨_, rfl⟩
    have row5 : RowT (w.heap.size + 2) wr (.slice AL ts.length cL) ts := by subst hts hAL hcL; exact RowT.nil _ _
    have hacc : AccPost (Wd.rdAcc f [] [] (next + 1) (many + 1)) ts nx m false := by subst hts hnx hmm; exact ⟨rfl, rfl, rfl, rfl⟩
    have v5' : VB wr (w.heap.size + 1) 58 #[.int .i64 4, .int .i64 n, .string ⟨#[]⟩, .slice AL ts.length cL] := by subst hts hAL hcL; exact v5
    have r5' : VB wr br 114 (Rd5 (.slice (some ⟨b, off, none⟩) ls.length (next + 1)) a nx m false) := by subst hnx hmm; exact r5
    clear r5
    have r5 := r5'
    clear r5'
    clear v5 hts hAL hcL hnx hmm
    have v5 := v5'
    clear v5'
    have w0 := v5.cell 0
    have w1 := v5.cell 1
    have w2 := v5.cell 2
    have w3 := v5.cell 3
    have wl := v5.lt
    have x0 := x5.cell 0
    have x1 := x5.cell 1
    have x2 := x5.cell 2
    have x3 := x5.cell 3
    have fx0 := x5.free 0
    have fx1 := x5.free 1
    have fx2 := x5.free 2
    have fx3 := x5.free 3
    have lx := x5.lt
    simp at w0 w1 w2 w3 x0 x1 x2 x3
    replace row5 := Lib.hid row5
    replace r5 := Lib.hid r5
    replace g5 := Lib.hid g5
    replace hacc := Lib.hid hacc
    clear v5 x5
    go_wp2_with fail
    refine bodyPost_ret (v := .agg #[.int .i64 4, .int .i64 n, .string ⟨#[]⟩, .slice AL ts.length cL]) (by simp [results, Try.results80, go_sem, x0, x1, x2, x3]) rfl ⟨ts, _, nx, m, _, rfl, ?_, ?_, ?_, hacc.out⟩
    · exact row5.out.keep (by simp [World.setCell]) (fun k hk _ => (Below.heap_setCell _ _ _ k (by simp only; omega)).trans ((Below.heap_setCell _ _ _ k (by simp only; omega)).trans ((Below.heap_setCell _ _ _ k (by simp only; omega)).trans (Below.heap_setCell _ _ _ k (by simp only; omega)))))
    · exact (((r5.out.far _ _ (by omega) _).far _ _ (by omega) _).far _ _ (by omega) _).far _ _ (by omega) _
    · exact (((g5.out.setNew (Nat.le_refl _) _).setNew (Nat.le_refl _) _).setNew (Nat.le_refl _) _).setNew (Nat.le_refl _) _

end Go.Proofs.Ytgohnekaolgblaa
