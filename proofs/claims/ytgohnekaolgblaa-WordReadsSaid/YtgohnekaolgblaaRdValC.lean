/- reader.value: a text (printed by wip/gen_rdval.py). -/
import Derived.Test.YtgohnekaolgblaaRdValB
namespace Go.Proofs.Ytgohnekaolgblaa
open Go.RowKit

set_option maxHeartbeats 8000000 in
set_option maxRecDepth 100000 in
theorem val_text0 (u : Int) (d : Nat) (next many : Nat) (b off : Nat) (ls : List Int) (a : Int) (br : Nat) (w : World) (h : Int) (n : Int) (s : Nat) (wn : Nat) (hof : Wd.of u = (0, false)) (hua : u = (a + 4 * next) % 4294967296) (hh : ls[next]? = some h)
    (hun : Wd.unhead h = (2, n, (s : Int), true)) (hwn : Wd.words h = ((wn : Int), true)) (hfit : next + wn ≤ ls.length) (hw1 : 1 ≤ wn) (hw5 : wn ≤ 5000) (hvc : ls.length ≤ (next + 1)) (hvm : (next + 1) ≤ 9223372036854775807) (hs4 : s ≤ 4 * (wn - 1)) (own : List Int) (hol : own.length = wn - 1) (hou : Hid (∀ x ∈ own, 0 ≤ x ∧ x < 4294967296)) (B : Nat) (hbB : b < B) (hB : B ≤ br)
    (hr : VB w br 114 (Rd5 (.slice (some ⟨b, off, none⟩) ls.length (next + 1)) a next many false)) (hc : w.cell? ⟨b, off + next, none⟩ = some (.int .u32 h)) (hbr : ¬ b = br) (hbw : b < w.heap.size) (hu : 0 ≤ u ∧ u < 4294967296) (hh0 : 0 ≤ h ∧ h < 4294967296) (hd : d ≤ 200) (hm : many < 16384) (hn : ls.length ≤ 1048576)
    : Calls Try.prog 80 #[.pointer (some ⟨br, 0, none⟩), .int .u32 u, .int .i64 (d : Int)] w fun e w' => e = .returned (.agg #[.int .i64 2, .int .i64 0, .string (str ((Wd.bys own).take s)), .slice none 0 0]) ∧ VB w' br 114 (Rd5 (.slice (some ⟨b, off, none⟩) ls.length (next + 1)) a (next + wn) (many + 1) (Wd.late own s (4 * own.length))) ∧ GrowS (fun k => k = br) w w' := by
  have HO : ∀ w, Calls Try.prog 44 #[.int .u32 u] w fun e w' => e = .returned (.tuple #[.int .i64 0, .bool false]) ∧ w' = w := fun w => by
    have h := wdOf u w hu.1 hu.2
    rw [hof] at h
    exact h
  have HU : ∀ w, Calls Try.prog 48 #[.int .u32 h] w fun e w' => e = .returned (.tuple #[.int .i64 2, .int .i64 n, .int .i64 (s : Int), .bool true]) ∧ w' = w := fun w => by
    have h := wdUnhead h w hh0.1 hh0.2
    rw [hun] at h
    exact h
  have HW : ∀ w, Calls Try.prog 50 #[.int .u32 h] w fun e w' => e = .returned (.tuple #[.int .i64 (wn : Int), .bool true]) ∧ w' = w := fun w => by
    have h := wdWords h w hh0.1 hh0.2
    rw [hwn] at h
    exact h
  obtain ⟨hlt, -⟩ := List.getElem?_eq_some_iff.1 hh
  
  have r0 := hr.cell 0
  have r1 := hr.cell 1
  have r2 := hr.cell 2
  have f2 := hr.free 2
  have r3 := hr.cell 3
  have f3 := hr.free 3
  have r4 := hr.cell 4
  have f4 := hr.free 4
  have lr := hr.lt
  simp [Rd5] at r0 r1 r2 r3 r4
  have HR := Lib.hid hr
  replace HO := Lib.hid HO
  replace HU := Lib.hid HU
  replace HW := Lib.hid HW
  clear hr hof hun hwn hh
  subst hua
  clear hu
  go_enter Try.func80, Try.ntmps80
  go_wp2_with fail
  refine (HO.out _).mono ?_
  rintro _ w1 ⟨rfl, hw1⟩
  subst hw1
  clear HO
  go_wp2_with fail
  refine (HU.out _).mono ?_
  rintro _ w1 ⟨rfl, hw1⟩
  subst hw1
  clear HU
  go_wp2_with fail
  refine (HW.out _).mono ?_
  rintro _ w1 ⟨rfl, hw1⟩
  subst hw1
  clear HW hh0
  go_wp2_with fail
  have R3 : VB (((w.setCell ⟨br, 3, none⟩ (.int .i64 (many + 1))).setCell ⟨br, 2, none⟩ (.int .i64 (next + wn))).alloc (.cells #[.int .i64 0, .int .i64 0, .string ⟨#[]⟩, .slice none 0 0] 58)) br 114 (Rd5 (.slice (some ⟨b, off, none⟩) ls.length (next + 1)) a (next + wn) (many + 1) false) := by
    have := ((HR.out.set 3 (.int .i64 (many + 1))).set 2 (.int .i64 (next + wn))).alloc (.cells #[.int .i64 0, .int .i64 0, .string ⟨#[]⟩, .slice none 0 0] 58)
    simpa [Rd5] using this
  have G3 : GrowS (fun k => k = br) w (((w.setCell ⟨br, 3, none⟩ (.int .i64 (many + 1))).setCell ⟨br, 2, none⟩ (.int .i64 (next + wn))).alloc (.cells #[.int .i64 0, .int .i64 0, .string ⟨#[]⟩, .slice none 0 0] 58)) := (((GrowS.refl (fun k => k = br) w).set (b := br) (i := 3) rfl (.int .i64 (many + 1))).set (b := br) (i := 2) rfl (.int .i64 (next + wn))).alloc (.cells #[.int .i64 0, .int .i64 0, .string ⟨#[]⟩, .slice none 0 0] 58)
  have X3 : VB (((w.setCell ⟨br, 3, none⟩ (.int .i64 (many + 1))).setCell ⟨br, 2, none⟩ (.int .i64 (next + wn))).alloc (.cells #[.int .i64 0, .int .i64 0, .string ⟨#[]⟩, .slice none 0 0] 58)) w.heap.size 58 #[.int .i64 0, .int .i64 0, .string ⟨#[]⟩, .slice none 0 0] := by
    have := VB.new ((w.setCell ⟨br, 3, none⟩ (.int .i64 (many + 1))).setCell ⟨br, 2, none⟩ (.int .i64 (next + wn))) 58 #[.int .i64 0, .int .i64 0, .string ⟨#[]⟩, .slice none 0 0]
    simpa using this
  have S3 : SeesB .u32 B (((w.setCell ⟨br, 3, none⟩ (.int .i64 (many + 1))).setCell ⟨br, 2, none⟩ (.int .i64 (next + wn))).alloc (.cells #[.int .i64 0, .int .i64 0, .string ⟨#[]⟩, .slice none 0 0] 58)) (.slice (some ⟨b, off, none⟩) (next + wn - (next + 1)) (0)) own := by
    refine ⟨_, _, by rw [show next + wn - (next + 1) = own.length by omega], by omega, by unfold maxLen; omega, fun _ => ⟨b, off, rfl, hbB, fun j hj => ?_⟩⟩
    exact absurd hj (by omega)
  refine (wdText own s (next + wn) (many + 1) false _ _ a br B _ R3 ⟨_, _, _, rfl⟩ S3 hB hou.out (by omega) (by omega)).mono ?_
  rintro _ w2 ⟨rfl, v2, g2⟩
  rw [Bool.false_or] at v2
  have x2 := g2.vb X3 (by omega)
  have x0 := x2.cell 0
  have x1 := x2.cell 1
  have x2' := x2.cell 2
  have x3 := x2.cell 3
  have fx0 := x2.free 0
  have fx1 := x2.free 1
  have fx2 := x2.free 2
  have fx3 := x2.free 3
  have lx := x2.lt
  simp at x0 x1 x2' x3
  have V2 := Lib.hid v2
  have GG := Lib.hid (G3.trans g2)
  clear v2 g2 x2 R3 G3 X3 S3 hou hol hc HR r0 r1 r2 r3 r4 f2 f3 f4 hfit hw1 hw5 hvc hvm hn hm hlt hs4
  go_wp2_with fail
  refine bodyPost_ret (v := .agg #[.int .i64 2, .int .i64 0, .string (str ((Wd.bys own).take s)), .slice none 0 0]) (by simp [results, Try.results80, go_sem, x0, x1, x2', x3]) rfl ⟨rfl, ?_, ?_⟩
  · exact (((V2.out.far _ _ (by omega) _).far _ _ (by omega) _).far _ _ (by omega) _).far _ _ (by omega) _
  · exact (((GG.out.setNew (Nat.le_refl _) _).setNew (Nat.le_refl _) _).setNew (Nat.le_refl _) _).setNew (Nat.le_refl _) _

set_option maxHeartbeats 8000000 in
set_option maxRecDepth 100000 in
theorem val_text1 (u : Int) (d : Nat) (next many : Nat) (b off : Nat) (ls : List Int) (vc : Nat) (a : Int) (br : Nat) (w : World) (h : Int) (n : Int) (s : Nat) (wn : Nat) (hof : Wd.of u = (0, false)) (hua : u = (a + 4 * next) % 4294967296) (hh : ls[next]? = some h)
    (hun : Wd.unhead h = (2, n, (s : Int), true)) (hwn : Wd.words h = ((wn : Int), true)) (hfit : next + wn ≤ ls.length) (hw1 : 1 ≤ wn) (hw5 : wn ≤ 5000) (hvc : ls.length ≤ vc) (hvm : vc ≤ 9223372036854775807) (hcq : ¬ vc = next + 1) (hs4 : s ≤ 4 * (wn - 1)) (own : List Int) (hol : own.length = wn - 1) (hou : Hid (∀ x ∈ own, 0 ≤ x ∧ x < 4294967296)) (hoc : Hid (∀ j (hj : j < own.length), w.cell? ⟨b, off + (next + 1) + j, none⟩ = some (.int .u32 own[j]))) (B : Nat) (hbB : b < B) (hB : B ≤ br)
    (hr : VB w br 114 (Rd5 (.slice (some ⟨b, off, none⟩) ls.length vc) a next many false)) (hc : w.cell? ⟨b, off + next, none⟩ = some (.int .u32 h)) (hbr : ¬ b = br) (hbw : b < w.heap.size) (hu : 0 ≤ u ∧ u < 4294967296) (hh0 : 0 ≤ h ∧ h < 4294967296) (hd : d ≤ 200) (hm : many < 16384) (hn : ls.length ≤ 1048576)
    : Calls Try.prog 80 #[.pointer (some ⟨br, 0, none⟩), .int .u32 u, .int .i64 (d : Int)] w fun e w' => e = .returned (.agg #[.int .i64 2, .int .i64 0, .string (str ((Wd.bys own).take s)), .slice none 0 0]) ∧ VB w' br 114 (Rd5 (.slice (some ⟨b, off, none⟩) ls.length vc) a (next + wn) (many + 1) (Wd.late own s (4 * own.length))) ∧ GrowS (fun k => k = br) w w' := by
  have HO : ∀ w, Calls Try.prog 44 #[.int .u32 u] w fun e w' => e = .returned (.tuple #[.int .i64 0, .bool false]) ∧ w' = w := fun w => by
    have h := wdOf u w hu.1 hu.2
    rw [hof] at h
    exact h
  have HU : ∀ w, Calls Try.prog 48 #[.int .u32 h] w fun e w' => e = .returned (.tuple #[.int .i64 2, .int .i64 n, .int .i64 (s : Int), .bool true]) ∧ w' = w := fun w => by
    have h := wdUnhead h w hh0.1 hh0.2
    rw [hun] at h
    exact h
  have HW : ∀ w, Calls Try.prog 50 #[.int .u32 h] w fun e w' => e = .returned (.tuple #[.int .i64 (wn : Int), .bool true]) ∧ w' = w := fun w => by
    have h := wdWords h w hh0.1 hh0.2
    rw [hwn] at h
    exact h
  obtain ⟨hlt, -⟩ := List.getElem?_eq_some_iff.1 hh
  
  have r0 := hr.cell 0
  have r1 := hr.cell 1
  have r2 := hr.cell 2
  have f2 := hr.free 2
  have r3 := hr.cell 3
  have f3 := hr.free 3
  have r4 := hr.cell 4
  have f4 := hr.free 4
  have lr := hr.lt
  simp [Rd5] at r0 r1 r2 r3 r4
  have HR := Lib.hid hr
  replace HO := Lib.hid HO
  replace HU := Lib.hid HU
  replace HW := Lib.hid HW
  clear hr hof hun hwn hh
  subst hua
  clear hu
  go_enter Try.func80, Try.ntmps80
  go_wp2_with fail
  refine (HO.out _).mono ?_
  rintro _ w1 ⟨rfl, hw1⟩
  subst hw1
  clear HO
  go_wp2_with fail
  refine (HU.out _).mono ?_
  rintro _ w1 ⟨rfl, hw1⟩
  subst hw1
  clear HU
  go_wp2_with fail
  refine (HW.out _).mono ?_
  rintro _ w1 ⟨rfl, hw1⟩
  subst hw1
  clear HW hh0
  go_wp2_with fail
  have R3 : VB (((w.setCell ⟨br, 3, none⟩ (.int .i64 (many + 1))).setCell ⟨br, 2, none⟩ (.int .i64 (next + wn))).alloc (.cells #[.int .i64 0, .int .i64 0, .string ⟨#[]⟩, .slice none 0 0] 58)) br 114 (Rd5 (.slice (some ⟨b, off, none⟩) ls.length vc) a (next + wn) (many + 1) false) := by
    have := ((HR.out.set 3 (.int .i64 (many + 1))).set 2 (.int .i64 (next + wn))).alloc (.cells #[.int .i64 0, .int .i64 0, .string ⟨#[]⟩, .slice none 0 0] 58)
    simpa [Rd5] using this
  have G3 : GrowS (fun k => k = br) w (((w.setCell ⟨br, 3, none⟩ (.int .i64 (many + 1))).setCell ⟨br, 2, none⟩ (.int .i64 (next + wn))).alloc (.cells #[.int .i64 0, .int .i64 0, .string ⟨#[]⟩, .slice none 0 0] 58)) := (((GrowS.refl (fun k => k = br) w).set (b := br) (i := 3) rfl (.int .i64 (many + 1))).set (b := br) (i := 2) rfl (.int .i64 (next + wn))).alloc (.cells #[.int .i64 0, .int .i64 0, .string ⟨#[]⟩, .slice none 0 0] 58)
  have X3 : VB (((w.setCell ⟨br, 3, none⟩ (.int .i64 (many + 1))).setCell ⟨br, 2, none⟩ (.int .i64 (next + wn))).alloc (.cells #[.int .i64 0, .int .i64 0, .string ⟨#[]⟩, .slice none 0 0] 58)) w.heap.size 58 #[.int .i64 0, .int .i64 0, .string ⟨#[]⟩, .slice none 0 0] := by
    have := VB.new ((w.setCell ⟨br, 3, none⟩ (.int .i64 (many + 1))).setCell ⟨br, 2, none⟩ (.int .i64 (next + wn))) 58 #[.int .i64 0, .int .i64 0, .string ⟨#[]⟩, .slice none 0 0]
    simpa using this
  replace hoc := hoc.out
  have S3 : SeesB .u32 B (((w.setCell ⟨br, 3, none⟩ (.int .i64 (many + 1))).setCell ⟨br, 2, none⟩ (.int .i64 (next + wn))).alloc (.cells #[.int .i64 0, .int .i64 0, .string ⟨#[]⟩, .slice none 0 0] 58)) (.slice (some ⟨b, off + (next + 1), none⟩) (next + wn - (next + 1)) (vc - (next + 1))) own := by
    refine ⟨_, _, by rw [show next + wn - (next + 1) = own.length by omega], by omega, by unfold maxLen; omega, fun _ => ⟨b, off + (next + 1), rfl, hbB, fun j hj => ?_⟩⟩
    rw [World.cell?_of_block (w := w) (G3.block b hbw (by omega))]
    exact hoc j hj
  refine (wdText own s (next + wn) (many + 1) false _ _ a br B _ R3 ⟨_, _, _, rfl⟩ S3 hB hou.out (by omega) (by omega)).mono ?_
  rintro _ w2 ⟨rfl, v2, g2⟩
  rw [Bool.false_or] at v2
  have x2 := g2.vb X3 (by omega)
  have x0 := x2.cell 0
  have x1 := x2.cell 1
  have x2' := x2.cell 2
  have x3 := x2.cell 3
  have fx0 := x2.free 0
  have fx1 := x2.free 1
  have fx2 := x2.free 2
  have fx3 := x2.free 3
  have lx := x2.lt
  simp at x0 x1 x2' x3
  have V2 := Lib.hid v2
  have GG := Lib.hid (G3.trans g2)
  clear v2 g2 x2 R3 G3 X3 S3 hoc hou hol hc HR r0 r1 r2 r3 r4 f2 f3 f4 hfit hw1 hw5 hvc hvm hn hm hlt hs4 hcq
  go_wp2_with fail
  refine bodyPost_ret (v := .agg #[.int .i64 2, .int .i64 0, .string (str ((Wd.bys own).take s)), .slice none 0 0]) (by simp [results, Try.results80, go_sem, x0, x1, x2', x3]) rfl ⟨rfl, ?_, ?_⟩
  · exact (((V2.out.far _ _ (by omega) _).far _ _ (by omega) _).far _ _ (by omega) _).far _ _ (by omega) _
  · exact (((GG.out.setNew (Nat.le_refl _) _).setNew (Nat.le_refl _) _).setNew (Nat.le_refl _) _).setNew (Nat.le_refl _) _

end Go.Proofs.Ytgohnekaolgblaa
