/- reader.value: no address, no head. -/
import Derived.Test.YtgohnekaolgblaaRdVal
namespace Go.Proofs.Ytgohnekaolgblaa
open Go.RowKit

set_option maxHeartbeats 1000000 in
set_option maxRecDepth 100000 in
theorem val_far (u : Int) (d : Nat) (next many : Nat) (vA : Option Addr) (ls : List Int) (vc : Nat) (a : Int) (br : Nat) (w : World) (hof : Wd.of u = (0, false)) (hbad : u ≠ (a + 4 * next) % 4294967296 ∨ ls.length ≤ next)
    (hr : VB w br 114 (Rd5 (.slice vA ls.length vc) a next many false)) (hu : 0 ≤ u ∧ u < 4294967296) (hd : d ≤ 200) (hm : many < 16384) (hn : next ≤ 1048576) :
    Calls Try.prog 80 #[.pointer (some ⟨br, 0, none⟩), .int .u32 u, .int .i64 (d : Int)] w fun e w' =>
      e = .returned (.agg #[.int .i64 0, .int .i64 0, .string ⟨#[]⟩, .slice none 0 0]) ∧ VB w' br 114 (Rd5 (.slice vA ls.length vc) a next (many + 1) true) ∧ GrowS (fun k => k = br) w w' := by
  have HO : ∀ w, Calls Try.prog 44 #[.int .u32 u] w fun e w' => e = .returned (.tuple #[.int .i64 0, .bool false]) ∧ w' = w := fun w => by
    have h := wdOf u w hu.1 hu.2
    rw [hof] at h
    exact h
  have r0 := hr.cell 0
  have r1 := hr.cell 1
  have r2 := hr.cell 2
  have r3 := hr.cell 3
  have f3 := hr.free 3
  have r4 := hr.cell 4
  have f4 := hr.free 4
  have lr := hr.lt
  simp [Rd5] at r0 r1 r2 r3 r4
  have HR := Lib.hid hr
  replace HO := Lib.hid HO
  clear hr hof
  have G0 := Lib.hid (GrowS.refl (fun k => k = br) w)
  obtain ⟨p, hp⟩ : ∃ p, p = (a + 4 * (next : Int)) % 4294967296 := ⟨_, rfl⟩
  rw [← hp] at hbad
  go_enter Try.func80, Try.ntmps80
  go_wp2_with fail
  refine (HO.out _).mono ?_
  rintro _ w1 ⟨rfl, hw1⟩
  subst hw1
  go_wp2_with fail
  all_goals
    refine bodyPost_ret (v := .agg #[.int .i64 0, .int .i64 0, .string ⟨#[]⟩, .slice none 0 0]) (by simp [results, Try.results80, go_sem]) rfl ⟨rfl, ?_, ?_⟩
    · have := ((HR.out.set 3 (.int .i64 (many + 1))).set 4 (.bool true)).alloc (.cells #[.int .i64 0, .int .i64 0, .string ⟨#[]⟩, .slice none 0 0] 58)
      simpa [Rd5] using this
    · exact ((G0.out.set (b := br) rfl _).set (b := br) rfl _).alloc _

set_option maxHeartbeats 4000000 in
set_option maxRecDepth 100000 in
theorem val_head (u : Int) (d : Nat) (next many : Nat) (vA : Option Addr) (ls : List Int) (vc : Nat) (a : Int) (br : Nat) (w : World) (h : Int) (k n s : Int) (is : Bool) (wn : Nat) (hof : Wd.of u = (0, false)) (hua : u = (a + 4 * next) % 4294967296) (hh : ls[next]? = some h)
    (hun : Wd.unhead h = (k, n, s, is)) (hwn : (Wd.words h).1 = (wn : Int)) (hbad : is = false ∨ ls.length < next + wn ∨ (k = 0 ∧ s = 0)) (hw5 : wn ≤ 5000)
    (hr : VB w br 114 (Rd5 (.slice vA ls.length vc) a next many false)) (B : Nat) (hs : SeesB .u32 B w (.slice vA ls.length vc) ls) (hB : B ≤ br) (hu : 0 ≤ u ∧ u < 4294967296) (hh0 : 0 ≤ h ∧ h < 4294967296) (hd : d ≤ 200) (hm : many < 16384) (hn : next ≤ 1048576) :
    Calls Try.prog 80 #[.pointer (some ⟨br, 0, none⟩), .int .u32 u, .int .i64 (d : Int)] w fun e w' =>
      e = .returned (.agg #[.int .i64 0, .int .i64 0, .string ⟨#[]⟩, .slice none 0 0]) ∧ VB w' br 114 (Rd5 (.slice vA ls.length vc) a next (many + 1) true) ∧ GrowS (fun k => k = br) w w' := by
  have HO : ∀ w, Calls Try.prog 44 #[.int .u32 u] w fun e w' => e = .returned (.tuple #[.int .i64 0, .bool false]) ∧ w' = w := fun w => by
    have h := wdOf u w hu.1 hu.2
    rw [hof] at h
    exact h
  have HU : ∀ w, Calls Try.prog 48 #[.int .u32 h] w fun e w' => e = .returned (.tuple #[.int .i64 k, .int .i64 n, .int .i64 s, .bool is]) ∧ w' = w := fun w => by
    have h := wdUnhead h w hh0.1 hh0.2
    rw [hun] at h
    exact h
  have HW : ∀ w, ∃ b, Calls Try.prog 50 #[.int .u32 h] w fun e w' => e = .returned (.tuple #[.int .i64 (wn : Int), .bool b]) ∧ w' = w := fun w => by
    have h := wdWords h w hh0.1 hh0.2
    rw [hwn] at h
    exact ⟨_, h⟩
  obtain ⟨hlt, hge⟩ := List.getElem?_eq_some_iff.1 hh
  obtain ⟨A', cap', he, _, _, hcc⟩ := hs
  obtain ⟨b, off, rfl, hbB, hcell⟩ := hcc (by intro e; subst e; simp at hlt)
  simp only [Value.slice.injEq] at he
  obtain ⟨rfl, -, -⟩ := he
  have hc := hcell next hlt
  rw [hge] at hc
  have r0 := hr.cell 0
  have r1 := hr.cell 1
  have r2 := hr.cell 2
  have r3 := hr.cell 3
  have f3 := hr.free 3
  have r4 := hr.cell 4
  have f4 := hr.free 4
  have lr := hr.lt
  simp [Rd5] at r0 r1 r2 r3 r4
  have HR := Lib.hid hr
  have hbr : ¬ b = br := by omega
  have hbw : b < w.heap.size := by omega
  replace HO := Lib.hid HO
  replace HU := Lib.hid HU
  replace HW := Lib.hid HW
  clear hr hof hun hwn hge hh hcell hcc
  have G0 := Lib.hid (GrowS.refl (fun k => k = br) w)
  subst hua
  go_enter Try.func80, Try.ntmps80
  go_wp2_with fail
  refine (HO.out _).mono ?_
  rintro _ w1 ⟨rfl, hw1⟩
  subst hw1
  go_wp2_with fail
  refine (HU.out _).mono ?_
  rintro _ w1 ⟨rfl, hw1⟩
  subst hw1
  go_wp2_with fail
  obtain ⟨bb, hbb⟩ := HW.out ((w.setCell ⟨br, 3, none⟩ (.int .i64 (many + 1))).alloc (.cells #[.int .i64 0, .int .i64 0, .string ⟨#[]⟩, .slice none 0 0] 58))
  refine hbb.mono ?_
  rintro _ w1 ⟨rfl, hw1⟩
  subst hw1
  clear hbb
  cases is
  · clear hbad
    go_wp2_with fail
    refine bodyPost_ret (v := .agg #[.int .i64 0, .int .i64 0, .string ⟨#[]⟩, .slice none 0 0]) (by simp [results, Try.results80, go_sem]) rfl ⟨rfl, ?_, ?_⟩
    · have := ((HR.out.set 3 (.int .i64 (many + 1))).set 4 (.bool true)).alloc (.cells #[.int .i64 0, .int .i64 0, .string ⟨#[]⟩, .slice none 0 0] 58)
      simpa [Rd5] using this
    · exact ((G0.out.set (b := br) rfl _).set (b := br) rfl _).alloc _
  · by_cases h2 : ls.length < next + wn
    · clear hbad
      go_wp2_with fail
      refine bodyPost_ret (v := .agg #[.int .i64 0, .int .i64 0, .string ⟨#[]⟩, .slice none 0 0]) (by simp [results, Try.results80, go_sem]) rfl ⟨rfl, ?_, ?_⟩
      · have := ((HR.out.set 3 (.int .i64 (many + 1))).set 4 (.bool true)).alloc (.cells #[.int .i64 0, .int .i64 0, .string ⟨#[]⟩, .slice none 0 0] 58)
        simpa [Rd5] using this
      · exact ((G0.out.set (b := br) rfl _).set (b := br) rfl _).alloc _
    · obtain ⟨rfl, rfl⟩ : k = 0 ∧ s = 0 := by
        rcases hbad with h | h | h
        · cases h
        · exact absurd h h2
        · exact h
      go_wp2_with fail
      refine bodyPost_ret (v := .agg #[.int .i64 0, .int .i64 0, .string ⟨#[]⟩, .slice none 0 0]) (by simp [results, Try.results80, go_sem]) rfl ⟨rfl, ?_, ?_⟩
      · have := ((HR.out.set 3 (.int .i64 (many + 1))).set 4 (.bool true)).alloc (.cells #[.int .i64 0, .int .i64 0, .string ⟨#[]⟩, .slice none 0 0] 58)
        simpa [Rd5] using this
      · exact ((G0.out.set (b := br) rfl _).set (b := br) rfl _).alloc _

end Go.Proofs.Ytgohnekaolgblaa
