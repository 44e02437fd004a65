/- gimletref04.GetLimits: contracts (printed by wip/gen_reflim.py). -/
import Derived.Test.YtdlfmchpaohoaaaRefGet
namespace Go.Proofs.Ytdlfmchpaohoaaa
open Go.RowKit

theorem fin5 {w W : World} (h : Below w.heap.size w W) (i j m k l : Nat) (u1 u2 u3 u4 u5 : Value) :
    Below w.heap.size w (((((W.setCell ⟨w.heap.size, i, none⟩ u1).setCell ⟨w.heap.size, j, none⟩ u2).setCell ⟨w.heap.size, m, none⟩ u5).setCell ⟨w.heap.size + 1, k, none⟩ u3).setCell ⟨w.heap.size + 1, l, none⟩ u4) :=
  ((((h.setCell (p := ⟨w.heap.size, i, none⟩) (Nat.le_refl _) _).setCell (p := ⟨w.heap.size, j, none⟩) (Nat.le_refl _) _).setCell (p := ⟨w.heap.size, m, none⟩) (Nat.le_refl _) _).setCell (p := ⟨w.heap.size + 1, k, none⟩) (by simp) _).setCell (p := ⟨w.heap.size + 1, l, none⟩) (by simp) _

set_option maxRecDepth 100000 in
set_option maxHeartbeats 1000000 in
theorem refLim_a (v : Value) (bs : List Int) (at_ most : Int) (w : World) (hv : Sees .u8 w v bs) (hb : Byt bs) (hm : bs.length ≤ 140737488351232)
    (e0 p0 : Int) (hby : Kind.byteAt bs at_ = (0, 0, e0, p0)) (he : ¬ e0 = 0) :
    Calls Try.prog 25 #[v, .int .i64 at_, .int .u32 most] w fun e w' => e = .returned (tupL (0, 0, 0, 0, e0, p0)) ∧ Below w.heap.size w w' := by
  have HV := Lib.hid hv; clear hv
  have HB := Lib.hid hb; clear hb
  have HBY := Lib.hid hby; clear hby
  have T0 := Lib.hid ((VB.new w 46 #[.int .u32 0, .int .u32 0, .bool false]).alloc (.cells #[.int .i64 0, .int .i64 0] 33))
  have F0 := Lib.hid (VB.new (w.alloc (.cells #[.int .u32 0, .int .u32 0, .bool false] 46)) 33 #[.int .i64 0, .int .i64 0])
  simp only [World.size_alloc] at F0
  have B0 := Lib.hid (B.alloc (B.alloc (B.refl w) (.cells #[.int .u32 0, .int .u32 0, .bool false] 46)) (.cells #[.int .i64 0, .int .i64 0] 33))
  go_enter Try.func25, Try.ntmps25
  go_wp2_with fail
  refine (refByte _ _ _ _ ((HV.out.alloc _).alloc _) (by omega)).mono ?_
  rintro e w1 ⟨rfl, b1⟩
  rw [HBY.out]
  simp only [tupB]
  have t1 := T0.out.call b1
  have f1 := F0.out.call b1
  have c0 := t1.cell 0
  have c1 := t1.cell 1
  have c1' := t1.cell 2
  have c2 := t1.free 0
  have c3 := t1.free 1
  have c3' := t1.free 2
  have c4 := t1.lt
  have d0 := f1.cell 0
  have d1 := f1.cell 1
  have d2 := f1.free 0
  have d3 := f1.free 1
  have d4 := f1.lt
  simp at c0 c1 c1' d0 d1
  have BW := Lib.hid (B.call B0.out b1)
  clear t1 f1 b1
  go_wp2_with fail
  go_region
  all_goals go_wp2_with fail
  refine bodyPost_ret (v := tupL (0, 0, 0, 0, e0, p0)) (by simp [results, Try.results25, go_sem, c0, c1, c1', c4, d0, d1, d4, tupL]) rfl ⟨rfl, ?_⟩
  exact (B.alloc (fin5 BW.out _ _ _ _ _ _ _ _ _ _) _).drew

set_option maxRecDepth 100000 in
set_option maxHeartbeats 1000000 in
theorem refLim_b (v : Value) (bs : List Int) (at_ most : Int) (w : World) (hv : Sees .u8 w v bs) (hb : Byt bs) (hm : bs.length ≤ 140737488351232)
    (c q : Int) (hby : Kind.byteAt bs at_ = (c, q, 0, 0)) (hc : 1 < c) :
    Calls Try.prog 25 #[v, .int .i64 at_, .int .u32 most] w fun e w' => e = .returned (tupL (0, 0, 0, 0, 140, at_)) ∧ Below w.heap.size w w' := by
  have HV := Lib.hid hv; clear hv
  have HB := Lib.hid hb; clear hb
  have HBY := Lib.hid hby; clear hby
  have T0 := Lib.hid ((VB.new w 46 #[.int .u32 0, .int .u32 0, .bool false]).alloc (.cells #[.int .i64 0, .int .i64 0] 33))
  have F0 := Lib.hid (VB.new (w.alloc (.cells #[.int .u32 0, .int .u32 0, .bool false] 46)) 33 #[.int .i64 0, .int .i64 0])
  simp only [World.size_alloc] at F0
  have B0 := Lib.hid (B.alloc (B.alloc (B.refl w) (.cells #[.int .u32 0, .int .u32 0, .bool false] 46)) (.cells #[.int .i64 0, .int .i64 0] 33))
  go_enter Try.func25, Try.ntmps25
  go_wp2_with fail
  refine (refByte _ _ _ _ ((HV.out.alloc _).alloc _) (by omega)).mono ?_
  rintro e w1 ⟨rfl, b1⟩
  rw [HBY.out]
  simp only [tupB]
  have t1 := T0.out.call b1
  have f1 := F0.out.call b1
  have c0 := t1.cell 0
  have c1 := t1.cell 1
  have c1' := t1.cell 2
  have c2 := t1.free 0
  have c3 := t1.free 1
  have c3' := t1.free 2
  have c4 := t1.lt
  have d0 := f1.cell 0
  have d1 := f1.cell 1
  have d2 := f1.free 0
  have d3 := f1.free 1
  have d4 := f1.lt
  simp at c0 c1 c1' d0 d1
  have BW := Lib.hid (B.call B0.out b1)
  clear t1 f1 b1
  go_wp2_with fail
  refine bodyPost_ret (v := tupL (0, 0, 0, 0, 140, at_)) (by simp [results, Try.results25, go_sem, c0, c1, c1', c4, d0, d1, d4, tupL]) rfl ⟨rfl, ?_⟩
  exact B.alloc (fin5 BW.out _ _ _ _ _ _ _ _ _ _) _

set_option maxRecDepth 100000 in
set_option maxHeartbeats 1000000 in
theorem refLim_c (v : Value) (bs : List Int) (at_ most : Int) (w : World) (hv : Sees .u8 w v bs) (hb : Byt bs) (hm : bs.length ≤ 140737488351232)
    (c q : Int) (hby : Kind.byteAt bs at_ = (c, q, 0, 0)) (hc : c = 0 ∨ c = 1) (e0 p0 : Int) (hw1 : Leb.getU bs q = (0, 0, e0, p0)) (he : ¬ e0 = 0) :
    Calls Try.prog 25 #[v, .int .i64 at_, .int .u32 most] w fun e w' => e = .returned (tupL (0, 0, 0, 0, e0, p0)) ∧ Below w.heap.size w w' := by
  have HV := Lib.hid hv; clear hv
  have HB := Lib.hid hb; clear hb
  have hc1 : ¬ 1 < c := by omega
  clear hc
  have HBY := Lib.hid hby; clear hby
  have HW1 := Lib.hid hw1; clear hw1
  have T0 := Lib.hid ((VB.new w 46 #[.int .u32 0, .int .u32 0, .bool false]).alloc (.cells #[.int .i64 0, .int .i64 0] 33))
  have F0 := Lib.hid (VB.new (w.alloc (.cells #[.int .u32 0, .int .u32 0, .bool false] 46)) 33 #[.int .i64 0, .int .i64 0])
  simp only [World.size_alloc] at F0
  have B0 := Lib.hid (B.alloc (B.alloc (B.refl w) (.cells #[.int .u32 0, .int .u32 0, .bool false] 46)) (.cells #[.int .i64 0, .int .i64 0] 33))
  go_enter Try.func25, Try.ntmps25
  go_wp2_with fail
  refine (refByte _ _ _ _ ((HV.out.alloc _).alloc _) (by omega)).mono ?_
  rintro e w1 ⟨rfl, b1⟩
  rw [HBY.out]
  simp only [tupB]
  have t1 := T0.out.call b1
  have f1 := F0.out.call b1
  have T1 := Lib.hid (t1.alloc (.cells #[.int .i64 0, .int .i64 0] 33))
  have F1 := Lib.hid (f1.alloc (.cells #[.int .i64 0, .int .i64 0] 33))
  have B1 := Lib.hid (B.alloc (B.call B0.out b1) (.cells #[.int .i64 0, .int .i64 0] 33))
  clear t1 f1 b1
  go_wp2_with fail
  refine (refGetU _ _ _ _ (HV.out.below B1.out (Nat.le_refl _)) HB.out hm).mono ?_
  rintro e w2 ⟨rfl, b2⟩
  rw [HW1.out]
  simp only [tupU]
  have t2 := T1.out.call b2
  have f2 := F1.out.call b2
  have c0 := t2.cell 0
  have c1 := t2.cell 1
  have c1' := t2.cell 2
  have c2 := t2.free 0
  have c3 := t2.free 1
  have c3' := t2.free 2
  have c4 := t2.lt
  have d0 := f2.cell 0
  have d1 := f2.cell 1
  have d2 := f2.free 0
  have d3 := f2.free 1
  have d4 := f2.lt
  simp at c0 c1 c1' d0 d1
  have BW := Lib.hid (B.call B1.out b2)
  clear t2 f2 b2
  go_wp2_with fail
  go_region
  all_goals go_wp2_with fail
  refine bodyPost_ret (v := tupL (0, 0, 0, 0, e0, p0)) (by simp [results, Try.results25, go_sem, c0, c1, c1', c4, d0, d1, d4, tupL]) rfl ⟨rfl, ?_⟩
  exact (B.alloc (fin5 BW.out _ _ _ _ _ _ _ _ _ _) _).drew

end Go.Proofs.Ytdlfmchpaohoaaa
