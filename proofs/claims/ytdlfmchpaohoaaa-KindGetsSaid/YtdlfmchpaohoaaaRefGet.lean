/- gimletref04.getWords and Get: contracts (printed by wip/gen_refget.py). -/
import Derived.Test.YtdlfmchpaohoaaaRefWords
namespace Go.Proofs.Ytdlfmchpaohoaaa
open Go.RowKit

theorem refWords (v : Value) (bs : List Int) (at_ most : Int) (w : World) (hv : Sees .u8 w v bs) (hb : Byt bs) (hm : bs.length ≤ 140737488351232) :
    Calls Try.prog 48 #[v, .int .i64 at_, .int .i64 most] w fun e w' => e = .returned (tupW (Kind.words bs at_ most)) ∧ Below w.heap.size w w' := by
  rcases Leb.getU_cases bs at_ hb with ⟨x, q, hg, x0, x1, a0, a1, q0, q1, q2⟩ | ⟨e0, p0, hg, he⟩
  · have hp := Leb.putU_pos 4 x
    obtain ⟨n, rfl⟩ := Int.eq_ofNat_of_zero_le x0
    obtain ⟨q, rfl⟩ := Int.eq_ofNat_of_zero_le (show 0 ≤ q by omega)
    by_cases hmost : most < (n : Int)
    · have hw : Kind.words bs at_ most = (0, 0, 141, at_) := by
        unfold Kind.words
        rw [hg]; simp [hmost]
      rw [hw]
      exact refWords_many v bs at_ most w hv hb hm n q hg (by omega) (by omega) hmost
    · have hw : Kind.words bs at_ most = wordsRes n q (Kind.run bs n q) := by
        unfold Kind.words wordsRes
        rw [hg]
        by_cases hr : (Kind.run bs n q).1 = 0 <;> simp [hmost, hr]
      rw [hw]
      exact refWords_run v bs at_ most w hv hb hm n q hg (by omega) (by omega) (by omega) _ rfl
  · have hw : Kind.words bs at_ most = (0, 0, e0, p0) := by
      unfold Kind.words
      rw [hg]; simp; omega
    rw [hw]
    exact refWords_bad v bs at_ most w hv hb hm e0 p0 hg (by omega)

theorem fin4 {w W : World} (h : Below w.heap.size w W) (i j k l : Nat) (u1 u2 u3 u4 : Value) :
    Below w.heap.size w ((((W.setCell ⟨w.heap.size, i, none⟩ u1).setCell ⟨w.heap.size, j, none⟩ u2).setCell ⟨w.heap.size + 1, k, none⟩ u3).setCell ⟨w.heap.size + 1, l, none⟩ u4) :=
  (((h.setCell (p := ⟨w.heap.size, i, none⟩) (Nat.le_refl _) _).setCell (p := ⟨w.heap.size, j, none⟩) (Nat.le_refl _) _).setCell (p := ⟨w.heap.size + 1, k, none⟩) (by simp) _).setCell (p := ⟨w.heap.size + 1, l, none⟩) (by simp) _

set_option maxHeartbeats 1000000 in
theorem refGet_a (v : Value) (bs : List Int) (at_ : Int) (w : World) (hv : Sees .u8 w v bs) (hb : Byt bs) (hm : bs.length ≤ 140737488351232)
    (e0 p0 : Int) (hby : Kind.byteAt bs at_ = (0, 0, e0, p0)) (he : ¬ e0 = 0) :
    Calls Try.prog 23 #[v, .int .i64 at_] w fun e w' => e = .returned (tupT (0, 0, 0, e0, p0)) ∧ Below w.heap.size w w' := by
  have HV := Lib.hid hv; clear hv
  have HB := Lib.hid hb; clear hb
  have HBY := Lib.hid hby; clear hby
  have T0 := Lib.hid ((VB.new w 42 #[.int .i64 0, .int .i64 0]).alloc (.cells #[.int .i64 0, .int .i64 0] 33))
  have F0 := Lib.hid (VB.new (w.alloc (.cells #[.int .i64 0, .int .i64 0] 42)) 33 #[.int .i64 0, .int .i64 0])
  simp only [World.size_alloc] at F0
  have B0 := Lib.hid (B.alloc (B.alloc (B.refl w) (.cells #[.int .i64 0, .int .i64 0] 42)) (.cells #[.int .i64 0, .int .i64 0] 33))
  go_enter Try.func23, Try.ntmps23
  go_wp2_with fail
  refine (refByte _ _ _ _ ((HV.out.alloc _).alloc _) (by omega)).mono ?_
  rintro e w1 ⟨rfl, b1⟩
  rw [HBY.out]
  simp only [tupB]
  have t1 := T0.out.call b1
  have f1 := F0.out.call b1
  have c0 := t1.cell 0
  have c1 := t1.cell 1
  have c2 := t1.free 0
  have c3 := t1.free 1
  have c4 := t1.lt
  have d0 := f1.cell 0
  have d1 := f1.cell 1
  have d2 := f1.free 0
  have d3 := f1.free 1
  have d4 := f1.lt
  simp at c0 c1 d0 d1
  have BW := Lib.hid (B.call B0.out b1)
  clear t1 f1 b1
  go_wp2_with fail
  go_region
  all_goals go_wp2_with fail
  refine bodyPost_ret (v := tupT (0, 0, 0, e0, p0)) (by simp [results, Try.results23, go_sem, c0, c1, c4, d0, d1, d4, tupT]) rfl ⟨rfl, ?_⟩
  exact (B.alloc (fin4 BW.out _ _ _ _ _ _ _ _) _).drew

set_option maxHeartbeats 1000000 in
theorem refGet_b (v : Value) (bs : List Int) (at_ : Int) (w : World) (hv : Sees .u8 w v bs) (hb : Byt bs) (hm : bs.length ≤ 140737488351232)
    (c q : Int) (hby : Kind.byteAt bs at_ = (c, q, 0, 0)) (hc : ¬ c = 96) :
    Calls Try.prog 23 #[v, .int .i64 at_] w fun e w' => e = .returned (tupT (0, 0, 0, 140, at_)) ∧ Below w.heap.size w w' := by
  have HV := Lib.hid hv; clear hv
  have HB := Lib.hid hb; clear hb
  have HBY := Lib.hid hby; clear hby
  have hne : (c == 96) = false := by rw [beq_eq_false_iff_ne]; exact hc
  clear hc
  have T0 := Lib.hid ((VB.new w 42 #[.int .i64 0, .int .i64 0]).alloc (.cells #[.int .i64 0, .int .i64 0] 33))
  have F0 := Lib.hid (VB.new (w.alloc (.cells #[.int .i64 0, .int .i64 0] 42)) 33 #[.int .i64 0, .int .i64 0])
  simp only [World.size_alloc] at F0
  have B0 := Lib.hid (B.alloc (B.alloc (B.refl w) (.cells #[.int .i64 0, .int .i64 0] 42)) (.cells #[.int .i64 0, .int .i64 0] 33))
  go_enter Try.func23, Try.ntmps23
  go_wp2_with fail
  refine (refByte _ _ _ _ ((HV.out.alloc _).alloc _) (by omega)).mono ?_
  rintro e w1 ⟨rfl, b1⟩
  rw [HBY.out]
  simp only [tupB]
  have t1 := T0.out.call b1
  have f1 := F0.out.call b1
  have c0 := t1.cell 0
  have c1 := t1.cell 1
  have c2 := t1.free 0
  have c3 := t1.free 1
  have c4 := t1.lt
  have d0 := f1.cell 0
  have d1 := f1.cell 1
  have d2 := f1.free 0
  have d3 := f1.free 1
  have d4 := f1.lt
  simp at c0 c1 d0 d1
  have BW := Lib.hid (B.call B0.out b1)
  clear t1 f1 b1
  go_wp2_with fail
  refine bodyPost_ret (v := tupT (0, 0, 0, 140, at_)) (by simp [results, Try.results23, go_sem, c0, c1, c4, d0, d1, d4, tupT]) rfl ⟨rfl, ?_⟩
  exact B.alloc (fin4 BW.out _ _ _ _ _ _ _ _) _

set_option maxHeartbeats 1000000 in
theorem refGet_c (v : Value) (bs : List Int) (at_ : Int) (w : World) (hv : Sees .u8 w v bs) (hb : Byt bs) (hm : bs.length ≤ 140737488351232)
    (q : Int) (hby : Kind.byteAt bs at_ = (96, q, 0, 0)) (e0 p0 : Int) (hw1 : Kind.words bs q 255 = (0, 0, e0, p0)) (he : ¬ e0 = 0) :
    Calls Try.prog 23 #[v, .int .i64 at_] w fun e w' => e = .returned (tupT (0, 0, 0, e0, p0)) ∧ Below w.heap.size w w' := by
  have HV := Lib.hid hv; clear hv
  have HB := Lib.hid hb; clear hb
  have HBY := Lib.hid hby; clear hby
  have HW1 := Lib.hid hw1; clear hw1
  have T0 := Lib.hid ((VB.new w 42 #[.int .i64 0, .int .i64 0]).alloc (.cells #[.int .i64 0, .int .i64 0] 33))
  have F0 := Lib.hid (VB.new (w.alloc (.cells #[.int .i64 0, .int .i64 0] 42)) 33 #[.int .i64 0, .int .i64 0])
  simp only [World.size_alloc] at F0
  have B0 := Lib.hid (B.alloc (B.alloc (B.refl w) (.cells #[.int .i64 0, .int .i64 0] 42)) (.cells #[.int .i64 0, .int .i64 0] 33))
  go_enter Try.func23, Try.ntmps23
  go_wp2_with fail
  refine (refByte _ _ _ _ ((HV.out.alloc _).alloc _) (by omega)).mono ?_
  rintro e w1 ⟨rfl, b1⟩
  rw [HBY.out]
  simp only [tupB]
  have t1 := T0.out.call b1
  have f1 := F0.out.call b1
  have T1 := Lib.hid (t1.alloc (.cells #[.int .i64 0, .int .i64 0] 33))
  have F1 := Lib.hid (f1.alloc (.cells #[.int .i64 0, .int .i64 0] 33))
  have B1 := Lib.hid (B.alloc (B.call B0.out b1) (.cells #[.int .i64 0, .int .i64 0] 33))
  clear t1 f1 b1
  go_wp2_with fail
  refine (refWords _ _ _ _ _ (HV.out.below B1.out (Nat.le_refl _)) HB.out hm).mono ?_
  rintro e w2 ⟨rfl, b2⟩
  rw [HW1.out]
  simp only [tupW]
  have t2 := T1.out.call b2
  have f2 := F1.out.call b2
  have c0 := t2.cell 0
  have c1 := t2.cell 1
  have c2 := t2.free 0
  have c3 := t2.free 1
  have c4 := t2.lt
  have d0 := f2.cell 0
  have d1 := f2.cell 1
  have d2 := f2.free 0
  have d3 := f2.free 1
  have d4 := f2.lt
  simp at c0 c1 d0 d1
  have BW := Lib.hid (B.call B1.out b2)
  clear t2 f2 b2
  go_wp2_with fail
  go_region
  all_goals go_wp2_with fail
  refine bodyPost_ret (v := tupT (0, 0, 0, e0, p0)) (by simp [results, Try.results23, go_sem, c0, c1, c4, d0, d1, d4, tupT]) rfl ⟨rfl, ?_⟩
  exact (B.alloc (fin4 BW.out _ _ _ _ _ _ _ _) _).drew

set_option maxHeartbeats 1000000 in
theorem refGet_d (v : Value) (bs : List Int) (at_ : Int) (w : World) (hv : Sees .u8 w v bs) (hb : Byt bs) (hm : bs.length ≤ 140737488351232)
    (q : Int) (hby : Kind.byteAt bs at_ = (96, q, 0, 0)) (x q1 : Int) (hw1 : Kind.words bs q 255 = (x, q1, 0, 0)) (e0 p0 : Int) (hw2 : Kind.words bs q1 1 = (0, 0, e0, p0)) (he : ¬ e0 = 0) :
    Calls Try.prog 23 #[v, .int .i64 at_] w fun e w' => e = .returned (tupT (0, 0, 0, e0, p0)) ∧ Below w.heap.size w w' := by
  have HV := Lib.hid hv; clear hv
  have HB := Lib.hid hb; clear hb
  have HBY := Lib.hid hby; clear hby
  have HW1 := Lib.hid hw1; clear hw1
  have HW2 := Lib.hid hw2; clear hw2
  have T0 := Lib.hid ((VB.new w 42 #[.int .i64 0, .int .i64 0]).alloc (.cells #[.int .i64 0, .int .i64 0] 33))
  have F0 := Lib.hid (VB.new (w.alloc (.cells #[.int .i64 0, .int .i64 0] 42)) 33 #[.int .i64 0, .int .i64 0])
  simp only [World.size_alloc] at F0
  have B0 := Lib.hid (B.alloc (B.alloc (B.refl w) (.cells #[.int .i64 0, .int .i64 0] 42)) (.cells #[.int .i64 0, .int .i64 0] 33))
  go_enter Try.func23, Try.ntmps23
  go_wp2_with fail
  refine (refByte _ _ _ _ ((HV.out.alloc _).alloc _) (by omega)).mono ?_
  rintro e w1 ⟨rfl, b1⟩
  rw [HBY.out]
  simp only [tupB]
  have t1 := T0.out.call b1
  have f1 := F0.out.call b1
  have T1 := Lib.hid (t1.alloc (.cells #[.int .i64 0, .int .i64 0] 33))
  have F1 := Lib.hid (f1.alloc (.cells #[.int .i64 0, .int .i64 0] 33))
  have B1 := Lib.hid (B.alloc (B.call B0.out b1) (.cells #[.int .i64 0, .int .i64 0] 33))
  clear t1 f1 b1
  go_wp2_with fail
  refine (refWords _ _ _ _ _ (HV.out.below B1.out (Nat.le_refl _)) HB.out hm).mono ?_
  rintro e w2 ⟨rfl, b2⟩
  rw [HW1.out]
  simp only [tupW]
  have t2 := T1.out.call b2
  have f2 := F1.out.call b2
  have T2 := Lib.hid (t2.alloc (.cells #[.int .i64 0, .int .i64 0] 33))
  have F2 := Lib.hid (f2.alloc (.cells #[.int .i64 0, .int .i64 0] 33))
  have B2 := Lib.hid (B.alloc (B.call B1.out b2) (.cells #[.int .i64 0, .int .i64 0] 33))
  clear t2 f2 b2
  go_wp2_with fail
  refine (refWords _ _ _ _ _ (HV.out.below B2.out (Nat.le_refl _)) HB.out hm).mono ?_
  rintro e w3 ⟨rfl, b3⟩
  rw [HW2.out]
  simp only [tupW]
  have t3 := T2.out.call b3
  have f3 := F2.out.call b3
  have c0 := t3.cell 0
  have c1 := t3.cell 1
  have c2 := t3.free 0
  have c3 := t3.free 1
  have c4 := t3.lt
  have d0 := f3.cell 0
  have d1 := f3.cell 1
  have d2 := f3.free 0
  have d3 := f3.free 1
  have d4 := f3.lt
  simp at c0 c1 d0 d1
  have BW := Lib.hid (B.call B2.out b3)
  clear t3 f3 b3
  go_wp2_with fail
  go_region
  all_goals go_wp2_with fail
  refine bodyPost_ret (v := tupT (0, 0, 0, e0, p0)) (by simp [results, Try.results23, go_sem, c0, c1, c4, d0, d1, d4, tupT]) rfl ⟨rfl, ?_⟩
  exact (B.alloc (fin4 BW.out _ _ _ _ _ _ _ _) _).drew

set_option maxHeartbeats 1000000 in
theorem refGet_e (v : Value) (bs : List Int) (at_ : Int) (w : World) (hv : Sees .u8 w v bs) (hb : Byt bs) (hm : bs.length ≤ 140737488351232)
    (q : Int) (hby : Kind.byteAt bs at_ = (96, q, 0, 0)) (x q1 : Int) (hw1 : Kind.words bs q 255 = (x, q1, 0, 0)) (y q2 : Int) (hw2 : Kind.words bs q1 1 = (y, q2, 0, 0)) :
    Calls Try.prog 23 #[v, .int .i64 at_] w fun e w' => e = .returned (tupT (x, y, q2, 0, 0)) ∧ Below w.heap.size w w' := by
  have HV := Lib.hid hv; clear hv
  have HB := Lib.hid hb; clear hb
  have HBY := Lib.hid hby; clear hby
  have HW1 := Lib.hid hw1; clear hw1
  have HW2 := Lib.hid hw2; clear hw2
  have T0 := Lib.hid ((VB.new w 42 #[.int .i64 0, .int .i64 0]).alloc (.cells #[.int .i64 0, .int .i64 0] 33))
  have F0 := Lib.hid (VB.new (w.alloc (.cells #[.int .i64 0, .int .i64 0] 42)) 33 #[.int .i64 0, .int .i64 0])
  simp only [World.size_alloc] at F0
  have B0 := Lib.hid (B.alloc (B.alloc (B.refl w) (.cells #[.int .i64 0, .int .i64 0] 42)) (.cells #[.int .i64 0, .int .i64 0] 33))
  go_enter Try.func23, Try.ntmps23
  go_wp2_with fail
  refine (refByte _ _ _ _ ((HV.out.alloc _).alloc _) (by omega)).mono ?_
  rintro e w1 ⟨rfl, b1⟩
  rw [HBY.out]
  simp only [tupB]
  have t1 := T0.out.call b1
  have f1 := F0.out.call b1
  have T1 := Lib.hid (t1.alloc (.cells #[.int .i64 0, .int .i64 0] 33))
  have F1 := Lib.hid (f1.alloc (.cells #[.int .i64 0, .int .i64 0] 33))
  have B1 := Lib.hid (B.alloc (B.call B0.out b1) (.cells #[.int .i64 0, .int .i64 0] 33))
  clear t1 f1 b1
  go_wp2_with fail
  refine (refWords _ _ _ _ _ (HV.out.below B1.out (Nat.le_refl _)) HB.out hm).mono ?_
  rintro e w2 ⟨rfl, b2⟩
  rw [HW1.out]
  simp only [tupW]
  have t2 := T1.out.call b2
  have f2 := F1.out.call b2
  have T2 := Lib.hid (t2.alloc (.cells #[.int .i64 0, .int .i64 0] 33))
  have F2 := Lib.hid (f2.alloc (.cells #[.int .i64 0, .int .i64 0] 33))
  have B2 := Lib.hid (B.alloc (B.call B1.out b2) (.cells #[.int .i64 0, .int .i64 0] 33))
  clear t2 f2 b2
  go_wp2_with fail
  refine (refWords _ _ _ _ _ (HV.out.below B2.out (Nat.le_refl _)) HB.out hm).mono ?_
  rintro e w3 ⟨rfl, b3⟩
  rw [HW2.out]
  simp only [tupW]
  have t3 := T2.out.call b3
  have f3 := F2.out.call b3
  have c0 := t3.cell 0
  have c1 := t3.cell 1
  have c2 := t3.free 0
  have c3 := t3.free 1
  have c4 := t3.lt
  have d0 := f3.cell 0
  have d1 := f3.cell 1
  have d2 := f3.free 0
  have d3 := f3.free 1
  have d4 := f3.lt
  simp at c0 c1 d0 d1
  have BW := Lib.hid (B.call B2.out b3)
  clear t3 f3 b3
  go_wp2_with fail
  refine bodyPost_ret (v := tupT (x, y, q2, 0, 0)) (by simp [results, Try.results23, go_sem, c0, c1, c4, d0, d1, d4, tupT]) rfl ⟨rfl, ?_⟩
  exact B.alloc (fin4 BW.out _ _ _ _ _ _ _ _) _

theorem Kind.byteAt_cases (bs : List Int) (at_ : Int) :
    ((at_ < 0 ∨ (bs.length : Int) < at_) ∧ Kind.byteAt bs at_ = (0, 0, 5, 0)) ∨ (∃ a : Nat, at_ = a ∧ a = bs.length ∧ Kind.byteAt bs at_ = (0, 0, 4, (bs.length : Int))) ∨
    ∃ (a : Nat) (h : a < bs.length), at_ = a ∧ Kind.byteAt bs at_ = (bs[a], (a : Int) + 1, 0, 0) := by
  by_cases h : at_ < 0 ∨ (bs.length : Int) < at_
  · exact .inl ⟨h, by unfold Kind.byteAt; rw [if_pos h]⟩
  · obtain ⟨a, rfl⟩ := Int.eq_ofNat_of_zero_le (show 0 ≤ at_ by omega)
    by_cases hl : a < bs.length
    · exact .inr (.inr ⟨a, hl, rfl, by unfold Kind.byteAt; rw [if_neg h, Int.toNat_natCast, List.getElem?_eq_getElem hl]⟩)
    · have ha : a = bs.length := by omega
      exact .inr (.inl ⟨a, rfl, ha, by unfold Kind.byteAt; rw [if_neg h, Int.toNat_natCast, List.getElem?_eq_none (by omega), ha]⟩)

theorem refGet (v : Value) (bs : List Int) (at_ : Int) (w : World) (hv : Sees .u8 w v bs) (hb : Byt bs) (hm : bs.length ≤ 140737488351232) :
    Calls Try.prog 23 #[v, .int .i64 at_] w fun e w' => e = .returned (tupT (Kind.getAt bs at_)) ∧ Below w.heap.size w w' := by
  rcases Kind.byteAt_cases bs at_ with ⟨h, hby⟩ | ⟨a, rfl, ha, hby⟩ | ⟨a, hl, rfl, hby⟩
  · have hr : Kind.getAt bs at_ = (0, 0, 0, 5, 0) := by unfold Kind.getAt; rw [if_pos h]
    rw [hr]; exact refGet_a v bs at_ w hv hb hm 5 0 hby (by decide)
  · have hr : Kind.getAt bs a = (0, 0, 0, 4, (bs.length : Int)) := by unfold Kind.getAt; rw [if_neg (by omega), Int.toNat_natCast]; unfold Kind.get; rw [List.getElem?_eq_none (by omega)]
    rw [hr]; exact refGet_a v bs a w hv hb hm 4 _ hby (by decide)
  · have hr : Kind.getAt bs a = Kind.get bs a := by unfold Kind.getAt; rw [if_neg (by omega), Int.toNat_natCast]
    rw [hr]
    have hget : bs[a]? = some bs[a] := List.getElem?_eq_getElem hl
    by_cases hc : bs[a] = 96
    · rw [hc] at hby hget
      rcases Kind.words_cases bs ((a + 1 : Nat) : Int) 255 hb with ⟨x, q, hP, hx, hq1, hq0, hq2⟩ | ⟨e1, p1, hP, he1⟩
      · rcases Kind.words_cases bs (q : Int) 1 hb with ⟨y, r, hQ, hy, hr1, hr0, hr2⟩ | ⟨e2, p2, hQ, he2⟩
        · have hres : Kind.get bs a = ((x : Int), (y : Int), (r : Int), 0, 0) := by unfold Kind.get; rw [hget]; simp only [hP, hQ]; rfl
          rw [hres]; exact refGet_e v bs a w hv hb hm _ hby _ _ hP _ _ hQ
        · have hres : Kind.get bs a = (0, 0, 0, e2, p2) := by unfold Kind.get; rw [hget]; simp only [hP, hQ]; simp [he2]
          rw [hres]; exact refGet_d v bs a w hv hb hm _ hby _ _ hP e2 p2 hQ he2
      · have hres : Kind.get bs a = (0, 0, 0, e1, p1) := by unfold Kind.get; rw [hget]; simp only [hP]; simp [he1]
        rw [hres]; exact refGet_c v bs a w hv hb hm _ hby e1 p1 hP he1
    · have hres : Kind.get bs a = (0, 0, 0, 140, (a : Int)) := by unfold Kind.get; rw [hget]; simp [hc]
      rw [hres]; exact refGet_b v bs a w hv hb hm _ _ hby hc

end Go.Proofs.Ytdlfmchpaohoaaa
