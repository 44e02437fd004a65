/- The law LebShort: the walk. -/
import Derived.Test.YtdlfmchpaohoaaaLebLaws
import Derived.Test.YtdlfmchpaohoaaaLebShortPlain
import Derived.Test.YtdlfmchpaohoaaaApp
namespace Go.Proofs.Ytdlfmchpaohoaaa
open Go.RowKit

theorem ret_true {b : Bool} (h : b = true) : Ending.returned (.bool b) = .returned (.bool true) := by rw [h]

set_option maxHeartbeats 1000000 in
theorem lebShort_a (v : Value) (bs : List Int) (at_ x q x' q' : Int) (w : World) (hv : Sees .u8 w v bs) (hb : Byt bs) (hm : bs.length ≤ 140737488351232)
    (hr : Leb.getU bs at_ = (x, q, 0, 0)) (x0 : 0 ≤ x) (x1 : x < 4294967296) (_a0 : 0 ≤ at_) (_a1 : at_ ≤ bs.length) (q0 : at_ + (Leb.putU 4 x).length ≤ q) (q1 : q ≤ at_ + 5)
    (hr' : Leb.getS bs at_ = (x', q', 0, 0)) (x0' : -2147483648 ≤ x') (x1' : x' ≤ 2147483647) (_a0' : 0 ≤ at_) (_a1' : at_ ≤ bs.length) (q0' : at_ + (Leb.putS 4 x').length ≤ q') (q1' : q' ≤ at_ + 5) :
    Calls Try.prog 5 #[v, .int .i64 at_] w fun e w' => e = .returned (.bool true) ∧ Below w.heap.size w w' := by
  have HV := Lib.hid hv; clear hv
  have HB := Lib.hid hb; clear hb
  have HR := Lib.hid hr; clear hr
  have HR' := Lib.hid hr'; clear hr'
  have p0 := Leb.putU_pos 4 x
  have ne0 : (((Leb.putU 4 x).length : Int) == 0) = false := by rw [beq_eq_false_iff_ne]; omega
  have p0' := Leb.putS_pos 4 x'
  go_enter Try.func5, Try.ntmps5
  go_wp2_with fail
  refine (awake01 _).mono ?_
  rintro e w1 ⟨rfl, b1⟩
  go_wp2_with fail
  refine (getU _ _ _ _ (HV.out.below b1 (Nat.le_refl _)) HB.out (by omega)).mono ?_
  rintro e w2 ⟨rfl, b2⟩
  rw [HR.out]
  simp only [tupU]
  go_wp2_with fail
  refine (getS _ _ _ _ (((HV.out.below b1 (Nat.le_refl _)).below b2 (Nat.le_refl _)).alloc _) HB.out (by omega)).mono ?_
  rintro e w3 ⟨rfl, b3⟩
  rw [HR'.out]
  simp only [tupS]
  have c1 : w3.cell? ⟨w2.heap.size, 0, none⟩ = some (.int .i64 0) := cellK b3 (by simp [go_sem])
  have c2 : w2.heap.size < w3.heap.size := by have := b3.size; simp only [World.size_alloc] at this; omega
  have bw := B.alloc (o := .cells #[.int .i64 0, .int .i64 0] 33) (B.call (B.alloc (B.call b1 b2) _) b3)
  go_wp2_with fail
  refine (putU _ _ x0 x1).mono ?_
  rintro _ w4 ⟨v4, rfl, o4, b4⟩
  obtain ⟨A4, k4, rfl, _, _⟩ := o4.sees.len
  have c3 : w4.cell? ⟨w2.heap.size, 0, none⟩ = some (.int .i64 0) := cellK b4 (by simp [go_sem, c1, c2])
  have c4 : w4.cell? ⟨w3.heap.size, 0, none⟩ = some (.int .i64 0) := cellK b4 (by simp [go_sem])
  have bw4 := B.call bw b4
  go_wp2_with fail
  refine (putU _ _ x0 x1).mono ?_
  rintro _ w5 ⟨v5, rfl, o5, b5⟩
  obtain ⟨A5, k5, rfl, _, _⟩ := o5.sees.len
  have c5a : w5.cell? ⟨w3.heap.size, 0, none⟩ = some (.int .i64 0) := cellK b5 (by assumption)
  have bw5 := B.call bw4 b5
  go_wp2_with fail
  refine (putS _ _ x0' x1').mono ?_
  rintro _ w6 ⟨v6, rfl, o6, b6⟩
  obtain ⟨A6, k6, rfl, _, _⟩ := o6.sees.len
  have c6a : w6.cell? ⟨w3.heap.size, 0, none⟩ = some (.int .i64 0) := cellK b6 (by assumption)
  have bw6 := B.call bw5 b6
  go_wp2_with fail
  refine (putS _ _ x0' x1').mono ?_
  rintro _ w7 ⟨v7, rfl, o7, b7⟩
  obtain ⟨A7, k7, rfl, _, _⟩ := o7.sees.len
  have c7a : w7.cell? ⟨w3.heap.size, 0, none⟩ = some (.int .i64 0) := cellK b7 (by assumption)
  have bw7 := B.call bw6 b7
  go_wp2_with fail
  go_ret
  exact ⟨ret_true (decide_eq_true p0'), bw7⟩

set_option maxHeartbeats 1000000 in
theorem lebShort_b (v : Value) (bs : List Int) (at_ x q e' p' : Int) (w : World) (hv : Sees .u8 w v bs) (hb : Byt bs) (hm : bs.length ≤ 140737488351232)
    (hr : Leb.getU bs at_ = (x, q, 0, 0)) (x0 : 0 ≤ x) (x1 : x < 4294967296) (_a0 : 0 ≤ at_) (_a1 : at_ ≤ bs.length) (q0 : at_ + (Leb.putU 4 x).length ≤ q) (q1 : q ≤ at_ + 5)
    (hr' : Leb.getS bs at_ = (0, 0, e', p')) (he' : e' = 4 ∨ e' = 5) :
    Calls Try.prog 5 #[v, .int .i64 at_] w fun e w' => e = .returned (.bool true) ∧ Below w.heap.size w w' := by
  have HV := Lib.hid hv; clear hv
  have HB := Lib.hid hb; clear hb
  have HR := Lib.hid hr; clear hr
  have HR' := Lib.hid hr'; clear hr'
  have p0 := Leb.putU_pos 4 x
  have ne0 : (((Leb.putU 4 x).length : Int) == 0) = false := by rw [beq_eq_false_iff_ne]; omega
  have he0' : ¬ e' = 0 := by omega
  clear he'
  go_enter Try.func5, Try.ntmps5
  go_wp2_with fail
  refine (awake01 _).mono ?_
  rintro e w1 ⟨rfl, b1⟩
  go_wp2_with fail
  refine (getU _ _ _ _ (HV.out.below b1 (Nat.le_refl _)) HB.out (by omega)).mono ?_
  rintro e w2 ⟨rfl, b2⟩
  rw [HR.out]
  simp only [tupU]
  go_wp2_with fail
  refine (getS _ _ _ _ (((HV.out.below b1 (Nat.le_refl _)).below b2 (Nat.le_refl _)).alloc _) HB.out (by omega)).mono ?_
  rintro e w3 ⟨rfl, b3⟩
  rw [HR'.out]
  simp only [tupS]
  have c1 : w3.cell? ⟨w2.heap.size, 0, none⟩ = some (.int .i64 0) := cellK b3 (by simp [go_sem])
  have c2 : w2.heap.size < w3.heap.size := by have := b3.size; simp only [World.size_alloc] at this; omega
  have bw := B.alloc (o := .cells #[.int .i64 e', .int .i64 p'] 33) (B.call (B.alloc (B.call b1 b2) _) b3)
  go_wp2_with fail
  refine (putU _ _ x0 x1).mono ?_
  rintro _ w4 ⟨v4, rfl, o4, b4⟩
  obtain ⟨A4, k4, rfl, _, _⟩ := o4.sees.len
  have c3 : w4.cell? ⟨w2.heap.size, 0, none⟩ = some (.int .i64 0) := cellK b4 (by simp [go_sem, c1, c2])
  have c4 : w4.cell? ⟨w3.heap.size, 0, none⟩ = some (.int .i64 e') := cellK b4 (by simp [go_sem])
  have bw4 := B.call bw b4
  go_wp2_with fail
  refine (putU _ _ x0 x1).mono ?_
  rintro _ w5 ⟨v5, rfl, o5, b5⟩
  obtain ⟨A5, k5, rfl, _, _⟩ := o5.sees.len
  have c5a : w5.cell? ⟨w3.heap.size, 0, none⟩ = some (.int .i64 e') := cellK b5 (by assumption)
  have bw5 := B.call bw4 b5
  go_wp2_with fail
  go_ret
  exact ⟨rfl, bw5⟩

set_option maxHeartbeats 1000000 in
theorem lebShort_c (v : Value) (bs : List Int) (at_ e p x' q' : Int) (w : World) (hv : Sees .u8 w v bs) (hb : Byt bs) (hm : bs.length ≤ 140737488351232)
    (hr : Leb.getU bs at_ = (0, 0, e, p)) (he : e = 4 ∨ e = 5)
    (hr' : Leb.getS bs at_ = (x', q', 0, 0)) (x0' : -2147483648 ≤ x') (x1' : x' ≤ 2147483647) (_a0' : 0 ≤ at_) (_a1' : at_ ≤ bs.length) (q0' : at_ + (Leb.putS 4 x').length ≤ q') (q1' : q' ≤ at_ + 5) :
    Calls Try.prog 5 #[v, .int .i64 at_] w fun e w' => e = .returned (.bool true) ∧ Below w.heap.size w w' := by
  have HV := Lib.hid hv; clear hv
  have HB := Lib.hid hb; clear hb
  have HR := Lib.hid hr; clear hr
  have HR' := Lib.hid hr'; clear hr'
  have he0 : ¬ e = 0 := by omega
  clear he
  have p0' := Leb.putS_pos 4 x'
  go_enter Try.func5, Try.ntmps5
  go_wp2_with fail
  refine (awake01 _).mono ?_
  rintro _ w1 ⟨rfl, b1⟩
  go_wp2_with fail
  refine (getU _ _ _ _ (HV.out.below b1 (Nat.le_refl _)) HB.out (by omega)).mono ?_
  rintro _ w2 ⟨rfl, b2⟩
  rw [HR.out]
  simp only [tupU]
  go_wp2_with fail
  refine (getS _ _ _ _ (((HV.out.below b1 (Nat.le_refl _)).below b2 (Nat.le_refl _)).alloc _) HB.out (by omega)).mono ?_
  rintro _ w3 ⟨rfl, b3⟩
  rw [HR'.out]
  simp only [tupS]
  have c1 : w3.cell? ⟨w2.heap.size, 0, none⟩ = some (.int .i64 e) := cellK b3 (by simp [go_sem])
  have c2 : w2.heap.size < w3.heap.size := by have := b3.size; simp only [World.size_alloc] at this; omega
  have bw := B.alloc (o := .cells #[.int .i64 0, .int .i64 0] 33) (B.call (B.alloc (B.call b1 b2) _) b3)
  go_wp2_with fail
  refine (putS _ _ x0' x1').mono ?_
  rintro _ w4 ⟨v4, rfl, o4, b4⟩
  obtain ⟨A4, k4, rfl, _, _⟩ := o4.sees.len
  have c3 : w4.cell? ⟨w2.heap.size, 0, none⟩ = some (.int .i64 e) := cellK b4 (by simp [go_sem, c1, c2])
  have c4 : w4.cell? ⟨w3.heap.size, 0, none⟩ = some (.int .i64 0) := cellK b4 (by simp [go_sem])
  have bw4 := B.call bw b4
  go_wp2_with fail
  refine (putS _ _ x0' x1').mono ?_
  rintro _ w5 ⟨v5, rfl, o5, b5⟩
  obtain ⟨A5, k5, rfl, _, _⟩ := o5.sees.len
  have c5a : w5.cell? ⟨w3.heap.size, 0, none⟩ = some (.int .i64 0) := cellK b5 (by assumption)
  have bw5 := B.call bw4 b5
  go_wp2_with fail
  go_ret
  exact ⟨ret_true (decide_eq_true p0'), bw5⟩

set_option maxHeartbeats 1000000 in
theorem lebShort_d (v : Value) (bs : List Int) (at_ e p e' p' : Int) (w : World) (hv : Sees .u8 w v bs) (hb : Byt bs) (hm : bs.length ≤ 140737488351232)
    (hr : Leb.getU bs at_ = (0, 0, e, p)) (he : e = 4 ∨ e = 5)
    (hr' : Leb.getS bs at_ = (0, 0, e', p')) (he' : e' = 4 ∨ e' = 5) :
    Calls Try.prog 5 #[v, .int .i64 at_] w fun e w' => e = .returned (.bool true) ∧ Below w.heap.size w w' := by
  have HV := Lib.hid hv; clear hv
  have HB := Lib.hid hb; clear hb
  have HR := Lib.hid hr; clear hr
  have HR' := Lib.hid hr'; clear hr'
  have he0 : ¬ e = 0 := by omega
  clear he
  have he0' : ¬ e' = 0 := by omega
  clear he'
  go_enter Try.func5, Try.ntmps5
  go_wp2_with fail
  refine (awake01 _).mono ?_
  rintro _ w1 ⟨rfl, b1⟩
  go_wp2_with fail
  refine (getU _ _ _ _ (HV.out.below b1 (Nat.le_refl _)) HB.out (by omega)).mono ?_
  rintro _ w2 ⟨rfl, b2⟩
  rw [HR.out]
  simp only [tupU]
  go_wp2_with fail
  refine (getS _ _ _ _ (((HV.out.below b1 (Nat.le_refl _)).below b2 (Nat.le_refl _)).alloc _) HB.out (by omega)).mono ?_
  rintro _ w3 ⟨rfl, b3⟩
  rw [HR'.out]
  simp only [tupS]
  have c1 : w3.cell? ⟨w2.heap.size, 0, none⟩ = some (.int .i64 e) := cellK b3 (by simp [go_sem])
  have c2 : w2.heap.size < w3.heap.size := by have := b3.size; simp only [World.size_alloc] at this; omega
  have bw := B.alloc (o := .cells #[.int .i64 e', .int .i64 p'] 33) (B.call (B.alloc (B.call b1 b2) _) b3)
  go_wp2_with fail
  go_ret
  exact ⟨rfl, bw⟩

theorem lebShortWalk (a : Option Addr) (len cap : Nat) (zs : List Int) (at_ : Int) (w : World) (h1 : IsRow .u8 w a len cap zs) (hr : cap * 1 ≤ 140737488351232) (_h2 : (Lit.int .i64 at_).wf = true) :
    Calls Try.prog 5 #[.slice a len cap, .int .i64 at_] w fun e w' => e = .returned (.bool true) ∧ Below w.heap.size w w' := by
  obtain ⟨s1, l1, b1⟩ := h1.sees
  have hb := Byt.of_wf b1
  have hm : (zs.take len).length ≤ 140737488351232 := by
    obtain ⟨A, c, he, hc, _⟩ := s1.len
    simp only [Value.slice.injEq] at he
    omega
  rcases Leb.getU_cases (zs.take len) at_ hb with ⟨x, q, hr, x0, x1, a0, a1, q0, q1, _⟩ | ⟨e, p, hr, he⟩ <;>
    rcases Leb.getS_cases (zs.take len) at_ hb with ⟨x', q', hr', x0', x1', a0', a1', q0', q1', _⟩ | ⟨e', p', hr', he'⟩
  · exact lebShort_a _ _ at_ x q x' q' w s1 hb hm hr x0 x1 a0 a1 q0 q1 hr' x0' x1' a0' a1' q0' q1'
  · exact lebShort_b _ _ at_ x q e' p' w s1 hb hm hr x0 x1 a0 a1 q0 q1 hr' (by omega)
  · exact lebShort_c _ _ at_ e p x' q' w s1 hb hm hr (by omega) hr' x0' x1' a0' a1' q0' q1'
  · exact lebShort_d _ _ at_ e p e' p' w s1 hb hm hr (by omega) hr' (by omega)

end Go.Proofs.Ytdlfmchpaohoaaa
