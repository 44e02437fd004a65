/- Layer 4: kind.Get. -/
import Derived.Test.YtdlfmchpaohoaaaKindReads
namespace Go.Proofs.Ytdlfmchpaohoaaa
open Go.RowKit

def tupT (r : Int × Int × Int × Int × Int) : Value := .tuple #[.agg #[.int .i64 r.1, .int .i64 r.2.1], .int .i64 r.2.2.1, .agg #[.int .i64 r.2.2.2.1, .int .i64 r.2.2.2.2]]

/-- A function's type, from whatever place. -/
def Kind.getAt (bs : List Int) (at_ : Int) : Int × Int × Int × Int × Int :=
  if at_ < 0 ∨ (bs.length : Int) < at_ then (0, 0, 0, 5, 0) else Kind.get bs at_.toNat

theorem Kind.get_cases (bs : List Int) (a : Nat) (hb : Byt bs) :
    (∃ x y q : Nat, Kind.get bs a = ((x : Int), (y : Int), (q : Int), 0, 0) ∧ x ≤ 255 ∧ y ≤ 1 ∧ a < q ∧ q ≤ bs.length) ∨ ∃ e p, Kind.get bs a = (0, 0, 0, e, p) ∧ ¬ e = 0 := by
  unfold Kind.get
  cases hc : bs[a]? with
  | none => exact .inr ⟨4, bs.length, rfl, by decide⟩
  | some c =>
    by_cases h96 : c = 96
    · rcases Kind.words_cases bs ((a + 1 : Nat) : Int) 255 hb with ⟨x, q, hP, hx, hq1, hq0, hq2⟩ | ⟨e1, p1, hP, he1⟩
      · rcases Kind.words_cases bs (q : Int) 1 hb with ⟨y, r, hQ, hy, hr1, hr0, hr2⟩ | ⟨e2, p2, hQ, he2⟩
        · exact .inl ⟨x, y, r, by simp only [h96, hP, hQ]; rfl, by omega, by omega, by omega, hr2⟩
        · exact .inr ⟨e2, p2, by simp only [h96, hP, hQ]; simp [he2], he2⟩
      · exact .inr ⟨e1, p1, by simp only [h96, hP]; simp [he1], he1⟩
    · exact .inr ⟨140, a, by simp [h96], by decide⟩

set_option maxHeartbeats 1000000 in
theorem kindGet_ok (v : Value) (bs : List Int) (a : Nat) (w : World) (hv : Sees .u8 w v bs) (hb : Byt bs) (ha : a ≤ bs.length) (hm : bs.length ≤ 140737488351232) (x y : Int) (q : Nat) (hg : Kind.get bs a = (x, y, (q : Int), 0, 0)) :
    Calls Try.prog 22 #[v, .int .i64 a] w fun e w' => e = .returned (tupT (x, y, q, 0, 0)) ∧ Below w.heap.size w w' := by
  have hmf : ∀ (fn : Fn) (first cap : Array Value) (w : World), (Instr.makeFunc fn first cap).run Try.prog w = .ok (.func fn first cap) w := fun _ _ _ _ => rfl
  have hdo := reads_get_ok (w.heap.size + 2) v bs a 0 0 (((w.alloc (.cells #[.int .i64 0, .int .i64 0] 42)).alloc (.cells #[.int .i64 0, .int .i64 0] 33)).alloc (.cells #[.int .i64 0, .int .i64 0] 42))
    (by have := VB.new ((w.alloc (.cells #[.int .i64 0, .int .i64 0] 42)).alloc (.cells #[.int .i64 0, .int .i64 0] 33)) 42 #[.int .i64 0, .int .i64 0]; simpa using this) (((hv.alloc _).alloc _).alloc _) hb ha hm x y q hg
  have HD := Lib.hid hdo; clear hdo hg
  clear hv
  go_enter Try.func22, Try.ntmps22
  go_wp2_with fail
  refine HD.out.mono ?_
  rintro e w1 ⟨rfl, g1, t1⟩
  have n1 := (((VB.new w 42 #[.int .i64 0, .int .i64 0]).alloc (.cells #[.int .i64 0, .int .i64 0] 33)).alloc (.cells #[.int .i64 0, .int .i64 0] 42)).grown g1 (by omega)
  have f1 := ((VB.new (w.alloc (.cells #[.int .i64 0, .int .i64 0] 42)) 33 #[.int .i64 0, .int .i64 0]).alloc (.cells #[.int .i64 0, .int .i64 0] 42)).grown g1 (by simp)
  simp only [World.size_alloc] at n1 f1
  have a1 := n1.cell 0
  have a1' := n1.cell 1
  have a2 := n1.free 0
  have a2' := n1.free 1
  have a3 := f1.cell 0
  have a4 := f1.cell 1
  have a5 := f1.free 0
  have a6 := f1.free 1
  have a7 := t1.cell 0
  have a7' := t1.cell 1
  have a8 := f1.lt
  have a9 := n1.lt
  have a10 := t1.lt
  simp at a1 a1' a3 a4 a7 a7'
  clear t1 n1 f1
  have G1 := Lib.hid g1; clear g1
  go_wp2_with fail
  go_region
  all_goals go_wp2_with fail
  have lt9 : w.heap.size < w1.heap.size := a9
  have lt8 : w.heap.size + 1 < w1.heap.size := a8
  have bw : Below w.heap.size w w1 := (B.alloc (B.alloc (B.alloc (B.refl w) _) _) _).grown G1.out (by simp; omega) (by intro k hk; simp at hk; omega)
  refine bodyPost_ret (v := tupT (x, y, q, 0, 0)) (by simp [results, Try.results22, go_sem, a1, a1', a3, a4, lt8, lt9, tupT]) rfl ⟨rfl, ?_⟩
  exact ((((bw.setCell (p := ⟨w.heap.size, 0, none⟩) (Nat.le_refl _) _).setCell (p := ⟨w.heap.size, 1, none⟩) (Nat.le_refl _) _).setCell (p := ⟨w.heap.size + 1, 0, none⟩) (by simp) _).setCell (p := ⟨w.heap.size + 1, 1, none⟩) (by simp) _).alloc (by simp; omega) _ |>.drew

set_option maxHeartbeats 1000000 in
theorem kindGet_bad (v : Value) (bs : List Int) (a : Nat) (w : World) (hv : Sees .u8 w v bs) (hb : Byt bs) (ha : a ≤ bs.length) (hm : bs.length ≤ 140737488351232) (e0 p0 : Int) (hg : Kind.get bs a = (0, 0, 0, e0, p0)) (he : ¬ e0 = 0) :
    Calls Try.prog 22 #[v, .int .i64 a] w fun e w' => e = .returned (tupT (0, 0, 0, e0, p0)) ∧ Below w.heap.size w w' := by
  have hmf : ∀ (fn : Fn) (first cap : Array Value) (w : World), (Instr.makeFunc fn first cap).run Try.prog w = .ok (.func fn first cap) w := fun _ _ _ _ => rfl
  have hdo := reads_get_bad (w.heap.size + 2) v bs a 0 0 (((w.alloc (.cells #[.int .i64 0, .int .i64 0] 42)).alloc (.cells #[.int .i64 0, .int .i64 0] 33)).alloc (.cells #[.int .i64 0, .int .i64 0] 42))
    (by have := VB.new ((w.alloc (.cells #[.int .i64 0, .int .i64 0] 42)).alloc (.cells #[.int .i64 0, .int .i64 0] 33)) 42 #[.int .i64 0, .int .i64 0]; simpa using this) (((hv.alloc _).alloc _).alloc _) hb ha hm e0 p0 hg he
  have HD := Lib.hid hdo; clear hdo hg
  clear hv
  go_enter Try.func22, Try.ntmps22
  go_wp2_with fail
  refine HD.out.mono ?_
  rintro e w1 ⟨rfl, g1⟩
  have n1 := (((VB.new w 42 #[.int .i64 0, .int .i64 0]).alloc (.cells #[.int .i64 0, .int .i64 0] 33)).alloc (.cells #[.int .i64 0, .int .i64 0] 42)).grown g1 (by omega)
  have f1 := ((VB.new (w.alloc (.cells #[.int .i64 0, .int .i64 0] 42)) 33 #[.int .i64 0, .int .i64 0]).alloc (.cells #[.int .i64 0, .int .i64 0] 42)).grown g1 (by simp)
  simp only [World.size_alloc] at n1 f1
  have a1 := n1.cell 0
  have a1' := n1.cell 1
  have a2 := n1.free 0
  have a2' := n1.free 1
  have a3 := f1.cell 0
  have a4 := f1.cell 1
  have a5 := f1.free 0
  have a6 := f1.free 1
  have a8 := f1.lt
  have a9 := n1.lt
  simp at a1 a1' a3 a4
  clear n1 f1
  have G1 := Lib.hid g1; clear g1
  go_wp2_with fail
  go_region
  all_goals go_wp2_with fail
  have lt9 : w.heap.size < w1.heap.size := a9
  have lt8 : w.heap.size + 1 < w1.heap.size := a8
  have bw : Below w.heap.size w w1 := (B.alloc (B.alloc (B.alloc (B.refl w) _) _) _).grown G1.out (by simp; omega) (by intro k hk; simp at hk; omega)
  refine bodyPost_ret (v := tupT (0, 0, 0, e0, p0)) (by simp [results, Try.results22, go_sem, a1, a1', a3, a4, lt8, lt9, tupT]) rfl ⟨rfl, ?_⟩
  exact ((((bw.setCell (p := ⟨w.heap.size, 0, none⟩) (Nat.le_refl _) _).setCell (p := ⟨w.heap.size, 1, none⟩) (Nat.le_refl _) _).setCell (p := ⟨w.heap.size + 1, 0, none⟩) (by simp) _).setCell (p := ⟨w.heap.size + 1, 1, none⟩) (by simp) _).alloc (by simp; omega) _ |>.drew

set_option maxHeartbeats 1000000 in
theorem kindGet_out (v : Value) (bs : List Int) (at_ : Int) (w : World) (hv : Sees .u8 w v bs) (h : at_ < 0 ∨ (bs.length : Int) < at_) :
    Calls Try.prog 22 #[v, .int .i64 at_] w fun e w' => e = .returned (tupT (0, 0, 0, 5, 0)) ∧ Below w.heap.size w w' := by
  have hmf : ∀ (fn : Fn) (first cap : Array Value) (w : World), (Instr.makeFunc fn first cap).run Try.prog w = .ok (.func fn first cap) w := fun _ _ _ _ => rfl
  have hdo := fun d => reads_out v d bs at_ (((w.alloc (.cells #[.int .i64 0, .int .i64 0] 42)).alloc (.cells #[.int .i64 0, .int .i64 0] 33)).alloc (.cells #[.int .i64 0, .int .i64 0] 42)) (((hv.alloc _).alloc _).alloc _) h
  have HD := Lib.hid hdo; clear hdo h
  clear hv
  go_enter Try.func22, Try.ntmps22
  go_wp2_with fail
  refine (HD.out _).mono ?_
  rintro e w1 ⟨rfl, b1⟩
  have n1 := (((VB.new w 42 #[.int .i64 0, .int .i64 0]).alloc (.cells #[.int .i64 0, .int .i64 0] 33)).alloc (.cells #[.int .i64 0, .int .i64 0] 42)).below b1 (by simp; omega)
  have f1 := ((VB.new (w.alloc (.cells #[.int .i64 0, .int .i64 0] 42)) 33 #[.int .i64 0, .int .i64 0]).alloc (.cells #[.int .i64 0, .int .i64 0] 42)).below b1 (by simp)
  simp only [World.size_alloc] at n1 f1
  have a1 := n1.cell 0
  have a1' := n1.cell 1
  have a2 := n1.free 0
  have a2' := n1.free 1
  have a3 := f1.cell 0
  have a4 := f1.cell 1
  have a5 := f1.free 0
  have a6 := f1.free 1
  have a8 := f1.lt
  have a9 := n1.lt
  simp at a1 a1' a3 a4
  clear n1 f1
  go_wp2_with fail
  go_region
  all_goals go_wp2_with fail
  have lt9 : w.heap.size < w1.heap.size := a9
  have lt8 : w.heap.size + 1 < w1.heap.size := a8
  have bw : Below w.heap.size w w1 := B.call (B.alloc (B.alloc (B.alloc (B.refl w) _) _) _) b1
  refine bodyPost_ret (v := tupT (0, 0, 0, 5, 0)) (by simp [results, Try.results22, go_sem, a1, a1', a3, a4, lt8, lt9, tupT]) rfl ⟨rfl, ?_⟩
  exact ((((bw.setCell (p := ⟨w.heap.size, 0, none⟩) (Nat.le_refl _) _).setCell (p := ⟨w.heap.size, 1, none⟩) (Nat.le_refl _) _).setCell (p := ⟨w.heap.size + 1, 0, none⟩) (by simp) _).setCell (p := ⟨w.heap.size + 1, 1, none⟩) (by simp) _).alloc (by simp; omega) _ |>.drew

theorem kindGet (v : Value) (bs : List Int) (at_ : Int) (w : World) (hv : Sees .u8 w v bs) (hb : Byt bs) (hm : bs.length ≤ 140737488351232) :
    Calls Try.prog 22 #[v, .int .i64 at_] w fun e w' => e = .returned (tupT (Kind.getAt bs at_)) ∧ Below w.heap.size w w' := by
  by_cases h : at_ < 0 ∨ (bs.length : Int) < at_
  · have hr : Kind.getAt bs at_ = (0, 0, 0, 5, 0) := by unfold Kind.getAt; rw [if_pos h]
    rw [hr]; exact kindGet_out v bs at_ w hv h
  · obtain ⟨a, rfl⟩ := Int.eq_ofNat_of_zero_le (show 0 ≤ at_ by omega)
    have hr : Kind.getAt bs a = Kind.get bs a := by unfold Kind.getAt; rw [if_neg h, Int.toNat_natCast]
    rw [hr]
    rcases Kind.get_cases bs a hb with ⟨x, y, q, hg, _⟩ | ⟨e0, p0, hg, he⟩
    · rw [hg]; exact kindGet_ok v bs a w hv hb (by omega) hm _ _ q hg
    · rw [hg]; exact kindGet_bad v bs a w hv hb (by omega) hm e0 p0 hg he

end Go.Proofs.Ytdlfmchpaohoaaa
