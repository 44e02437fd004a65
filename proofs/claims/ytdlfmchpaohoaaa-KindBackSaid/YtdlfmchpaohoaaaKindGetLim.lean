/- Layer 4: kind.GetLimits (printed by wip/gen_kindlim.py out of XKindGet). -/
import Derived.Test.YtdlfmchpaohoaaaKindReadsLim
namespace Go.Proofs.Ytdlfmchpaohoaaa
open Go.RowKit

def tupL (r : Int × Int × Int × Int × Int × Int) : Value := .tuple #[.agg #[.int .u32 r.1, .int .u32 r.2.1, .bool (decide (r.2.2.1 = 1))], .int .i64 r.2.2.2.1, .agg #[.int .i64 r.2.2.2.2.1, .int .i64 r.2.2.2.2.2]]

def Kind.limitsAt (bs : List Int) (at_ most : Int) : Int × Int × Int × Int × Int × Int :=
  if at_ < 0 ∨ (bs.length : Int) < at_ then (0, 0, 0, 0, 5, 0) else Kind.limits bs at_.toNat most

theorem Kind.limits_cases (bs : List Int) (a : Nat) (most : Int) (hb : Byt bs) :
    (∃ x y q : Nat, ∃ c : Int, Kind.limits bs a most = ((x : Int), (y : Int), c, (q : Int), 0, 0) ∧ x < 4294967296 ∧ y < 4294967296 ∧ (x : Int) ≤ most ∧ (c = 0 ∧ y = 0 ∨ c = 1 ∧ x ≤ y ∧ (y : Int) ≤ most) ∧ a < q ∧ q ≤ bs.length) ∨
    ∃ e p, Kind.limits bs a most = (0, 0, 0, 0, e, p) ∧ ¬ e = 0 := by
  unfold Kind.limits
  cases hc : bs[a]? with
  | none => exact .inr ⟨4, bs.length, rfl, by decide⟩
  | some c =>
    by_cases h01 : c ≠ 0 ∧ c ≠ 1
    · exact .inr ⟨140, a, by simp [h01], by decide⟩
    · rcases Kind.num_cases bs ((a + 1 : Nat) : Int) 0 most hb with ⟨x, q, hN, _, hx0, hx1, hx2, hq1, hq0, hq2⟩ | ⟨e1, p1, hN, he1, _⟩
      · by_cases h0 : c = 0
        · exact .inl ⟨x, 0, q, 0, by simp only [h0, hN]; rfl, hx2, by decide, hx1, .inl ⟨rfl, rfl⟩, by omega, hq2⟩
        · rcases Kind.num_cases bs (q : Int) x most hb with ⟨y, r, hN', _, hy0, hy1, hy2, hr1, hr0, hr2⟩ | ⟨e2, p2, hN', he2, _⟩
          · have h1 : c = 1 := by omega
            exact .inl ⟨x, y, r, 1, by simp only [h1, hN, hN']; rfl, hx2, hy2, hx1, .inr ⟨rfl, by omega, hy1⟩, by omega, hr2⟩
          · exact .inr ⟨e2, p2, by simp only [if_neg h01, hN, hN']; simp [h0, he2], he2⟩
      · exact .inr ⟨e1, p1, by simp only [if_neg h01, hN]; simp [he1], he1⟩

set_option maxHeartbeats 1000000 in
theorem kindLim_ok (v : Value) (bs : List Int) (a : Nat) (w : World) (hv : Sees .u8 w v bs) (hb : Byt bs) (ha : a ≤ bs.length) (hm : bs.length ≤ 140737488351232) (most : Int) (x y c : Int) (q : Nat) (hg : Kind.limits bs a most = (x, y, c, (q : Int), 0, 0)) :
    Calls Try.prog 24 #[v, .int .i64 a, .int .u32 most] w fun e w' => e = .returned (tupL (x, y, c, q, 0, 0)) ∧ Below w.heap.size w w' := by
  have hmf : ∀ (fn : Fn) (first cap : Array Value) (w : World), (Instr.makeFunc fn first cap).run Try.prog w = .ok (.func fn first cap) w := fun _ _ _ _ => rfl
  have hdo := reads_lim_ok (w.heap.size + 3) v bs a w.heap.size most ((((w.alloc (.cells #[.int .u32 most] 22)).alloc (.cells #[.int .u32 0, .int .u32 0, .bool false] 46)).alloc (.cells #[.int .i64 0, .int .i64 0] 33)).alloc (.cells #[.int .u32 0, .int .u32 0, .bool false] 46))
    (by have := VB.new (((w.alloc (.cells #[.int .u32 most] 22)).alloc (.cells #[.int .u32 0, .int .u32 0, .bool false] 46)).alloc (.cells #[.int .i64 0, .int .i64 0] 33)) 46 #[.int .u32 0, .int .u32 0, .bool false]; simpa using this) ((((VB.new w 22 #[.int .u32 most]).alloc _).alloc _).alloc _) (by omega) ((((hv.alloc _).alloc _).alloc _).alloc _) hb ha hm x y c q hg
  have HD := Lib.hid hdo; clear hdo hg
  clear hv
  go_enter Try.func24, Try.ntmps24
  go_wp2_with fail
  refine HD.out.mono ?_
  rintro e w1 ⟨rfl, g1, t1⟩
  have n1 := (((VB.new (w.alloc (.cells #[.int .u32 most] 22)) 46 #[.int .u32 0, .int .u32 0, .bool false]).alloc (.cells #[.int .i64 0, .int .i64 0] 33)).alloc (.cells #[.int .u32 0, .int .u32 0, .bool false] 46)).grown g1 (by simp)
  have f1 := ((VB.new ((w.alloc (.cells #[.int .u32 most] 22)).alloc (.cells #[.int .u32 0, .int .u32 0, .bool false] 46)) 33 #[.int .i64 0, .int .i64 0]).alloc (.cells #[.int .u32 0, .int .u32 0, .bool false] 46)).grown g1 (by simp)
  simp only [World.size_alloc] at n1 f1
  have a1 := n1.cell 0
  have a1' := n1.cell 1
  have a1'' := n1.cell 2
  have a2 := n1.free 0
  have a2' := n1.free 1
  have a2'' := n1.free 2
  have a3 := f1.cell 0
  have a4 := f1.cell 1
  have a5 := f1.free 0
  have a6 := f1.free 1
  have a7 := t1.cell 0
  have a7' := t1.cell 1
  have a7'' := t1.cell 2
  have a8 := f1.lt
  have a9 := n1.lt
  have a10 := t1.lt
  simp at a1 a1' a1'' a3 a4 a7 a7' a7''
  clear t1 n1 f1
  have G1 := Lib.hid g1; clear g1
  go_wp2_with fail
  go_region
  all_goals go_wp2_with fail
  have lt9 : w.heap.size + 1 < w1.heap.size := a9
  have lt8 : w.heap.size + 1 + 1 < w1.heap.size := a8
  have bw : Below w.heap.size w w1 := (B.alloc (B.alloc (B.alloc (B.alloc (B.refl w) _) _) _) _).grown G1.out (by simp; omega) (by intro k hk; simp at hk; omega)
  refine bodyPost_ret (v := tupL (x, y, c, q, 0, 0)) (by simp [results, Try.results24, go_sem, a1, a1', a1'', a3, a4, lt8, lt9, tupL]) rfl ⟨rfl, ?_⟩
  exact (((((bw.setCell (p := ⟨w.heap.size + 1, 0, none⟩) (by simp) _).setCell (p := ⟨w.heap.size + 1, 1, none⟩) (by simp) _).setCell (p := ⟨w.heap.size + 1, 2, none⟩) (by simp) _).setCell (p := ⟨w.heap.size + 1 + 1, 0, none⟩) (by simp; omega) _).setCell (p := ⟨w.heap.size + 1 + 1, 1, none⟩) (by simp; omega) _).alloc (by simp; omega) _ |>.drew

set_option maxHeartbeats 1000000 in
theorem kindLim_bad (v : Value) (bs : List Int) (a : Nat) (w : World) (hv : Sees .u8 w v bs) (hb : Byt bs) (ha : a ≤ bs.length) (hm : bs.length ≤ 140737488351232) (most : Int) (e0 p0 : Int) (hg : Kind.limits bs a most = (0, 0, 0, 0, e0, p0)) (he : ¬ e0 = 0) :
    Calls Try.prog 24 #[v, .int .i64 a, .int .u32 most] w fun e w' => e = .returned (tupL (0, 0, 0, 0, e0, p0)) ∧ Below w.heap.size w w' := by
  have hmf : ∀ (fn : Fn) (first cap : Array Value) (w : World), (Instr.makeFunc fn first cap).run Try.prog w = .ok (.func fn first cap) w := fun _ _ _ _ => rfl
  have hdo := reads_lim_bad (w.heap.size + 3) v bs a w.heap.size most ((((w.alloc (.cells #[.int .u32 most] 22)).alloc (.cells #[.int .u32 0, .int .u32 0, .bool false] 46)).alloc (.cells #[.int .i64 0, .int .i64 0] 33)).alloc (.cells #[.int .u32 0, .int .u32 0, .bool false] 46))
    (by have := VB.new (((w.alloc (.cells #[.int .u32 most] 22)).alloc (.cells #[.int .u32 0, .int .u32 0, .bool false] 46)).alloc (.cells #[.int .i64 0, .int .i64 0] 33)) 46 #[.int .u32 0, .int .u32 0, .bool false]; simpa using this) ((((VB.new w 22 #[.int .u32 most]).alloc _).alloc _).alloc _) (by omega) ((((hv.alloc _).alloc _).alloc _).alloc _) hb ha hm e0 p0 hg he
  have HD := Lib.hid hdo; clear hdo hg
  clear hv
  go_enter Try.func24, Try.ntmps24
  go_wp2_with fail
  refine HD.out.mono ?_
  rintro e w1 ⟨rfl, g1⟩
  have n1 := (((VB.new (w.alloc (.cells #[.int .u32 most] 22)) 46 #[.int .u32 0, .int .u32 0, .bool false]).alloc (.cells #[.int .i64 0, .int .i64 0] 33)).alloc (.cells #[.int .u32 0, .int .u32 0, .bool false] 46)).grown g1 (by simp)
  have f1 := ((VB.new ((w.alloc (.cells #[.int .u32 most] 22)).alloc (.cells #[.int .u32 0, .int .u32 0, .bool false] 46)) 33 #[.int .i64 0, .int .i64 0]).alloc (.cells #[.int .u32 0, .int .u32 0, .bool false] 46)).grown g1 (by simp)
  simp only [World.size_alloc] at n1 f1
  have a1 := n1.cell 0
  have a1' := n1.cell 1
  have a1'' := n1.cell 2
  have a2 := n1.free 0
  have a2' := n1.free 1
  have a2'' := n1.free 2
  have a3 := f1.cell 0
  have a4 := f1.cell 1
  have a5 := f1.free 0
  have a6 := f1.free 1
  have a8 := f1.lt
  have a9 := n1.lt
  simp at a1 a1' a1'' a3 a4
  clear n1 f1
  have G1 := Lib.hid g1; clear g1
  go_wp2_with fail
  go_region
  all_goals go_wp2_with fail
  have lt9 : w.heap.size + 1 < w1.heap.size := a9
  have lt8 : w.heap.size + 1 + 1 < w1.heap.size := a8
  have bw : Below w.heap.size w w1 := (B.alloc (B.alloc (B.alloc (B.alloc (B.refl w) _) _) _) _).grown G1.out (by simp; omega) (by intro k hk; simp at hk; omega)
  refine bodyPost_ret (v := tupL (0, 0, 0, 0, e0, p0)) (by simp [results, Try.results24, go_sem, a1, a1', a1'', a3, a4, lt8, lt9, tupL]) rfl ⟨rfl, ?_⟩
  exact (((((bw.setCell (p := ⟨w.heap.size + 1, 0, none⟩) (by simp) _).setCell (p := ⟨w.heap.size + 1, 1, none⟩) (by simp) _).setCell (p := ⟨w.heap.size + 1, 2, none⟩) (by simp) _).setCell (p := ⟨w.heap.size + 1 + 1, 0, none⟩) (by simp; omega) _).setCell (p := ⟨w.heap.size + 1 + 1, 1, none⟩) (by simp; omega) _).alloc (by simp; omega) _ |>.drew

set_option maxHeartbeats 1000000 in
theorem kindLim_out (v : Value) (bs : List Int) (at_ most : Int) (w : World) (hv : Sees .u8 w v bs) (h : at_ < 0 ∨ (bs.length : Int) < at_) :
    Calls Try.prog 24 #[v, .int .i64 at_, .int .u32 most] w fun e w' => e = .returned (tupL (0, 0, 0, 0, 5, 0)) ∧ Below w.heap.size w w' := by
  have hmf : ∀ (fn : Fn) (first cap : Array Value) (w : World), (Instr.makeFunc fn first cap).run Try.prog w = .ok (.func fn first cap) w := fun _ _ _ _ => rfl
  have hdo := fun d => reads_out v d bs at_ ((((w.alloc (.cells #[.int .u32 most] 22)).alloc (.cells #[.int .u32 0, .int .u32 0, .bool false] 46)).alloc (.cells #[.int .i64 0, .int .i64 0] 33)).alloc (.cells #[.int .u32 0, .int .u32 0, .bool false] 46)) ((((hv.alloc _).alloc _).alloc _).alloc _) h
  have HD := Lib.hid hdo; clear hdo h
  clear hv
  go_enter Try.func24, Try.ntmps24
  go_wp2_with fail
  refine (HD.out _).mono ?_
  rintro e w1 ⟨rfl, b1⟩
  have n1 := (((VB.new (w.alloc (.cells #[.int .u32 most] 22)) 46 #[.int .u32 0, .int .u32 0, .bool false]).alloc (.cells #[.int .i64 0, .int .i64 0] 33)).alloc (.cells #[.int .u32 0, .int .u32 0, .bool false] 46)).below b1 (by simp)
  have f1 := ((VB.new ((w.alloc (.cells #[.int .u32 most] 22)).alloc (.cells #[.int .u32 0, .int .u32 0, .bool false] 46)) 33 #[.int .i64 0, .int .i64 0]).alloc (.cells #[.int .u32 0, .int .u32 0, .bool false] 46)).below b1 (by simp)
  simp only [World.size_alloc] at n1 f1
  have a1 := n1.cell 0
  have a1' := n1.cell 1
  have a1'' := n1.cell 2
  have a2 := n1.free 0
  have a2' := n1.free 1
  have a2'' := n1.free 2
  have a3 := f1.cell 0
  have a4 := f1.cell 1
  have a5 := f1.free 0
  have a6 := f1.free 1
  have a8 := f1.lt
  have a9 := n1.lt
  simp at a1 a1' a1'' a3 a4
  clear n1 f1
  go_wp2_with fail
  go_region
  all_goals go_wp2_with fail
  have lt9 : w.heap.size + 1 < w1.heap.size := a9
  have lt8 : w.heap.size + 1 + 1 < w1.heap.size := a8
  have bw : Below w.heap.size w w1 := B.call (B.alloc (B.alloc (B.alloc (B.alloc (B.refl w) _) _) _) _) b1
  refine bodyPost_ret (v := tupL (0, 0, 0, 0, 5, 0)) (by simp [results, Try.results24, go_sem, a1, a1', a1'', a3, a4, lt8, lt9, tupL]) rfl ⟨rfl, ?_⟩
  exact (((((bw.setCell (p := ⟨w.heap.size + 1, 0, none⟩) (by simp) _).setCell (p := ⟨w.heap.size + 1, 1, none⟩) (by simp) _).setCell (p := ⟨w.heap.size + 1, 2, none⟩) (by simp) _).setCell (p := ⟨w.heap.size + 1 + 1, 0, none⟩) (by simp; omega) _).setCell (p := ⟨w.heap.size + 1 + 1, 1, none⟩) (by simp; omega) _).alloc (by simp; omega) _ |>.drew

theorem kindLim (v : Value) (bs : List Int) (at_ most : Int) (w : World) (hv : Sees .u8 w v bs) (hb : Byt bs) (hm : bs.length ≤ 140737488351232) :
    Calls Try.prog 24 #[v, .int .i64 at_, .int .u32 most] w fun e w' => e = .returned (tupL (Kind.limitsAt bs at_ most)) ∧ Below w.heap.size w w' := by
  by_cases h : at_ < 0 ∨ (bs.length : Int) < at_
  · have hr : Kind.limitsAt bs at_ most = (0, 0, 0, 0, 5, 0) := by unfold Kind.limitsAt; rw [if_pos h]
    rw [hr]; exact kindLim_out v bs at_ most w hv h
  · obtain ⟨a, rfl⟩ := Int.eq_ofNat_of_zero_le (show 0 ≤ at_ by omega)
    have hr : Kind.limitsAt bs a most = Kind.limits bs a most := by unfold Kind.limitsAt; rw [if_neg h, Int.toNat_natCast]
    rw [hr]
    rcases Kind.limits_cases bs a most hb with ⟨x, y, q, c, hg, _⟩ | ⟨e0, p0, hg, he⟩
    · rw [hg]; exact kindLim_ok v bs a w hv hb (by omega) hm most _ _ c q hg
    · rw [hg]; exact kindLim_bad v bs a w hv hb (by omega) hm most e0 p0 hg he

end Go.Proofs.Ytdlfmchpaohoaaa
