/- Layer 4: reads, with what is done for limits (printed by wip/gen_kindlim.py out of XKindReads). -/
import Derived.Test.YtdlfmchpaohoaaaKindDoLim
namespace Go.Proofs.Ytdlfmchpaohoaaa
open Go.RowKit

set_option maxHeartbeats 1000000 in
theorem reads_lim_ok (t : Nat) (v : Value) (bs : List Int) (a : Nat) (m : Nat) (most : Int) (w : World) (ht : VB w t 46 #[.int .u32 0, .int .u32 0, .bool false]) (hmo : VB w m 22 #[.int .u32 most]) (hmt : m ≠ t)
    (hv : Sees .u8 w v bs) (hb : Byt bs) (ha : a ≤ bs.length) (hm : bs.length ≤ 140737488351232) (x y c : Int) (q : Nat) (hg : Kind.limits bs a most = (x, y, c, (q : Int), 0, 0)) :
    Calls Try.prog 43 #[v, .int .i64 a, .func (.func 49) #[] #[.pointer (some ⟨t, 0, none⟩), .pointer (some ⟨m, 0, none⟩)]] w fun e w' =>
      e = .returned (.tuple #[.int .i64 q, .agg #[.int .i64 0, .int .i64 0]]) ∧ w.grownBy w' (some t) ∧ VB w' t 46 #[.int .u32 x, .int .u32 y, .bool (decide (c = 1))] := by
  have hmf : ∀ (fn : Fn) (first cap : Array Value) (w : World), (Instr.makeFunc fn first cap).run Try.prog w = .ok (.func fn first cap) w := fun _ _ _ _ => rfl
  have hdo := do_lim (w.heap.size + 2) t m v bs a most (((w.alloc (.cells #[.int .i64 0] 3)).alloc (.cells #[.int .i64 0, .int .i64 0] 33)).alloc (.cells #[v, .int .i64 a] 82))
    (RB.new _ _ _ _ (by simp)) (((ht.alloc _).alloc _).alloc _) (((hmo.alloc _).alloc _).alloc _) (by have := ht.lt; omega) (by have := hmo.lt; omega) hmt (((hv.alloc _).alloc _).alloc _) hb ha hm
  rw [hg] at hdo
  have HD := Lib.hid hdo; clear hdo hg
  have HT := Lib.hid ht; clear ht
  clear hmo
  obtain ⟨A, cap, rfl, _, _⟩ := hv.len
  have HV := Lib.hid hv; clear hv
  have HB := Lib.hid hb; clear hb
  have ha1 : ¬ (bs.length : Int) < a := by omega
  go_enter_defers Try.func43, Try.ntmps43
  go_wp2_with fail
  refine HD.out.mono ?_
  intro e w1 ho
  rcases ho with ⟨_, rfl, g1, r1, t1⟩ | ⟨h0, _, _⟩
  · have n1 := Grow2.vb g1 (((VB.new w 3 #[.int .i64 0]).alloc (.cells #[.int .i64 0, .int .i64 0] 33)).alloc (.cells #[.slice A bs.length cap, .int .i64 a] 82)) (by omega) (by have := HT.out.lt; omega)
    have f1 := Grow2.vb g1 ((VB.new (w.alloc (.cells #[.int .i64 0] 3)) 33 #[.int .i64 0, .int .i64 0]).alloc (.cells #[.slice A bs.length cap, .int .i64 a] 82)) (by simp) (by have := HT.out.lt; simp; omega)
    simp only [World.size_alloc] at n1 f1
    have a1 := n1.cell 0
    have a2 := n1.free 0
    have a3 := f1.cell 0
    have a4 := f1.cell 1
    have a5 := f1.free 0
    have a6 := f1.free 1
    have a7 := r1.cell1
    have a8 := f1.lt
    simp at a1 a3 a4 a7
    have N1 := Lib.hid n1; clear n1
    have F1 := Lib.hid f1; clear f1
    have R1 := Lib.hid r1; clear r1
    have T1 := Lib.hid t1; clear t1
    have G1 := Lib.hid g1; clear g1
    go_wp2_with fail
    refine leaves_cons (f := 53) (args := #[.pointer (some ⟨w.heap.size, 0, none⟩), .pointer (some ⟨w.heap.size + 1, 0, none⟩)]) (by simp) (by simp [go_sem]) ?_
    refine (catch_idle _ _ _).mono ?_
    rintro e u' w'' ⟨rfl, rfl, rfl⟩
    have lt := HT.out.lt
    have b9 : w.heap.size < w1.heap.size := by omega
    refine ⟨.tuple #[.int .i64 q, .agg #[.int .i64 0, .int .i64 0]], by simp [results, Try.results43, go_sem, a1, a3, a4, a8, b9], rfl, ?_, ?_⟩
    · exact G.alloc (G.setNew (G.setNew (G.setNew (Grow2.back (B.alloc (B.alloc (B.alloc (B.refl _) _) _) _) G1.out (by omega)) _ _ (Nat.le_refl _) _) _ _ (by omega) _) _ _ (by omega) _) _
    · exact (((T1.out.far _ _ (by omega) _).far _ _ (by omega) _).far _ _ (by omega) _).alloc _
  · exact absurd rfl h0

set_option maxHeartbeats 1000000 in
theorem reads_lim_bad (t : Nat) (v : Value) (bs : List Int) (a : Nat) (m : Nat) (most : Int) (w : World) (ht : VB w t 46 #[.int .u32 0, .int .u32 0, .bool false]) (hmo : VB w m 22 #[.int .u32 most]) (hmt : m ≠ t)
    (hv : Sees .u8 w v bs) (hb : Byt bs) (ha : a ≤ bs.length) (hm : bs.length ≤ 140737488351232) (e0 p0 : Int) (hg : Kind.limits bs a most = (0, 0, 0, 0, e0, p0)) (he : ¬ e0 = 0) :
    Calls Try.prog 43 #[v, .int .i64 a, .func (.func 49) #[] #[.pointer (some ⟨t, 0, none⟩), .pointer (some ⟨m, 0, none⟩)]] w fun e w' =>
      e = .returned (.tuple #[.int .i64 0, .agg #[.int .i64 e0, .int .i64 p0]]) ∧ w.grownBy w' (some t) := by
  have hmf : ∀ (fn : Fn) (first cap : Array Value) (w : World), (Instr.makeFunc fn first cap).run Try.prog w = .ok (.func fn first cap) w := fun _ _ _ _ => rfl
  have hdo := do_lim (w.heap.size + 2) t m v bs a most (((w.alloc (.cells #[.int .i64 0] 3)).alloc (.cells #[.int .i64 0, .int .i64 0] 33)).alloc (.cells #[v, .int .i64 a] 82))
    (RB.new _ _ _ _ (by simp)) (((ht.alloc _).alloc _).alloc _) (((hmo.alloc _).alloc _).alloc _) (by have := ht.lt; omega) (by have := hmo.lt; omega) hmt (((hv.alloc _).alloc _).alloc _) hb ha hm
  rw [hg] at hdo
  have HD := Lib.hid hdo; clear hdo hg
  have HT := Lib.hid ht; clear ht
  clear hmo
  obtain ⟨A, cap, rfl, _, _⟩ := hv.len
  have HV := Lib.hid hv; clear hv
  have HB := Lib.hid hb; clear hb
  have ha1 : ¬ (bs.length : Int) < a := by omega
  go_enter_defers Try.func43, Try.ntmps43
  go_wp2_with fail
  refine HD.out.mono ?_
  intro e w1 ho
  rcases ho with ⟨h0, _⟩ | ⟨_, rfl, g1⟩
  · exact absurd h0 he
  · have n1 := Grow2.vb g1 (((VB.new w 3 #[.int .i64 0]).alloc (.cells #[.int .i64 0, .int .i64 0] 33)).alloc (.cells #[.slice A bs.length cap, .int .i64 a] 82)) (by omega) (by have := HT.out.lt; omega)
    have f1 := Grow2.vb g1 ((VB.new (w.alloc (.cells #[.int .i64 0] 3)) 33 #[.int .i64 0, .int .i64 0]).alloc (.cells #[.slice A bs.length cap, .int .i64 a] 82)) (by simp) (by have := HT.out.lt; simp; omega)
    simp only [World.size_alloc] at n1 f1
    have a1 := n1.cell 0
    have a2 := n1.free 0
    have a3 := f1.cell 0
    have a4 := f1.cell 1
    have a5 := f1.free 0
    have a6 := f1.free 1
    have a8 := f1.lt
    have a9 := n1.lt
    simp at a1 a3 a4
    have G1 := Lib.hid g1; clear g1
    go_wp2_with fail
    refine leaves_cons (f := 53) (args := #[.pointer (some ⟨w.heap.size, 0, none⟩), .pointer (some ⟨w.heap.size + 1, 0, none⟩)]) (by simp) (by simp [go_sem]) ?_
    refine (catch_stop _ _ e0 p0 0 0 0 [] _ a1 a2 a3 a4 a5 a6 (by omega) a9 a8).mono ?_
    rintro e u' w'' ⟨rfl, rfl, rfl⟩
    have lt := HT.out.lt
    refine ⟨.tuple #[.int .i64 0, .agg #[.int .i64 e0, .int .i64 p0]], by simp [results, Try.results43, go_sem, a1, a3, a4, a8, a9], rfl, ?_⟩
    exact G.drew (G.alloc (G.setNew (G.setNew (G.setNew (Grow2.back (B.alloc (B.alloc (B.alloc (B.refl _) _) _) _) G1.out (by omega)) _ _ (Nat.le_refl _) _) _ _ (by omega) _) _ _ (by omega) _) _)

end Go.Proofs.Ytdlfmchpaohoaaa
