/- Layer 4: reads, with what is done for a function's type. -/
import Derived.Test.YtdlfmchpaohoaaaKindCatch
namespace Go.Proofs.Ytdlfmchpaohoaaa
open Go.RowKit

theorem Grow2.vb {w w' : World} {g t b : Nat} {T : TypeId} {cs : Array Value} (h : Grow2 w w' g t) (hb : VB w b T cs) (h1 : b ≠ g) (h2 : b ≠ t) : VB w' b T cs := (h.block b hb.lt h1 h2).trans hb

theorem VB.new (w : World) (T : TypeId) (cs : Array Value) : VB (w.alloc (.cells cs T)) w.heap.size T cs := heap_alloc_new w _

theorem RB.new (w : World) (g : Nat) (v : Value) (a : Nat) (hg : g = w.heap.size) : RB (w.alloc (.cells #[v, .int .i64 a] 82)) g v a := by subst hg; exact heap_alloc_new w _

theorem VB.far {w : World} {t : Nat} {T : TypeId} {cs : Array Value} (h : VB w t T cs) (b i : Nat) (hne : t ≠ b) (u : Value) : VB (w.setCell ⟨b, i, none⟩ u) t T cs := (Below.heap_setCell w ⟨b, i, none⟩ u t hne).trans h

/-- Seen from ahead of the new blocks. -/
theorem Grow2.back {w w3 w1 : World} {g t : Nat} (hb : Below w.heap.size w w3) (h : Grow2 w3 w1 g t) (hg : w.heap.size ≤ g) : w.grownBy w1 (some t) :=
  ⟨h.os.trans hb.os, h.tape.trans hb.tape, h.output.trans hb.output, Nat.le_trans hb.size h.size, fun k hk hne => (h.block k (Nat.lt_of_lt_of_le hk hb.size) (by omega) (by simpa using hne)).trans (hb.block k hk)⟩
theorem G.setNew {w W : World} {row : Option Nat} (h : w.grownBy W row) (b i : Nat) (hb : w.heap.size ≤ b) (u : Value) : w.grownBy (W.setCell ⟨b, i, none⟩ u) row :=
  ⟨h.os, h.tape, h.output, by simpa [World.setCell] using h.size, fun k hk hne => (Below.heap_setCell W ⟨b, i, none⟩ u k (by simp only; omega)).trans (h.block k hk hne)⟩
theorem G.alloc {w W : World} {row : Option Nat} (h : w.grownBy W row) (o : Obj) : w.grownBy (W.alloc o) row := G.trans h (World.grownBy_alloc _ _ _)
theorem G.drew {w W : World} {row : Option Nat} (h : w.grownBy W row) : w.grownBy W.drew row := ⟨h.os, h.tape, h.output, h.size, h.block⟩

set_option maxHeartbeats 1000000 in
theorem reads_out (v d : Value) (bs : List Int) (at_ : Int) (w : World) (hv : Sees .u8 w v bs) (h : at_ < 0 ∨ (bs.length : Int) < at_) :
    Calls Try.prog 43 #[v, .int .i64 at_, d] w fun e w' => e = .returned (.tuple #[.int .i64 0, .agg #[.int .i64 5, .int .i64 0]]) ∧ Below w.heap.size w w' := by
  have hmf : ∀ (fn : Fn) (first cap : Array Value) (w : World), (Instr.makeFunc fn first cap).run Try.prog w = .ok (.func fn first cap) w := fun _ _ _ _ => rfl
  obtain ⟨A, cap, rfl, _, _⟩ := hv.len
  clear hv
  by_cases h0 : at_ < 0
  · go_enter_defers Try.func43, Try.ntmps43
    go_wp2_with fail
    exact ⟨.tuple #[.int .i64 0, .agg #[.int .i64 5, .int .i64 0]], by simp [results, Try.results43, go_sem], rfl, B.alloc (B.alloc (B.refl _) _) _⟩
  · have h1 : (bs.length : Int) < at_ := by omega
    clear h
    go_enter_defers Try.func43, Try.ntmps43
    go_wp2_with fail
    exact ⟨.tuple #[.int .i64 0, .agg #[.int .i64 5, .int .i64 0]], by simp [results, Try.results43, go_sem], rfl, B.alloc (B.alloc (B.refl _) _) _⟩

set_option maxHeartbeats 1000000 in
theorem reads_get_ok (t : Nat) (v : Value) (bs : List Int) (a : Nat) (x0 y0 : Int) (w : World) (ht : VB w t 42 #[.int .i64 x0, .int .i64 y0])
    (hv : Sees .u8 w v bs) (hb : Byt bs) (ha : a ≤ bs.length) (hm : bs.length ≤ 140737488351232) (x y : Int) (q : Nat) (hg : Kind.get bs a = (x, y, (q : Int), 0, 0)) :
    Calls Try.prog 43 #[v, .int .i64 a, .func (.func 44) #[] #[.pointer (some ⟨t, 0, none⟩)]] w fun e w' =>
      e = .returned (.tuple #[.int .i64 q, .agg #[.int .i64 0, .int .i64 0]]) ∧ w.grownBy w' (some t) ∧ VB w' t 42 #[.int .i64 x, .int .i64 y] := by
  have hmf : ∀ (fn : Fn) (first cap : Array Value) (w : World), (Instr.makeFunc fn first cap).run Try.prog w = .ok (.func fn first cap) w := fun _ _ _ _ => rfl
  have hdo := do_get (w.heap.size + 2) t v bs a x0 y0 (((w.alloc (.cells #[.int .i64 0] 3)).alloc (.cells #[.int .i64 0, .int .i64 0] 33)).alloc (.cells #[v, .int .i64 a] 82))
    (RB.new _ _ _ _ (by simp)) (((ht.alloc _).alloc _).alloc _) (by have := ht.lt; omega) (((hv.alloc _).alloc _).alloc _) hb ha hm
  rw [hg] at hdo
  have HD := Lib.hid hdo; clear hdo hg
  have HT := Lib.hid ht; clear ht
  obtain ⟨A, cap, rfl, _, _⟩ := hv.len
  have HV := Lib.hid hv; clear hv
  have HB := Lib.hid hb; clear hb
  have ha1 : ¬ (bs.length : Int) < a := by omega
  go_enter_defers Try.func43, Try.ntmps43
  go_wp2_with fail
  refine HD.out.mono ?_
  intro e w1 ho
  rcases ho with ⟨_, rfl, g1, r1, t1⟩ | ⟨h0, _, _⟩
  · have n1 := Grow2.vb g1 (((VB.new w 3 #[.int .i64 0]).alloc (.cells #[.int .i64 0, .int .i64 0] 33)).alloc (.cells #[.slice A bs.length cap, .int .i64 a] 82)) (by omega) (by have := HT.out.lt; omega)
    have f1 := Grow2.vb g1 ((VB.new (w.alloc (.cells #[.int .i64 0] 3)) 33 #[.int .i64 0, .int .i64 0]).alloc (.cells #[.slice A bs.length cap, .int .i64 a] 82)) (by simp) (by have := HT.out.lt; simp; omega)
    simp only [World.size_alloc] at n1 f1
    have a1 := n1.cell 0
    have a2 := n1.free 0
    have a3 := f1.cell 0
    have a4 := f1.cell 1
    have a5 := f1.free 0
    have a6 := f1.free 1
    have a7 := r1.cell1
    have a8 := f1.lt
    simp at a1 a3 a4 a7
    have N1 := Lib.hid n1; clear n1
    have F1 := Lib.hid f1; clear f1
    have R1 := Lib.hid r1; clear r1
    have T1 := Lib.hid t1; clear t1
    have G1 := Lib.hid g1; clear g1
    go_wp2_with fail
    refine leaves_cons (f := 53) (args := #[.pointer (some ⟨w.heap.size, 0, none⟩), .pointer (some ⟨w.heap.size + 1, 0, none⟩)]) (by simp) (by simp [go_sem]) ?_
    refine (catch_idle _ _ _).mono ?_
    rintro e u' w'' ⟨rfl, rfl, rfl⟩
    have lt := HT.out.lt
    have b9 : w.heap.size < w1.heap.size := by omega
    refine ⟨.tuple #[.int .i64 q, .agg #[.int .i64 0, .int .i64 0]], by simp [results, Try.results43, go_sem, a1, a3, a4, a8, b9], rfl, ?_, ?_⟩
    · exact G.alloc (G.setNew (G.setNew (G.setNew (Grow2.back (B.alloc (B.alloc (B.alloc (B.refl _) _) _) _) G1.out (by omega)) _ _ (Nat.le_refl _) _) _ _ (by omega) _) _ _ (by omega) _) _
    · exact (((T1.out.far _ _ (by omega) _).far _ _ (by omega) _).far _ _ (by omega) _).alloc _
  · exact absurd rfl h0

set_option maxHeartbeats 1000000 in
theorem reads_get_bad (t : Nat) (v : Value) (bs : List Int) (a : Nat) (x0 y0 : Int) (w : World) (ht : VB w t 42 #[.int .i64 x0, .int .i64 y0])
    (hv : Sees .u8 w v bs) (hb : Byt bs) (ha : a ≤ bs.length) (hm : bs.length ≤ 140737488351232) (e0 p0 : Int) (hg : Kind.get bs a = (0, 0, 0, e0, p0)) (he : ¬ e0 = 0) :
    Calls Try.prog 43 #[v, .int .i64 a, .func (.func 44) #[] #[.pointer (some ⟨t, 0, none⟩)]] w fun e w' =>
      e = .returned (.tuple #[.int .i64 0, .agg #[.int .i64 e0, .int .i64 p0]]) ∧ w.grownBy w' (some t) := by
  have hmf : ∀ (fn : Fn) (first cap : Array Value) (w : World), (Instr.makeFunc fn first cap).run Try.prog w = .ok (.func fn first cap) w := fun _ _ _ _ => rfl
  have hdo := do_get (w.heap.size + 2) t v bs a x0 y0 (((w.alloc (.cells #[.int .i64 0] 3)).alloc (.cells #[.int .i64 0, .int .i64 0] 33)).alloc (.cells #[v, .int .i64 a] 82))
    (RB.new _ _ _ _ (by simp)) (((ht.alloc _).alloc _).alloc _) (by have := ht.lt; omega) (((hv.alloc _).alloc _).alloc _) hb ha hm
  rw [hg] at hdo
  have HD := Lib.hid hdo; clear hdo hg
  have HT := Lib.hid ht; clear ht
  obtain ⟨A, cap, rfl, _, _⟩ := hv.len
  have HV := Lib.hid hv; clear hv
  have HB := Lib.hid hb; clear hb
  have ha1 : ¬ (bs.length : Int) < a := by omega
  go_enter_defers Try.func43, Try.ntmps43
  go_wp2_with fail
  refine HD.out.mono ?_
  intro e w1 ho
  rcases ho with ⟨h0, _⟩ | ⟨_, rfl, g1⟩
  · exact absurd h0 he
  · have n1 := Grow2.vb g1 (((VB.new w 3 #[.int .i64 0]).alloc (.cells #[.int .i64 0, .int .i64 0] 33)).alloc (.cells #[.slice A bs.length cap, .int .i64 a] 82)) (by omega) (by have := HT.out.lt; omega)
    have f1 := Grow2.vb g1 ((VB.new (w.alloc (.cells #[.int .i64 0] 3)) 33 #[.int .i64 0, .int .i64 0]).alloc (.cells #[.slice A bs.length cap, .int .i64 a] 82)) (by simp) (by have := HT.out.lt; simp; omega)
    simp only [World.size_alloc] at n1 f1
    have a1 := n1.cell 0
    have a2 := n1.free 0
    have a3 := f1.cell 0
    have a4 := f1.cell 1
    have a5 := f1.free 0
    have a6 := f1.free 1
    have a8 := f1.lt
    have a9 := n1.lt
    simp at a1 a3 a4
    have G1 := Lib.hid g1; clear g1
    go_wp2_with fail
    refine leaves_cons (f := 53) (args := #[.pointer (some ⟨w.heap.size, 0, none⟩), .pointer (some ⟨w.heap.size + 1, 0, none⟩)]) (by simp) (by simp [go_sem]) ?_
    refine (catch_stop _ _ e0 p0 0 0 0 [] _ a1 a2 a3 a4 a5 a6 (by omega) a9 a8).mono ?_
    rintro e u' w'' ⟨rfl, rfl, rfl⟩
    have lt := HT.out.lt
    refine ⟨.tuple #[.int .i64 0, .agg #[.int .i64 e0, .int .i64 p0]], by simp [results, Try.results43, go_sem, a1, a3, a4, a8, a9], rfl, ?_⟩
    exact G.drew (G.alloc (G.setNew (G.setNew (G.setNew (Grow2.back (B.alloc (B.alloc (B.alloc (B.refl _) _) _) _) G1.out (by omega)) _ _ (Nat.le_refl _) _) _ _ (by omega) _) _ _ (by omega) _) _)

end Go.Proofs.Ytdlfmchpaohoaaa
