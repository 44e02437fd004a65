/- Layer 4: what is done under 'reads': a function's type is read. -/
import Derived.Test.YtdlfmchpaohoaaaKindWords
namespace Go.Proofs.Ytdlfmchpaohoaaa
open Go.RowKit

/-- The world has new blocks, and what stands in two of the old ones may have turned. -/
structure Grow2 (w w' : World) (g t : Nat) : Prop where
  os : w'.os = w.os
  tape : w'.tape = w.tape
  output : w'.output = w.output
  size : w.heap.size ≤ w'.heap.size
  block : ∀ k, k < w.heap.size → k ≠ g → k ≠ t → w'.heap[k]? = w.heap[k]?

theorem Grow2.refl (w : World) (g t : Nat) : Grow2 w w g t := ⟨rfl, rfl, rfl, Nat.le_refl _, fun _ _ _ _ => rfl⟩
theorem Grow2.trans {a b c : World} {g t : Nat} (h : Grow2 a b g t) (k : Grow2 b c g t) : Grow2 a c g t :=
  ⟨k.os.trans h.os, k.tape.trans h.tape, k.output.trans h.output, Nat.le_trans h.size k.size, fun i hi h1 h2 => (k.block i (Nat.lt_of_lt_of_le hi h.size) h1 h2).trans (h.block i hi h1 h2)⟩
theorem Grow2.one {w w' : World} {g : Nat} (h : w.grownBy w' (some g)) (t : Nat) : Grow2 w w' g t :=
  ⟨h.os, h.tape, h.output, h.size, fun k hk h1 _ => h.block k hk (by simpa using h1)⟩
theorem Grow2.two {w w' : World} {t : Nat} (h : w.grownBy w' (some t)) (g : Nat) : Grow2 w w' g t :=
  ⟨h.os, h.tape, h.output, h.size, fun k hk _ h1 => h.block k hk (by simpa using h1)⟩

/-- A variable of a few cells in block t. -/
def VB (w : World) (t : Nat) (T : TypeId) (cs : Array Value) : Prop := w.heap[t]? = some (.cells cs T (0, 0))

theorem VB.cell {w : World} {t : Nat} {T : TypeId} {cs : Array Value} (h : VB w t T cs) (i : Nat) : w.cell? ⟨t, i, none⟩ = cs[i]? := cell_of_row w t i _ _ _ h
theorem VB.free {w : World} {t : Nat} {T : TypeId} {cs : Array Value} (h : VB w t T cs) (i : Nat) : w.frozen? ⟨t, i, none⟩ = false := by
  unfold VB at h; simp [World.frozen?, h]
theorem VB.lt {w : World} {t : Nat} {T : TypeId} {cs : Array Value} (h : VB w t T cs) : t < w.heap.size := by
  rcases Nat.lt_or_ge t w.heap.size with hlt | hge
  · exact hlt
  · unfold VB at h; rw [Array.getElem?_eq_none hge] at h; cases h
theorem VB.set {w : World} {t : Nat} {T : TypeId} {cs : Array Value} (h : VB w t T cs) (i : Nat) (u : Value) : VB (w.setCell ⟨t, i, none⟩ u) t T (cs.setIfInBounds i u) := by
  unfold VB at h ⊢
  simp [World.setCell, Array.getElem?_modify, h]
theorem VB.grown {w w' : World} {t : Nat} {T : TypeId} {cs : Array Value} (h : VB w t T cs) {g : Nat} (hg : w.grownBy w' (some g)) (hne : t ≠ g) : VB w' t T cs := (hg.block t h.lt (by simpa using hne)).trans h
theorem VB.alloc {w : World} {t : Nat} {T : TypeId} {cs : Array Value} (h : VB w t T cs) (o : Obj) : VB (w.alloc o) t T cs := (Below.heap_alloc w o t h.lt).trans h
theorem VB.below {w w' : World} {t : Nat} {T : TypeId} {cs : Array Value} (h : VB w t T cs) {B : Nat} (hb : Below B w w') (hB : t < B) : VB w' t T cs := (hb.block t hB).trans h

theorem RB.grown {w w' : World} {g a t : Nat} {v : Value} (h : RB w g v a) (hg : w.grownBy w' (some t)) (hne : g ≠ t) : RB w' g v a := (hg.block g h.lt (by simpa using hne)).trans h

/-- What is read stays as it is while another variable is written, in which no byte stands. -/
theorem Sees.vb {w w' : World} {t : Nat} {T : TypeId} {cs : Array Value} {v : Value} {bs : List Int} (h : Sees .u8 w v bs) (hr : VB w t T cs) (hcs : ∀ (i : Nat) (n : Int), cs[i]? ≠ some (.int .u8 n)) (hg : w.grownBy w' (some t)) : Sees .u8 w' v bs := by
  obtain ⟨A, cap, rfl, hc, hm, h⟩ := h
  refine ⟨A, cap, rfl, hc, hm, fun hne => ?_⟩
  obtain ⟨b, off, rfl, hcell⟩ := h hne
  refine ⟨b, off, rfl, fun j hj => ?_⟩
  have h1 := hcell j hj
  have hb : b ≠ t := by
    rintro rfl
    rw [hr.cell (off + j)] at h1
    exact hcs _ _ h1
  exact hg.cell h1 (by simpa using hb)

theorem noByte2 (x y : Int) (i : Nat) (n : Int) : (#[Value.int .i64 x, Value.int .i64 y])[i]? ≠ some (.int .u8 n) := by
  rcases i with _ | _ | i <;> simp

theorem hitOf {w w' : World} {g a : Nat} {v : Value} {c : Int} {ls : List Int} {e : Ending} (hm : c ∈ ls) (h : ByteOut w g v a c ls e w') : e = .returned (.int .u8 c) ∧ w.grownBy w' (some g) ∧ RB w' g v (a + 1) := by
  rcases h with ⟨_, h⟩ | ⟨hn, _⟩
  · exact h
  · exact absurd hm hn

/-- What is told of a function's type: its parameters, its results, the place behind; the fault and its place. -/
def DoGet (w : World) (g t : Nat) (v : Value) (r : Int × Int × Int × Int × Int) (e : Ending) (w' : World) : Prop :=
  (r.2.2.2.1 = 0 ∧ e = .returned (.tuple #[]) ∧ Grow2 w w' g t ∧ RB w' g v r.2.2.1.toNat ∧ VB w' t 42 #[.int .i64 r.1, .int .i64 r.2.1]) ∨
  (¬ r.2.2.2.1 = 0 ∧ e = .panicked [{ v := stopv r.2.2.2.1 r.2.2.2.2, recovered := false }] ∧ Grow2 w w' g t)

set_option maxHeartbeats 1000000 in
theorem do_get (g t : Nat) (v : Value) (bs : List Int) (a : Nat) (x0 y0 : Int) (w : World) (hr : RB w g v a) (ht : VB w t 42 #[.int .i64 x0, .int .i64 y0]) (hne : g ≠ t)
    (hv : Sees .u8 w v bs) (hb : Byt bs) (ha : a ≤ bs.length) (hm : bs.length ≤ 140737488351232) :
    Calls Try.prog 44 #[.pointer (some ⟨g, 0, none⟩), .pointer (some ⟨t, 0, none⟩)] w fun e w' => DoGet w g t v (Kind.get bs a) e w' := by
  have HR := Lib.hid hr; clear hr
  have HT := Lib.hid ht; clear ht
  have HV := Lib.hid hv; clear hv
  have HB := Lib.hid hb; clear hb
  have s1 : ∀ (w : World) (g : Nat), g = w.heap.size → Sees .u8 (w.alloc (.cells #[.int .u8 96] 5)) (.slice (some ⟨g, 0, none⟩) 1 1) [96] := by
    rintro w g rfl; exact Sees.lit .u8 w 5 [96] 1 (by decide) (by decide)
  have S1 := Lib.hid s1; clear s1
  have gA : w.grownBy (w.alloc (.cells #[.int .u8 96] 5)) (some g) := World.grownBy_alloc _ _ _
  have GA := Lib.hid gA; clear gA
  by_cases hl : a < bs.length
  · by_cases hc : bs[a] = 96
    · have hget : bs[a]? = some 96 := by rw [List.getElem?_eq_getElem hl, hc]
      have HC := Lib.hid hc; clear hc
      have HGET := Lib.hid hget; clear hget
      rcases Kind.words_cases bs ((a + 1 : Nat) : Int) 255 HB.out with ⟨x, q, hP, hx, hq1, hq0, hq2⟩ | ⟨e1, p1, hP, he1⟩
      · rcases Kind.words_cases bs (q : Int) 1 HB.out with ⟨y, r, hQ, hy, hr1, hr0, hr2⟩ | ⟨e2, p2, hQ, he2⟩
        · have hres : Kind.get bs a = ((x : Int), (y : Int), (r : Int), 0, 0) := by unfold Kind.get; rw [HGET.out]; simp only [hP, hQ]; rfl
          rw [hres]; clear hres
          have HP := Lib.hid hP; clear hP
          have HQ := Lib.hid hQ; clear hQ
          go_enter Try.func44, Try.ntmps44
          go_wp2_with fail
          refine (byte_any g v _ bs [96] a _ (HR.out.alloc _) (HV.out.alloc _) (S1.out _ _ rfl) hl hm).mono ?_
          intro e w1 ho
          obtain ⟨rfl, g1, r1⟩ := hitOf (by rw [HC.out]; simp) ho
          have T1 := Lib.hid ((HT.out.alloc _).grown g1 (Ne.symm hne))
          have V1 := Lib.hid ((HV.out.alloc (.cells #[.int .u8 96] 5)).rb (HR.out.alloc _) g1)
          have G1 := Lib.hid (G.trans GA.out g1); clear g1
          have R1 := Lib.hid r1; clear r1
          go_wp2_with fail
          refine (words_ok g v bs (a + 1) 255 w1 R1.out V1.out HB.out (by omega) hm _ q HP.out).mono ?_
          rintro e w2 ⟨rfl, g2, r2⟩
          have t2 := T1.out.grown g2 (Ne.symm hne)
          have c0 := t2.cell 0
          have f0 := t2.free 0
          have lt2 := t2.lt
          simp at c0
          have T2 := Lib.hid (t2.set 0 (.int .i64 x)); simp at T2
          have R2 := Lib.hid (r2.grown (G.setCell w2 t 0 (.int .i64 x)) hne)
          have V2 := Lib.hid ((V1.out.rb R1.out g2).vb t2 (noByte2 _ _) (G.setCell w2 t 0 (.int .i64 x)))
          have G2 := Lib.hid ((Grow2.one (G.trans G1.out g2) t).trans (Grow2.two (G.setCell w2 t 0 (.int .i64 x)) g))
          clear g2 r2 t2
          go_wp2_with fail
          refine (words_ok g v bs q 1 _ R2.out V2.out HB.out (by omega) hm _ r HQ.out).mono ?_
          rintro e w3 ⟨rfl, g3, r3⟩
          have t3 := T2.out.grown g3 (Ne.symm hne)
          have c1 := t3.cell 1
          have f1 := t3.free 1
          simp at c1
          go_wp2_with fail
          go_returns
          refine .inl ⟨rfl, rfl, G2.out.trans ((Grow2.one g3 t).trans (Grow2.two (G.setCell _ _ _ _) g)), ?_, t3.set 1 _⟩
          exact r3.grown (G.setCell _ _ _ _) hne
        · have hres : Kind.get bs a = (0, 0, 0, e2, p2) := by unfold Kind.get; rw [HGET.out]; simp only [hP, hQ]; simp [he2]
          rw [hres]; clear hres
          have HP := Lib.hid hP; clear hP
          have HQ := Lib.hid hQ; clear hQ
          go_enter Try.func44, Try.ntmps44
          go_wp2_with fail
          refine (byte_any g v _ bs [96] a _ (HR.out.alloc _) (HV.out.alloc _) (S1.out _ _ rfl) hl hm).mono ?_
          intro e w1 ho
          obtain ⟨rfl, g1, r1⟩ := hitOf (by rw [HC.out]; simp) ho
          have T1 := Lib.hid ((HT.out.alloc _).grown g1 (Ne.symm hne))
          have V1 := Lib.hid ((HV.out.alloc (.cells #[.int .u8 96] 5)).rb (HR.out.alloc _) g1)
          have G1 := Lib.hid (G.trans GA.out g1); clear g1
          have R1 := Lib.hid r1; clear r1
          go_wp2_with fail
          refine (words_ok g v bs (a + 1) 255 w1 R1.out V1.out HB.out (by omega) hm _ q HP.out).mono ?_
          rintro e w2 ⟨rfl, g2, r2⟩
          have t2 := T1.out.grown g2 (Ne.symm hne)
          have c0 := t2.cell 0
          have f0 := t2.free 0
          have lt2 := t2.lt
          simp at c0
          have T2 := Lib.hid (t2.set 0 (.int .i64 x)); simp at T2
          have R2 := Lib.hid (r2.grown (G.setCell w2 t 0 (.int .i64 x)) hne)
          have V2 := Lib.hid ((V1.out.rb R1.out g2).vb t2 (noByte2 _ _) (G.setCell w2 t 0 (.int .i64 x)))
          have G2 := Lib.hid ((Grow2.one (G.trans G1.out g2) t).trans (Grow2.two (G.setCell w2 t 0 (.int .i64 x)) g))
          clear g2 r2 t2
          go_wp2_with fail
          refine (words_bad g v bs q 1 _ R2.out V2.out HB.out (by omega) hm e2 p2 HQ.out he2).mono ?_
          rintro e w3 ⟨rfl, g3⟩
          go_wp2_with fail
          exact ⟨rfl, .inr ⟨he2, rfl, G2.out.trans (Grow2.one g3 t)⟩⟩
      · have hres : Kind.get bs a = (0, 0, 0, e1, p1) := by unfold Kind.get; rw [HGET.out]; simp only [hP]; simp [he1]
        rw [hres]; clear hres
        have HP := Lib.hid hP; clear hP
        go_enter Try.func44, Try.ntmps44
        go_wp2_with fail
        refine (byte_any g v _ bs [96] a _ (HR.out.alloc _) (HV.out.alloc _) (S1.out _ _ rfl) hl hm).mono ?_
        intro e w1 ho
        obtain ⟨rfl, g1, r1⟩ := hitOf (by rw [HC.out]; simp) ho
        have T1 := Lib.hid ((HT.out.alloc _).grown g1 (Ne.symm hne))
        have V1 := Lib.hid ((HV.out.alloc (.cells #[.int .u8 96] 5)).rb (HR.out.alloc _) g1)
        have G1 := Lib.hid (G.trans GA.out g1); clear g1
        have R1 := Lib.hid r1; clear r1
        go_wp2_with fail
        refine (words_bad g v bs (a + 1) 255 w1 R1.out V1.out HB.out (by omega) hm e1 p1 HP.out he1).mono ?_
        rintro e w2 ⟨rfl, g2⟩
        go_wp2_with fail
        exact ⟨rfl, .inr ⟨he1, rfl, Grow2.one (G.trans G1.out g2) t⟩⟩
    · have hres : Kind.get bs a = (0, 0, 0, 140, (a : Int)) := by unfold Kind.get; rw [List.getElem?_eq_getElem hl]; simp [hc]
      rw [hres]; clear hres
      have HC := Lib.hid hc; clear hc
      go_enter Try.func44, Try.ntmps44
      go_wp2_with fail
      refine (byte_any g v _ bs [96] a _ (HR.out.alloc _) (HV.out.alloc _) (S1.out _ _ rfl) hl hm).mono ?_
      intro e w1 ho
      rcases ho with ⟨hno, _, _, _⟩ | ⟨_, rfl, g1⟩
      · exact absurd (by simpa using hno) HC.out
      · go_wp2_with fail
        exact ⟨rfl, .inr ⟨by simp, rfl, Grow2.one (G.trans GA.out g1) t⟩⟩
  · have hres : Kind.get bs a = (0, 0, 0, 4, (bs.length : Int)) := by unfold Kind.get; rw [List.getElem?_eq_none (by omega)]
    rw [hres]; clear hres
    go_enter Try.func44, Try.ntmps44
    go_wp2_with fail
    refine (byte_end g v _ bs a _ (HR.out.alloc _) (HV.out.alloc _) (by omega)).mono ?_
    rintro e w1 ⟨rfl, g1⟩
    go_wp2_with fail
    exact ⟨rfl, .inr ⟨by simp, rfl, Grow2.one (G.trans GA.out g1) t⟩⟩

end Go.Proofs.Ytdlfmchpaohoaaa
