/- name.Get, gimletref02.Get: contracts (printed by wip/gen_nmget.py). -/
import Derived.Test.YtdlfmchpaohoaaaDoorNmRunes2
import Derived.Test.YtdlfmchpaohoaaaDoorRefGetU
import Derived.Test.YtdlfmchpaohoaaaDoorLebShortPlain
namespace Go.Proofs.YtdlfmchpaohoaaaDoor
open Go.RowKit

/-- A name, of the bytes from a place on: its bytes, the place behind, the fault and its place. -/
def Nm.getAt (xs : List Int) (at_ : Int) : List Int × Int × Int × Int :=
  match Leb.getU xs at_ with
  | (n, q, e, p) => if e ≠ 0 then ([], 0, e, p) else
    if (xs.length : Int) - q < n then ([], 0, 4, xs.length) else
    if 0 ≤ Nm.badAt ((xs.drop q.toNat).take n.toNat) then ([], 0, 4, q + Nm.badAt ((xs.drop q.toNat).take n.toNat)) else ((xs.drop q.toNat).take n.toNat, q + n, 0, 0)

def tupN (r : List Int × Int × Int × Int) : Value := .tuple #[.string (str r.1), .int .i64 r.2.1, .agg #[.int .i64 r.2.2.1, .int .i64 r.2.2.2]]

/-- A piece of what is seen, in the form of a slice from a place on. -/
theorem Sees.cut {k : IntKind} {w : World} {b off : Nat} {xs : List Int} (h : ∀ j (hj : j < xs.length), w.cell? ⟨b, off + j, none⟩ = some (.int k xs[j])) (l n cap' : Nat) (A : Option Addr) (hA : 0 < n → A = some ⟨b, off + l, none⟩) (hl : l + n ≤ xs.length) (hc : n ≤ cap') (hm : cap' ≤ maxLen) :
    Sees k w (.slice A n cap') ((xs.drop l).take n) := by
  have e : ((xs.drop l).take n).length = n := by simp; omega
  refine ⟨A, cap', by rw [e], by rw [e]; exact hc, hm, fun hne => ?_⟩
  have hn : 0 < n := by rw [← e]; exact List.length_pos_iff.2 hne
  refine ⟨b, off + l, hA hn, fun j hj => ?_⟩
  rw [e] at hj
  have := h (l + j) (by omega)
  rw [Nat.add_assoc, this]
  simp

theorem Byt.cut {xs : List Int} (hb : Byt xs) (l n : Nat) : Byt ((xs.drop l).take n) := fun x hx => hb x (List.mem_of_mem_drop (List.mem_of_mem_take hx))

theorem nmBadAt (v : Value) (xs : List Int) (w : World) (hv : Sees .u8 w v xs) (hb : Byt xs) (hT : Tabs w) (hm : xs.length ≤ 140737488351232) :
    Calls Tryd.prog 13 #[v] w fun e w' => e = .returned (.int .i64 (Nm.badAt xs)) ∧ Below w.heap.size w w' := nmBad v xs w hv hb hT hm

set_option maxHeartbeats 2000000 in
theorem nmGet_a (v : Value) (xs : List Int) (at_ : Int) (w : World) (hv : Sees .u8 w v xs) (hb : Byt xs) (hm : xs.length ≤ 2000000) (e p : Int) (hg : Leb.getU xs at_ = (0, 0, e, p)) (he : ¬ e = 0) :
    Calls Tryd.prog 17 #[v, .int .i64 at_] w fun e' w' => e' = .returned (tupN ([], 0, e, p)) ∧ Below w.heap.size w w' := by
  obtain ⟨A, cap, rfl, _, _⟩ := hv.len
  have HV := Lib.hid hv; clear hv
  have HB := Lib.hid hb; clear hb
  have HG := Lib.hid hg; clear hg
  have he' : (e == 0) = false := by simpa using he
  have R0 := Lib.hid (VB.new w 27 #[.int .i64 0, .int .i64 0])
  go_enter Tryd.func17, Tryd.ntmps17
  go_wp2_with fail
  refine (getU _ _ _ _ (HV.out.alloc _) HB.out (by omega)).mono ?_
  rintro _ w1 ⟨rfl, b1⟩
  rw [HG.out]
  simp only [tupU]
  have R1 := Lib.hid (R0.out.call b1)
  have bb1 : Below (w.heap.size + 1) (w.alloc (.cells #[.int .i64 0, .int .i64 0] 27)) w1 := b1.mono (by simp)
  have z1 := b1.size
  simp only [World.size_alloc] at z1
  have f0 := R1.out.cell 0
  have f1 := R1.out.cell 1
  have f2 := R1.out.free 0
  have f3 := R1.out.free 1
  have f4 := R1.out.lt
  simp at f0 f1
  have BE := Lib.hid (B.alloc (bend (i := 0) (j := 1) (u := .int .i64 e) (u' := .int .i64 p) bb1) (.cells #[.int .i64 e, .int .i64 p] 27))
  clear b1 bb1
  go_wp2_with fail
  go_region
  all_goals go_wp2_with fail
  all_goals refine bodyPost_ret (v := tupN ([], 0, e, p)) (by simp [results, Tryd.results17, go_sem, f0, f1, f4, tupN, str]) rfl ⟨rfl, ?_⟩
  all_goals exact BE.out.drew

set_option maxHeartbeats 2000000 in
theorem nmGet_b (v : Value) (xs : List Int) (at_ : Int) (w : World) (hv : Sees .u8 w v xs) (hb : Byt xs) (hm : xs.length ≤ 2000000) (n q : Nat) (hg : Leb.getU xs at_ = ((n : Int), (q : Int), 0, 0)) (hn1 : n < 4294967296) (hq : q ≤ xs.length) (hn : xs.length - q < n) :
    Calls Tryd.prog 17 #[v, .int .i64 at_] w fun e' w' => e' = .returned (tupN ([], 0, 4, xs.length)) ∧ Below w.heap.size w w' := by
  obtain ⟨A, cap, rfl, _, _⟩ := hv.len
  have HV := Lib.hid hv; clear hv
  have HB := Lib.hid hb; clear hb
  have HG := Lib.hid hg; clear hg
  have k1 : (xs.length : Int) - (q : Int) < (n : Int) := by omega
  have k3 : IntKind.u64.wrap ((xs.length : Int) - (q : Int)) = (xs.length : Int) - (q : Int) := IntWalk.u64_in _ (by omega)
  have R0 := Lib.hid (VB.new w 27 #[.int .i64 0, .int .i64 0])
  go_enter Tryd.func17, Tryd.ntmps17
  go_wp2_with fail
  refine (getU _ _ _ _ (HV.out.alloc _) HB.out (by omega)).mono ?_
  rintro _ w1 ⟨rfl, b1⟩
  rw [HG.out]
  simp only [tupU]
  have R1 := Lib.hid (R0.out.call b1)
  have bb1 : Below (w.heap.size + 1) (w.alloc (.cells #[.int .i64 0, .int .i64 0] 27)) w1 := b1.mono (by simp)
  have z1 := b1.size
  simp only [World.size_alloc] at z1
  have f0 := R1.out.cell 0
  have f1 := R1.out.cell 1
  have f2 := R1.out.free 0
  have f3 := R1.out.free 1
  have f4 := R1.out.lt
  simp at f0 f1
  have BE := Lib.hid (B.alloc (bend (i := 0) (j := 1) (u := .int .i64 4) (u' := .int .i64 xs.length) bb1) (.cells #[.int .i64 0, .int .i64 0] 27))
  clear b1 bb1
  go_wp2_with fail
  refine bodyPost_ret (v := tupN ([], 0, 4, xs.length)) (by simp [results, Tryd.results17, go_sem, f0, f1, f4, tupN, str]) rfl ⟨rfl, ?_⟩
  exact BE.out

set_option maxHeartbeats 2000000 in
theorem nmGet_c (v : Value) (xs : List Int) (at_ : Int) (w : World) (hv : Sees .u8 w v xs) (hb : Byt xs) (hT : Tabs w) (hm : xs.length ≤ 2000000) (n q : Nat) (hg : Leb.getU xs at_ = ((n : Int), (q : Int), 0, 0)) (hq : q ≤ xs.length) (hq0 : 0 < q) (hn : n ≤ xs.length - q) (a : Nat) (hbad : Nm.badAt ((xs.drop q).take n) = (a : Int)) (ha : a ≤ 2000000) :
    Calls Tryd.prog 17 #[v, .int .i64 at_] w fun e' w' => e' = .returned (tupN ([], 0, 4, (q : Int) + a)) ∧ Below w.heap.size w w' := by
  obtain ⟨A, cap, rfl, hc1, hc2, hcells⟩ := hv
  have HV := Lib.hid (show Sees .u8 w (.slice A xs.length cap) xs from ⟨A, cap, rfl, hc1, hc2, hcells⟩)
  obtain ⟨b, off, rfl, hcell⟩ := hcells (by intro e; subst e; simp at hq; omega)
  have HC := Lib.hid hcell; clear hcell hcells
  have HB := Lib.hid hb; clear hb
  have HG := Lib.hid hg; clear hg
  have HBD := Lib.hid hbad; clear hbad
  have HT := Lib.hid hT; clear hT
  have k1 : ¬ ((xs.length : Int) - (q : Int) < (n : Int)) := by omega
  have k2 : (q : Int) + (n : Int) ≤ cap := by omega
  have k3 : IntKind.u64.wrap ((xs.length : Int) - (q : Int)) = (xs.length : Int) - (q : Int) := IntWalk.u64_in _ (by omega)
  by_cases hcq : cap = q
  · exfalso
    have hn0 : n = 0 := by omega
    have hz := HBD.out
    rw [hn0, List.take_zero] at hz
    have hz0 : Nm.badAt [] = -1 := rfl
    omega
  · skip
    have R0 := Lib.hid (VB.new w 27 #[.int .i64 0, .int .i64 0])
    go_enter Tryd.func17, Tryd.ntmps17
    go_wp2_with fail
    refine (getU _ _ _ _ (HV.out.alloc _) HB.out (by omega)).mono ?_
    rintro _ w1 ⟨rfl, b1⟩
    rw [HG.out]
    simp only [tupU]
    have R1 := Lib.hid (R0.out.call b1)
    have bb1 : Below (w.heap.size + 1) (w.alloc (.cells #[.int .i64 0, .int .i64 0] 27)) w1 := b1.mono (by simp)
    have z1 := b1.size
    simp only [World.size_alloc] at z1
    have SQ0 : Sees .u8 w (.slice (some ⟨b, off + q, none⟩) n (cap - q)) ((xs.drop q).take n) := Sees.cut HC.out q n (cap - q) (some ⟨b, off + q, none⟩) (by intro _; rfl) (by omega) (by omega) (by unfold maxLen at hc2 ⊢; omega)
    have SQ := Lib.hid (((SQ0.alloc (.cells #[.int .i64 0, .int .i64 0] 27)).below b1 (Nat.le_refl _)).alloc (.cells #[.int .i64 0, .int .i64 0] 27))
    go_wp2_with fail
    refine (nmBadAt _ _ _ SQ.out (Byt.cut HB.out q n) ((HT.out.alloc _).below b1 |>.alloc _) (by simp <;> omega)).mono ?_
    rintro _ w2 ⟨rfl, b2⟩
    rw [HBD.out]
    have R2 := Lib.hid ((R1.out.alloc (.cells #[.int .i64 0, .int .i64 0] 27)).call b2)
    have bb2 := (bb1.alloc (by omega) (.cells #[.int .i64 0, .int .i64 0] 27)).trans (b2.mono (by simp; omega))
    have f0 := R2.out.cell 0
    have f1 := R2.out.cell 1
    have f2 := R2.out.free 0
    have f3 := R2.out.free 1
    have f4 := R2.out.lt
    simp at f0 f1
    have BE := Lib.hid (bend (i := 0) (j := 1) (u := .int .i64 4) (u' := .int .i64 ((q : Int) + (a : Int))) bb2)
    clear b1 bb1 b2 bb2 SQ0
    go_wp2_with fail
    refine bodyPost_ret (v := tupN ([], 0, 4, (q : Int) + a)) (by simp [results, Tryd.results17, go_sem, f0, f1, tupN, str]) rfl ⟨rfl, ?_⟩
    exact BE.out

set_option maxHeartbeats 2000000 in
theorem nmGet_d (v : Value) (xs : List Int) (at_ : Int) (w : World) (hv : Sees .u8 w v xs) (hb : Byt xs) (hT : Tabs w) (hm : xs.length ≤ 2000000) (n q : Nat) (hg : Leb.getU xs at_ = ((n : Int), (q : Int), 0, 0)) (hq : q ≤ xs.length) (hq0 : 0 < q) (hn : n ≤ xs.length - q) (hbad : Nm.badAt ((xs.drop q).take n) = -1) :
    Calls Tryd.prog 17 #[v, .int .i64 at_] w fun e' w' => e' = .returned (tupN ((xs.drop q).take n, (q : Int) + n, 0, 0)) ∧ Below w.heap.size w w' := by
  obtain ⟨A, cap, rfl, hc1, hc2, hcells⟩ := hv
  have HV := Lib.hid (show Sees .u8 w (.slice A xs.length cap) xs from ⟨A, cap, rfl, hc1, hc2, hcells⟩)
  obtain ⟨b, off, rfl, hcell⟩ := hcells (by intro e; subst e; simp at hq; omega)
  have HC := Lib.hid hcell; clear hcell hcells
  have HB := Lib.hid hb; clear hb
  have HG := Lib.hid hg; clear hg
  have HBD := Lib.hid hbad; clear hbad
  have HT := Lib.hid hT; clear hT
  have k1 : ¬ ((xs.length : Int) - (q : Int) < (n : Int)) := by omega
  have k2 : (q : Int) + (n : Int) ≤ cap := by omega
  have k3 : IntKind.u64.wrap ((xs.length : Int) - (q : Int)) = (xs.length : Int) - (q : Int) := IntWalk.u64_in _ (by omega)
  by_cases hcq : cap = q
  · subst hcq
    obtain rfl : n = 0 := by omega
    have k1' : ¬ ((xs.length : Int) - (cap : Int) < 0) := by omega
    have R0 := Lib.hid (VB.new w 27 #[.int .i64 0, .int .i64 0])
    go_enter Tryd.func17, Tryd.ntmps17
    go_wp2_with fail
    refine (getU _ _ _ _ (HV.out.alloc _) HB.out (by omega)).mono ?_
    rintro _ w1 ⟨rfl, b1⟩
    rw [HG.out]
    simp only [tupU]
    have R1 := Lib.hid (R0.out.call b1)
    have bb1 : Below (w.heap.size + 1) (w.alloc (.cells #[.int .i64 0, .int .i64 0] 27)) w1 := b1.mono (by simp)
    have z1 := b1.size
    simp only [World.size_alloc] at z1
    have SQ0 : Sees .u8 w (.slice (some ⟨b, off, none⟩) 0 0) ((xs.drop cap).take 0) := Sees.cut HC.out cap 0 0 (some ⟨b, off, none⟩) (by intro h; omega) (by omega) (by omega) (by unfold maxLen at hc2 ⊢; omega)
    have SQ := Lib.hid (((SQ0.alloc (.cells #[.int .i64 0, .int .i64 0] 27)).below b1 (Nat.le_refl _)).alloc (.cells #[.int .i64 0, .int .i64 0] 27))
    go_wp2_with fail
    refine (nmBadAt _ _ _ SQ.out (Byt.cut HB.out cap 0) ((HT.out.alloc _).below b1 |>.alloc _) (by simp <;> omega)).mono ?_
    rintro _ w2 ⟨rfl, b2⟩
    rw [HBD.out]
    have R2 := Lib.hid ((R1.out.alloc (.cells #[.int .i64 0, .int .i64 0] 27)).call b2)
    have bb2 := (bb1.alloc (by omega) (.cells #[.int .i64 0, .int .i64 0] 27)).trans (b2.mono (by simp; omega))
    have f0 := R2.out.cell 0
    have f1 := R2.out.cell 1
    have f2 := R2.out.free 0
    have f3 := R2.out.free 1
    have f4 := R2.out.lt
    simp at f0 f1
    have e1 := run_str (P := Tryd.prog) (T := 22) (E := 5) (S := 9) Tryd.underlying22 Tryd.underlying5 Tryd.underlying9 (SQ.out.below b2 (Nat.le_refl _))
    have BE := Lib.hid (bend (i := 0) (j := 1) (u := .int .i64 0) (u' := .int .i64 0) bb2)
    clear b1 bb1 b2 bb2 SQ0
    go_wp2_with fail
    refine bodyPost_ret (v := tupN ((xs.drop cap).take 0, (cap : Int) + ((0 : Nat) : Int), 0, 0)) (by simp [results, Tryd.results17, go_sem, f0, f1, tupN]) rfl ⟨rfl, ?_⟩
    exact BE.out
  · skip
    have R0 := Lib.hid (VB.new w 27 #[.int .i64 0, .int .i64 0])
    go_enter Tryd.func17, Tryd.ntmps17
    go_wp2_with fail
    refine (getU _ _ _ _ (HV.out.alloc _) HB.out (by omega)).mono ?_
    rintro _ w1 ⟨rfl, b1⟩
    rw [HG.out]
    simp only [tupU]
    have R1 := Lib.hid (R0.out.call b1)
    have bb1 : Below (w.heap.size + 1) (w.alloc (.cells #[.int .i64 0, .int .i64 0] 27)) w1 := b1.mono (by simp)
    have z1 := b1.size
    simp only [World.size_alloc] at z1
    have SQ0 : Sees .u8 w (.slice (some ⟨b, off + q, none⟩) n (cap - q)) ((xs.drop q).take n) := Sees.cut HC.out q n (cap - q) (some ⟨b, off + q, none⟩) (by intro _; rfl) (by omega) (by omega) (by unfold maxLen at hc2 ⊢; omega)
    have SQ := Lib.hid (((SQ0.alloc (.cells #[.int .i64 0, .int .i64 0] 27)).below b1 (Nat.le_refl _)).alloc (.cells #[.int .i64 0, .int .i64 0] 27))
    go_wp2_with fail
    refine (nmBadAt _ _ _ SQ.out (Byt.cut HB.out q n) ((HT.out.alloc _).below b1 |>.alloc _) (by simp <;> omega)).mono ?_
    rintro _ w2 ⟨rfl, b2⟩
    rw [HBD.out]
    have R2 := Lib.hid ((R1.out.alloc (.cells #[.int .i64 0, .int .i64 0] 27)).call b2)
    have bb2 := (bb1.alloc (by omega) (.cells #[.int .i64 0, .int .i64 0] 27)).trans (b2.mono (by simp; omega))
    have f0 := R2.out.cell 0
    have f1 := R2.out.cell 1
    have f2 := R2.out.free 0
    have f3 := R2.out.free 1
    have f4 := R2.out.lt
    simp at f0 f1
    have e1 := run_str (P := Tryd.prog) (T := 22) (E := 5) (S := 9) Tryd.underlying22 Tryd.underlying5 Tryd.underlying9 (SQ.out.below b2 (Nat.le_refl _))
    have BE := Lib.hid (bend (i := 0) (j := 1) (u := .int .i64 0) (u' := .int .i64 0) bb2)
    clear b1 bb1 b2 bb2 SQ0
    go_wp2_with fail
    refine bodyPost_ret (v := tupN ((xs.drop q).take n, (q : Int) + n, 0, 0)) (by simp [results, Tryd.results17, go_sem, f0, f1, tupN]) rfl ⟨rfl, ?_⟩
    exact BE.out

set_option maxHeartbeats 2000000 in
theorem refGet_a (v : Value) (xs : List Int) (at_ : Int) (w : World) (hv : Sees .u8 w v xs) (hb : Byt xs) (hm : xs.length ≤ 2000000) (e p : Int) (hg : Leb.getU xs at_ = (0, 0, e, p)) (he : ¬ e = 0) :
    Calls Tryd.prog 18 #[v, .int .i64 at_] w fun e' w' => e' = .returned (tupN ([], 0, e, p)) ∧ Below w.heap.size w w' := by
  obtain ⟨A, cap, rfl, _, _⟩ := hv.len
  have HV := Lib.hid hv; clear hv
  have HB := Lib.hid hb; clear hb
  have HG := Lib.hid hg; clear hg
  have he' : (e == 0) = false := by simpa using he
  have R0 := Lib.hid (VB.new w 27 #[.int .i64 0, .int .i64 0])
  go_enter Tryd.func18, Tryd.ntmps18
  go_wp2_with fail
  refine (refGetU _ _ _ _ (HV.out.alloc _) HB.out (by omega)).mono ?_
  rintro _ w1 ⟨rfl, b1⟩
  rw [HG.out]
  simp only [tupU]
  have R1 := Lib.hid (R0.out.call b1)
  have bb1 : Below (w.heap.size + 1) (w.alloc (.cells #[.int .i64 0, .int .i64 0] 27)) w1 := b1.mono (by simp)
  have z1 := b1.size
  simp only [World.size_alloc] at z1
  have f0 := R1.out.cell 0
  have f1 := R1.out.cell 1
  have f2 := R1.out.free 0
  have f3 := R1.out.free 1
  have f4 := R1.out.lt
  simp at f0 f1
  have BE := Lib.hid (B.alloc (bend (i := 0) (j := 1) (u := .int .i64 e) (u' := .int .i64 p) bb1) (.cells #[.int .i64 e, .int .i64 p] 27))
  clear b1 bb1
  go_wp2_with fail
  go_region
  all_goals go_wp2_with fail
  all_goals refine bodyPost_ret (v := tupN ([], 0, e, p)) (by simp [results, Tryd.results18, go_sem, f0, f1, f4, tupN, str]) rfl ⟨rfl, ?_⟩
  all_goals exact BE.out.drew

set_option maxHeartbeats 2000000 in
theorem refGet_b (v : Value) (xs : List Int) (at_ : Int) (w : World) (hv : Sees .u8 w v xs) (hb : Byt xs) (hm : xs.length ≤ 2000000) (n q : Nat) (hg : Leb.getU xs at_ = ((n : Int), (q : Int), 0, 0)) (hn1 : n < 4294967296) (hq : q ≤ xs.length) (hn : xs.length - q < n) :
    Calls Tryd.prog 18 #[v, .int .i64 at_] w fun e' w' => e' = .returned (tupN ([], 0, 4, xs.length)) ∧ Below w.heap.size w w' := by
  obtain ⟨A, cap, rfl, _, _⟩ := hv.len
  have HV := Lib.hid hv; clear hv
  have HB := Lib.hid hb; clear hb
  have HG := Lib.hid hg; clear hg
  have k1 : (xs.length : Int) - (q : Int) < (n : Int) := by omega
  have k3 : IntKind.u64.wrap ((xs.length : Int) - (q : Int)) = (xs.length : Int) - (q : Int) := IntWalk.u64_in _ (by omega)
  have R0 := Lib.hid (VB.new w 27 #[.int .i64 0, .int .i64 0])
  go_enter Tryd.func18, Tryd.ntmps18
  go_wp2_with fail
  refine (refGetU _ _ _ _ (HV.out.alloc _) HB.out (by omega)).mono ?_
  rintro _ w1 ⟨rfl, b1⟩
  rw [HG.out]
  simp only [tupU]
  have R1 := Lib.hid (R0.out.call b1)
  have bb1 : Below (w.heap.size + 1) (w.alloc (.cells #[.int .i64 0, .int .i64 0] 27)) w1 := b1.mono (by simp)
  have z1 := b1.size
  simp only [World.size_alloc] at z1
  have f0 := R1.out.cell 0
  have f1 := R1.out.cell 1
  have f2 := R1.out.free 0
  have f3 := R1.out.free 1
  have f4 := R1.out.lt
  simp at f0 f1
  have BE := Lib.hid (B.alloc (bend (i := 0) (j := 1) (u := .int .i64 4) (u' := .int .i64 xs.length) bb1) (.cells #[.int .i64 0, .int .i64 0] 27))
  clear b1 bb1
  go_wp2_with fail
  refine bodyPost_ret (v := tupN ([], 0, 4, xs.length)) (by simp [results, Tryd.results18, go_sem, f0, f1, f4, tupN, str]) rfl ⟨rfl, ?_⟩
  exact BE.out

set_option maxHeartbeats 2000000 in
theorem refGet_c (v : Value) (xs : List Int) (at_ : Int) (w : World) (hv : Sees .u8 w v xs) (hb : Byt xs) (hm : xs.length ≤ 2000000) (n q : Nat) (hg : Leb.getU xs at_ = ((n : Int), (q : Int), 0, 0)) (hq : q ≤ xs.length) (hq0 : 0 < q) (hn : n ≤ xs.length - q) (a : Nat) (hbad : Nm.badAt ((xs.drop q).take n) = (a : Int)) (ha : a ≤ 2000000) :
    Calls Tryd.prog 18 #[v, .int .i64 at_] w fun e' w' => e' = .returned (tupN ([], 0, 4, (q : Int) + a)) ∧ Below w.heap.size w w' := by
  obtain ⟨A, cap, rfl, hc1, hc2, hcells⟩ := hv
  have HV := Lib.hid (show Sees .u8 w (.slice A xs.length cap) xs from ⟨A, cap, rfl, hc1, hc2, hcells⟩)
  obtain ⟨b, off, rfl, hcell⟩ := hcells (by intro e; subst e; simp at hq; omega)
  have HC := Lib.hid hcell; clear hcell hcells
  have HB := Lib.hid hb; clear hb
  have HG := Lib.hid hg; clear hg
  have HBD := Lib.hid hbad; clear hbad
  have k1 : ¬ ((xs.length : Int) - (q : Int) < (n : Int)) := by omega
  have k2 : (q : Int) + (n : Int) ≤ cap := by omega
  have k3 : IntKind.u64.wrap ((xs.length : Int) - (q : Int)) = (xs.length : Int) - (q : Int) := IntWalk.u64_in _ (by omega)
  by_cases hcq : cap = q
  · exfalso
    have hn0 : n = 0 := by omega
    have hz := HBD.out
    rw [hn0, List.take_zero] at hz
    have hz0 : Nm.badAt [] = -1 := rfl
    omega
  · skip
    have R0 := Lib.hid (VB.new w 27 #[.int .i64 0, .int .i64 0])
    go_enter Tryd.func18, Tryd.ntmps18
    go_wp2_with fail
    refine (refGetU _ _ _ _ (HV.out.alloc _) HB.out (by omega)).mono ?_
    rintro _ w1 ⟨rfl, b1⟩
    rw [HG.out]
    simp only [tupU]
    have R1 := Lib.hid (R0.out.call b1)
    have bb1 : Below (w.heap.size + 1) (w.alloc (.cells #[.int .i64 0, .int .i64 0] 27)) w1 := b1.mono (by simp)
    have z1 := b1.size
    simp only [World.size_alloc] at z1
    have SQ0 : Sees .u8 w (.slice (some ⟨b, off + q, none⟩) n (cap - q)) ((xs.drop q).take n) := Sees.cut HC.out q n (cap - q) (some ⟨b, off + q, none⟩) (by intro _; rfl) (by omega) (by omega) (by unfold maxLen at hc2 ⊢; omega)
    have SQ := Lib.hid (((SQ0.alloc (.cells #[.int .i64 0, .int .i64 0] 27)).below b1 (Nat.le_refl _)).alloc (.cells #[.int .i64 0, .int .i64 0] 27))
    go_wp2_with fail
    refine (refBad _ _ _ SQ.out (Byt.cut HB.out q n) (by simp <;> omega)).mono ?_
    rintro _ w2 ⟨rfl, b2⟩
    rw [HBD.out]
    have R2 := Lib.hid ((R1.out.alloc (.cells #[.int .i64 0, .int .i64 0] 27)).call b2)
    have bb2 := (bb1.alloc (by omega) (.cells #[.int .i64 0, .int .i64 0] 27)).trans (b2.mono (by simp; omega))
    have f0 := R2.out.cell 0
    have f1 := R2.out.cell 1
    have f2 := R2.out.free 0
    have f3 := R2.out.free 1
    have f4 := R2.out.lt
    simp at f0 f1
    have BE := Lib.hid (bend (i := 0) (j := 1) (u := .int .i64 4) (u' := .int .i64 ((q : Int) + (a : Int))) bb2)
    clear b1 bb1 b2 bb2 SQ0
    go_wp2_with fail
    refine bodyPost_ret (v := tupN ([], 0, 4, (q : Int) + a)) (by simp [results, Tryd.results18, go_sem, f0, f1, tupN, str]) rfl ⟨rfl, ?_⟩
    exact BE.out

set_option maxHeartbeats 2000000 in
theorem refGet_d (v : Value) (xs : List Int) (at_ : Int) (w : World) (hv : Sees .u8 w v xs) (hb : Byt xs) (hm : xs.length ≤ 2000000) (n q : Nat) (hg : Leb.getU xs at_ = ((n : Int), (q : Int), 0, 0)) (hq : q ≤ xs.length) (hq0 : 0 < q) (hn : n ≤ xs.length - q) (hbad : Nm.badAt ((xs.drop q).take n) = -1) :
    Calls Tryd.prog 18 #[v, .int .i64 at_] w fun e' w' => e' = .returned (tupN ((xs.drop q).take n, (q : Int) + n, 0, 0)) ∧ Below w.heap.size w w' := by
  obtain ⟨A, cap, rfl, hc1, hc2, hcells⟩ := hv
  have HV := Lib.hid (show Sees .u8 w (.slice A xs.length cap) xs from ⟨A, cap, rfl, hc1, hc2, hcells⟩)
  obtain ⟨b, off, rfl, hcell⟩ := hcells (by intro e; subst e; simp at hq; omega)
  have HC := Lib.hid hcell; clear hcell hcells
  have HB := Lib.hid hb; clear hb
  have HG := Lib.hid hg; clear hg
  have HBD := Lib.hid hbad; clear hbad
  have k1 : ¬ ((xs.length : Int) - (q : Int) < (n : Int)) := by omega
  have k2 : (q : Int) + (n : Int) ≤ cap := by omega
  have k3 : IntKind.u64.wrap ((xs.length : Int) - (q : Int)) = (xs.length : Int) - (q : Int) := IntWalk.u64_in _ (by omega)
  by_cases hcq : cap = q
  · subst hcq
    obtain rfl : n = 0 := by omega
    have k1' : ¬ ((xs.length : Int) - (cap : Int) < 0) := by omega
    have R0 := Lib.hid (VB.new w 27 #[.int .i64 0, .int .i64 0])
    go_enter Tryd.func18, Tryd.ntmps18
    go_wp2_with fail
    refine (refGetU _ _ _ _ (HV.out.alloc _) HB.out (by omega)).mono ?_
    rintro _ w1 ⟨rfl, b1⟩
    rw [HG.out]
    simp only [tupU]
    have R1 := Lib.hid (R0.out.call b1)
    have bb1 : Below (w.heap.size + 1) (w.alloc (.cells #[.int .i64 0, .int .i64 0] 27)) w1 := b1.mono (by simp)
    have z1 := b1.size
    simp only [World.size_alloc] at z1
    have SQ0 : Sees .u8 w (.slice (some ⟨b, off, none⟩) 0 0) ((xs.drop cap).take 0) := Sees.cut HC.out cap 0 0 (some ⟨b, off, none⟩) (by intro h; omega) (by omega) (by omega) (by unfold maxLen at hc2 ⊢; omega)
    have SQ := Lib.hid (((SQ0.alloc (.cells #[.int .i64 0, .int .i64 0] 27)).below b1 (Nat.le_refl _)).alloc (.cells #[.int .i64 0, .int .i64 0] 27))
    go_wp2_with fail
    refine (refBad _ _ _ SQ.out (Byt.cut HB.out cap 0) (by simp <;> omega)).mono ?_
    rintro _ w2 ⟨rfl, b2⟩
    rw [HBD.out]
    have R2 := Lib.hid ((R1.out.alloc (.cells #[.int .i64 0, .int .i64 0] 27)).call b2)
    have bb2 := (bb1.alloc (by omega) (.cells #[.int .i64 0, .int .i64 0] 27)).trans (b2.mono (by simp; omega))
    have f0 := R2.out.cell 0
    have f1 := R2.out.cell 1
    have f2 := R2.out.free 0
    have f3 := R2.out.free 1
    have f4 := R2.out.lt
    simp at f0 f1
    have e1 := run_str (P := Tryd.prog) (T := 22) (E := 5) (S := 9) Tryd.underlying22 Tryd.underlying5 Tryd.underlying9 (SQ.out.below b2 (Nat.le_refl _))
    have BE := Lib.hid (bend (i := 0) (j := 1) (u := .int .i64 0) (u' := .int .i64 0) bb2)
    clear b1 bb1 b2 bb2 SQ0
    go_wp2_with fail
    refine bodyPost_ret (v := tupN ((xs.drop cap).take 0, (cap : Int) + ((0 : Nat) : Int), 0, 0)) (by simp [results, Tryd.results18, go_sem, f0, f1, tupN]) rfl ⟨rfl, ?_⟩
    exact BE.out
  · skip
    have R0 := Lib.hid (VB.new w 27 #[.int .i64 0, .int .i64 0])
    go_enter Tryd.func18, Tryd.ntmps18
    go_wp2_with fail
    refine (refGetU _ _ _ _ (HV.out.alloc _) HB.out (by omega)).mono ?_
    rintro _ w1 ⟨rfl, b1⟩
    rw [HG.out]
    simp only [tupU]
    have R1 := Lib.hid (R0.out.call b1)
    have bb1 : Below (w.heap.size + 1) (w.alloc (.cells #[.int .i64 0, .int .i64 0] 27)) w1 := b1.mono (by simp)
    have z1 := b1.size
    simp only [World.size_alloc] at z1
    have SQ0 : Sees .u8 w (.slice (some ⟨b, off + q, none⟩) n (cap - q)) ((xs.drop q).take n) := Sees.cut HC.out q n (cap - q) (some ⟨b, off + q, none⟩) (by intro _; rfl) (by omega) (by omega) (by unfold maxLen at hc2 ⊢; omega)
    have SQ := Lib.hid (((SQ0.alloc (.cells #[.int .i64 0, .int .i64 0] 27)).below b1 (Nat.le_refl _)).alloc (.cells #[.int .i64 0, .int .i64 0] 27))
    go_wp2_with fail
    refine (refBad _ _ _ SQ.out (Byt.cut HB.out q n) (by simp <;> omega)).mono ?_
    rintro _ w2 ⟨rfl, b2⟩
    rw [HBD.out]
    have R2 := Lib.hid ((R1.out.alloc (.cells #[.int .i64 0, .int .i64 0] 27)).call b2)
    have bb2 := (bb1.alloc (by omega) (.cells #[.int .i64 0, .int .i64 0] 27)).trans (b2.mono (by simp; omega))
    have f0 := R2.out.cell 0
    have f1 := R2.out.cell 1
    have f2 := R2.out.free 0
    have f3 := R2.out.free 1
    have f4 := R2.out.lt
    simp at f0 f1
    have e1 := run_str (P := Tryd.prog) (T := 22) (E := 5) (S := 9) Tryd.underlying22 Tryd.underlying5 Tryd.underlying9 (SQ.out.below b2 (Nat.le_refl _))
    have BE := Lib.hid (bend (i := 0) (j := 1) (u := .int .i64 0) (u' := .int .i64 0) bb2)
    clear b1 bb1 b2 bb2 SQ0
    go_wp2_with fail
    refine bodyPost_ret (v := tupN ((xs.drop q).take n, (q : Int) + n, 0, 0)) (by simp [results, Tryd.results18, go_sem, f0, f1, tupN]) rfl ⟨rfl, ?_⟩
    exact BE.out

theorem nmGet (v : Value) (xs : List Int) (at_ : Int) (w : World) (hv : Sees .u8 w v xs) (hb : Byt xs) (hT : Tabs w) (hm : xs.length ≤ 2000000) :
    Calls Tryd.prog 17 #[v, .int .i64 at_] w fun e' w' => e' = .returned (tupN (Nm.getAt xs at_)) ∧ Below w.heap.size w w' := by
  rcases Leb.getU_cases xs at_ hb with ⟨n, q, hg, n0, n1, a0, a1, q0, q1, q2⟩ | ⟨e, p, hg, he⟩
  · have hp := Leb.putU_pos 4 n
    obtain ⟨n, rfl⟩ := Int.eq_ofNat_of_zero_le n0
    obtain ⟨q, rfl⟩ := Int.eq_ofNat_of_zero_le (show 0 ≤ q by omega)
    by_cases hn : (xs.length : Int) - (q : Int) < (n : Int)
    · have hr : Nm.getAt xs at_ = ([], 0, 4, (xs.length : Int)) := by unfold Nm.getAt; simp only [hg]; simp [hn]
      rw [hr]; exact nmGet_b v xs at_ w hv hb hm n q hg (by omega) (by omega) (by omega)
    · have hr : Nm.getAt xs at_ = if 0 ≤ Nm.badAt ((xs.drop q).take n) then ([], 0, 4, (q : Int) + Nm.badAt ((xs.drop q).take n)) else ((xs.drop q).take n, (q : Int) + n, 0, 0) := by unfold Nm.getAt; simp only [hg]; simp [hn]
      rcases Nm.badAt_cases ((xs.drop q).take n) with hbad | ⟨a, hbad, ha⟩
      · rw [if_neg (by omega)] at hr
        rw [hr]; exact nmGet_d v xs at_ w hv hb hT hm n q hg (by omega) (by omega) (by omega) hbad
      · rw [if_pos (by omega), hbad] at hr
        have hl : ((xs.drop q).take n).length ≤ xs.length := by simp; omega
        rw [hr]; exact nmGet_c v xs at_ w hv hb hT hm n q hg (by omega) (by omega) (by omega) a hbad (by omega)
  · have he' : ¬ e = 0 := by omega
    have hr : Nm.getAt xs at_ = ([], 0, e, p) := by unfold Nm.getAt; simp only [hg]; simp [he']
    rw [hr]; exact nmGet_a v xs at_ w hv hb hm e p hg he'

theorem refGet (v : Value) (xs : List Int) (at_ : Int) (w : World) (hv : Sees .u8 w v xs) (hb : Byt xs) (hm : xs.length ≤ 2000000) :
    Calls Tryd.prog 18 #[v, .int .i64 at_] w fun e' w' => e' = .returned (tupN (Nm.getAt xs at_)) ∧ Below w.heap.size w w' := by
  rcases Leb.getU_cases xs at_ hb with ⟨n, q, hg, n0, n1, a0, a1, q0, q1, q2⟩ | ⟨e, p, hg, he⟩
  · have hp := Leb.putU_pos 4 n
    obtain ⟨n, rfl⟩ := Int.eq_ofNat_of_zero_le n0
    obtain ⟨q, rfl⟩ := Int.eq_ofNat_of_zero_le (show 0 ≤ q by omega)
    by_cases hn : (xs.length : Int) - (q : Int) < (n : Int)
    · have hr : Nm.getAt xs at_ = ([], 0, 4, (xs.length : Int)) := by unfold Nm.getAt; simp only [hg]; simp [hn]
      rw [hr]; exact refGet_b v xs at_ w hv hb hm n q hg (by omega) (by omega) (by omega)
    · have hr : Nm.getAt xs at_ = if 0 ≤ Nm.badAt ((xs.drop q).take n) then ([], 0, 4, (q : Int) + Nm.badAt ((xs.drop q).take n)) else ((xs.drop q).take n, (q : Int) + n, 0, 0) := by unfold Nm.getAt; simp only [hg]; simp [hn]
      rcases Nm.badAt_cases ((xs.drop q).take n) with hbad | ⟨a, hbad, ha⟩
      · rw [if_neg (by omega)] at hr
        rw [hr]; exact refGet_d v xs at_ w hv hb hm n q hg (by omega) (by omega) (by omega) hbad
      · rw [if_pos (by omega), hbad] at hr
        have hl : ((xs.drop q).take n).length ≤ xs.length := by simp; omega
        rw [hr]; exact refGet_c v xs at_ w hv hb hm n q hg (by omega) (by omega) (by omega) a hbad (by omega)
  · have he' : ¬ e = 0 := by omega
    have hr : Nm.getAt xs at_ = ([], 0, e, p) := by unfold Nm.getAt; simp only [hg]; simp [he']
    rw [hr]; exact refGet_a v xs at_ w hv hb hm e p hg he'

end Go.Proofs.YtdlfmchpaohoaaaDoor
