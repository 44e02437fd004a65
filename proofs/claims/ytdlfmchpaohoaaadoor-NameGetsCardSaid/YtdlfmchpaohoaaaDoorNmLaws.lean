/- The laws NameRunes and NameGets: the walks. -/
import Derived.Test.YtdlfmchpaohoaaaDoorNmAwake
import Derived.Test.YtdlfmchpaohoaaaDoorKept
namespace Go.Proofs.YtdlfmchpaohoaaaDoor
open Go.RowKit

theorem _root_.Go.World.rowIs.below {w w' : World} {g : Nat} {t : TypeId} {n : Nat} {f : Nat → Value} (h : w.rowIs g t n f) {B : Nat} (hb : Below B w w') (hB : w.heap.size ≤ B) : w'.rowIs g t n f :=
  h.of_block (hb.block g (Nat.lt_of_lt_of_le h.lt hB))

def Nm.rL (xs : List Int) : List Int := if Nm.badAt xs = -1 then Nm.runesFrom xs xs.length 0 else []
def Nm.rE (xs : List Int) : Int := if Nm.badAt xs = -1 then 0 else 4
def Nm.rP (xs : List Int) : Int := if Nm.badAt xs = -1 then 0 else Nm.badAt xs

theorem Nm.rL_len (xs : List Int) : (Nm.rL xs).length ≤ xs.length := by
  unfold Nm.rL
  split
  · have := Nm.runesFrom_len xs xs.length 0 (by omega); omega
  · simp

theorem Nm.RunesOut.told {xs : List Int} {e : Ending} {w : World} (h : Nm.RunesOut xs e w) : ∃ v, e = .returned (.tuple #[v, .agg #[.int .i64 (Nm.rE xs), .int .i64 (Nm.rP xs)]]) ∧ Sees .i64 w v (Nm.rL xs) := by
  unfold Nm.rL Nm.rE Nm.rP
  rcases h with ⟨hb, v, rfl, hs⟩ | ⟨⟨a, hb⟩, rfl⟩
  · rw [if_pos hb, if_pos hb, if_pos hb]; exact ⟨v, rfl, hs⟩
  · rw [if_neg (by omega), if_neg (by omega), if_neg (by omega)]; exact ⟨_, rfl, Sees.nil _ _⟩

set_option maxRecDepth 100000 in
set_option maxHeartbeats 4000000 in
theorem nameRunes_small (v : Value) (xs : List Int) (w : World) (hv : Sees .u8 w v xs) (hb : Byt xs) (hT : Tabs w) (hm : xs.length ≤ 2000) :
    Calls Tryd.prog 3 #[v] w fun e w' => e = .returned (.bool true) ∧ Below w.heap.size w w' := by
  obtain ⟨A, cap, rfl, _, _⟩ := hv.len
  have HV := Lib.hid hv; clear hv
  have HB := Lib.hid hb; clear hb
  have HT := Lib.hid hT; clear hT
  have hl := Nm.rL_len xs
  have hla : ¬ 2000 < (xs.length : Int) := by omega
  obtain ⟨E, hE⟩ : ∃ E, E = Nm.rE xs := ⟨_, rfl⟩
  obtain ⟨P, hP⟩ : ∃ P, P = Nm.rP xs := ⟨_, rfl⟩
  have HE := Lib.hid hE; clear hE
  have HP := Lib.hid hP; clear hP
  go_enter Tryd.func3, Tryd.ntmps3
  go_wp2_with fail
  refine (lent _ xs _ HV.out (by omega)).mono ?_
  rintro _ w1 ⟨g, hg, rfl, r1, b1⟩
  have R1 := Lib.hid r1; clear r1
  have B1 := Lib.hid b1
  have T1 := Lib.hid (HT.out.below b1); clear b1
  go_wp2_with fail
  refine (nmRunes _ xs _ (sees_in R1.out (by omega)) HB.out T1.out (by omega)).mono ?_
  rintro _ w2 ⟨ho, b2⟩
  obtain ⟨v2, rfl, o2⟩ := ho.told
  rw [← HE.out, ← HP.out]
  obtain ⟨A2, k2, rfl, _, _⟩ := o2.len
  have O2 := Lib.hid o2; clear o2 ho
  have F2 := Lib.hid (VB.new w2 27 #[.int .i64 E, .int .i64 P])
  have R2 := Lib.hid ((R1.out.below b2 (Nat.le_refl _)).alloc (.cells #[.int .i64 E, .int .i64 P] 27))
  have B2 := Lib.hid (B.alloc (B.call B1.out b2) (.cells #[.int .i64 E, .int .i64 P] 27))
  have T2 := Lib.hid ((T1.out.below b2).alloc (.cells #[.int .i64 E, .int .i64 P] 27)); clear b2
  go_wp2_with fail
  refine (refRunes _ xs _ (HV.out.below B2.out (Nat.le_refl _)) HB.out (by omega)).mono ?_
  rintro _ w3 ⟨ho, b3⟩
  obtain ⟨v3, rfl, o3⟩ := ho.told
  rw [← HE.out, ← HP.out]
  obtain ⟨A3, k3, rfl, _, _⟩ := o3.len
  have O3 := Lib.hid o3; clear o3 ho
  have O2' := Lib.hid ((O2.out.alloc (.cells #[.int .i64 E, .int .i64 P] 27)).below b3 (Nat.le_refl _))
  have F2' := Lib.hid ((F2.out.call b3).alloc (.cells #[.int .i64 E, .int .i64 P] 27))
  have F3 := Lib.hid (VB.new w3 27 #[.int .i64 E, .int .i64 P])
  have R3 := Lib.hid ((R2.out.below b3 (Nat.le_refl _)).alloc (.cells #[.int .i64 E, .int .i64 P] 27))
  have B3 := Lib.hid (B.alloc (B.call B2.out b3) (.cells #[.int .i64 E, .int .i64 P] 27))
  have T3 := Lib.hid ((T2.out.below b3).alloc (.cells #[.int .i64 E, .int .i64 P] 27)); clear b3
  go_wp2_with fail
  refine (sameInts _ _ (Nm.rL xs) _ (O2'.out.alloc (.cells #[.int .i64 E, .int .i64 P] 27)) (O3.out.alloc (.cells #[.int .i64 E, .int .i64 P] 27)) (by omega)).mono ?_
  rintro _ w4 ⟨rfl, b4⟩
  have f2 := F2'.out.call b4
  have f3 := F3.out.call b4
  have c0 := f2.cell 0
  have c1 := f2.cell 1
  have d0 := f3.cell 0
  have d1 := f3.cell 1
  have cl := f2.lt
  have dl := f3.lt
  simp at c0 c1 d0 d1
  have R4 := Lib.hid (R3.out.below b4 (Nat.le_refl _))
  have B4 := Lib.hid (B.call B3.out b4)
  have T4 := Lib.hid (T3.out.below b4); clear b4 f2 f3
  go_wp2_with fail
  refine (nmBadAt _ xs _ (sees_in R4.out (by omega)) HB.out T4.out (by omega)).mono ?_
  rintro _ w5 ⟨rfl, b5⟩
  have R5 := Lib.hid (R4.out.below b5 (Nat.le_refl _))
  have B5 := Lib.hid (B.call B4.out b5)
  have T5 := Lib.hid (T4.out.below b5); clear b5
  go_wp2_with fail
  refine (refBad _ xs _ (HV.out.below B5.out (Nat.le_refl _)) HB.out (by omega)).mono ?_
  rintro _ w6 ⟨rfl, b6⟩
  have R6 := Lib.hid (R5.out.below b6 (Nat.le_refl _))
  have B6 := Lib.hid (B.call B5.out b6)
  have T6 := Lib.hid (T5.out.below b6); clear b6
  go_wp2_with fail
  refine (kept _ xs _ _ R6.out (HV.out.below B6.out (Nat.le_refl _)) HB.out (by omega)).mono ?_
  rintro _ w7 ⟨rfl, b7⟩
  have B7 := Lib.hid (B.call B6.out b7)
  have T7 := Lib.hid (T6.out.below b7); clear b7
  go_wp2_with fail
  refine (awake02 _ T7.out).mono ?_
  rintro _ w8 ⟨rfl, b8⟩
  go_wp2_with fail
  go_returns
  exact ⟨rfl, B.call B7.out b8⟩

theorem nameRunes_big (v : Value) (xs : List Int) (w : World) (hv : Sees .u8 w v xs) (hm : 2000 < xs.length) :
    Calls Tryd.prog 3 #[v] w fun e w' => e = .returned (.bool true) ∧ Below w.heap.size w w' := by
  have hla : 2000 < (xs.length : Int) := by omega
  obtain ⟨A, cap, rfl, _, _⟩ := hv.len
  clear hv
  go_enter Tryd.func3, Tryd.ntmps3
  go_wp2_with fail
  go_returns
  exact ⟨rfl, Below.refl _ _⟩

theorem nameRunesWalk (a : Option Addr) (len cap : Nat) (zs : List Int) (w : World) (hT : Tabs w) (h1 : IsRow .u8 w a len cap zs) :
    Calls Tryd.prog 3 #[.slice a len cap] w fun e w' => e = .returned (.bool true) ∧ Below w.heap.size w w' := by
  obtain ⟨s1, l1, b1⟩ := h1.sees
  by_cases h : (zs.take len).length ≤ 2000
  · exact nameRunes_small _ _ w s1 (Byt.of_wf b1) hT h
  · exact nameRunes_big _ _ w s1 (by omega)

set_option maxRecDepth 100000 in
set_option maxHeartbeats 4000000 in
theorem nameGets_small (v : Value) (xs : List Int) (at_ : Int) (w : World) (hv : Sees .u8 w v xs) (hb : Byt xs) (hT : Tabs w) (hm : xs.length ≤ 2000) :
    Calls Tryd.prog 4 #[v, .int .i64 at_] w fun e w' => e = .returned (.bool true) ∧ Below w.heap.size w w' := by
  obtain ⟨A, cap, rfl, _, _⟩ := hv.len
  have HV := Lib.hid hv; clear hv
  have HB := Lib.hid hb; clear hb
  have HT := Lib.hid hT; clear hT
  have hla : ¬ 2000 < (xs.length : Int) := by omega
  obtain ⟨s, q, E, P, hg⟩ : ∃ s q E P, Nm.getAt xs at_ = (s, q, E, P) := ⟨_, _, _, _, rfl⟩
  have HG := Lib.hid hg; clear hg
  go_enter Tryd.func4, Tryd.ntmps4
  go_wp2_with fail
  refine (lent _ xs _ HV.out (by omega)).mono ?_
  rintro _ w1 ⟨g, hg, rfl, r1, b1⟩
  have R1 := Lib.hid r1; clear r1
  have B1 := Lib.hid b1
  have T1 := Lib.hid (HT.out.below b1); clear b1
  go_wp2_with fail
  refine (nmGet _ xs _ _ (sees_in R1.out (by omega)) HB.out T1.out (by omega)).mono ?_
  rintro _ w2 ⟨rfl, b2⟩
  rw [HG.out]
  simp only [tupN]
  have F2 := Lib.hid (VB.new w2 27 #[.int .i64 E, .int .i64 P])
  have R2 := Lib.hid ((R1.out.below b2 (Nat.le_refl _)).alloc (.cells #[.int .i64 E, .int .i64 P] 27))
  have B2 := Lib.hid (B.alloc (B.call B1.out b2) (.cells #[.int .i64 E, .int .i64 P] 27))
  have T2 := Lib.hid ((T1.out.below b2).alloc (.cells #[.int .i64 E, .int .i64 P] 27)); clear b2
  go_wp2_with fail
  refine (refGet _ xs _ _ (HV.out.below B2.out (Nat.le_refl _)) HB.out (by omega)).mono ?_
  rintro _ w3 ⟨rfl, b3⟩
  rw [HG.out]
  simp only [tupN]
  have f2 := F2.out.call b3
  have c0 := f2.cell 0
  have c1 := f2.cell 1
  have cl := f2.lt
  simp at c0 c1
  have R3 := Lib.hid ((R2.out.below b3 (Nat.le_refl _)).alloc (.cells #[.int .i64 E, .int .i64 P] 27))
  have B3 := Lib.hid (B.alloc (B.call B2.out b3) (.cells #[.int .i64 E, .int .i64 P] 27))
  have T3 := Lib.hid ((T2.out.below b3).alloc (.cells #[.int .i64 E, .int .i64 P] 27)); clear b3 f2
  go_wp2_with fail
  refine (kept _ xs _ _ R3.out (HV.out.below B3.out (Nat.le_refl _)) HB.out (by omega)).mono ?_
  rintro _ w4 ⟨rfl, b4⟩
  have B4 := Lib.hid (B.call B3.out b4)
  have T4 := Lib.hid (T3.out.below b4); clear b4
  go_wp2_with fail
  refine (awake02 _ T4.out).mono ?_
  rintro _ w5 ⟨rfl, b5⟩
  go_wp2_with fail
  go_returns
  exact ⟨rfl, B.call B4.out b5⟩

theorem nameGets_big (v : Value) (xs : List Int) (at_ : Int) (w : World) (hv : Sees .u8 w v xs) (hm : 2000 < xs.length) :
    Calls Tryd.prog 4 #[v, .int .i64 at_] w fun e w' => e = .returned (.bool true) ∧ Below w.heap.size w w' := by
  have hla : 2000 < (xs.length : Int) := by omega
  obtain ⟨A, cap, rfl, _, _⟩ := hv.len
  clear hv
  go_enter Tryd.func4, Tryd.ntmps4
  go_wp2_with fail
  go_returns
  exact ⟨rfl, Below.refl _ _⟩

theorem nameGetsWalk (a : Option Addr) (len cap : Nat) (zs : List Int) (at_ : Int) (w : World) (hT : Tabs w) (h1 : IsRow .u8 w a len cap zs) (_h2 : (Lit.int .i64 at_).wf = true) :
    Calls Tryd.prog 4 #[.slice a len cap, .int .i64 at_] w fun e w' => e = .returned (.bool true) ∧ Below w.heap.size w w' := by
  obtain ⟨s1, l1, b1⟩ := h1.sees
  by_cases h : (zs.take len).length ≤ 2000
  · exact nameGets_small _ _ at_ w s1 (Byt.of_wf b1) hT h
  · exact nameGets_big _ _ at_ w s1 (by omega)

end Go.Proofs.YtdlfmchpaohoaaaDoor
