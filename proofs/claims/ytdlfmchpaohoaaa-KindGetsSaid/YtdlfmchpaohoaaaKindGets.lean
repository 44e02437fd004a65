/- The law KindGets: the walk (printed by wip/gen_kindgets.py). -/
import Derived.Test.YtdlfmchpaohoaaaKindAwake
import Derived.Test.YtdlfmchpaohoaaaKept
import Derived.Test.YtdlfmchpaohoaaaRefLim
namespace Go.Proofs.Ytdlfmchpaohoaaa
open Go.RowKit

theorem _root_.Go.World.rowIs.below {w w' : World} {g : Nat} {t : TypeId} {n : Nat} {f : Nat → Value} (h : w.rowIs g t n f) {B : Nat} (hb : Below B w w') (hB : w.heap.size ≤ B) : w'.rowIs g t n f :=
  h.of_block (hb.block g (Nat.lt_of_lt_of_le h.lt hB))

set_option maxRecDepth 100000 in
set_option maxHeartbeats 4000000 in
theorem kindGets_walk (v : Value) (bs : List Int) (at_ most : Int) (w : World) (hv : Sees .u8 w v bs) (hb : Byt bs) (hm : bs.length ≤ 140737488351232) :
    Calls Try.prog 7 #[v, .int .i64 at_, .int .u32 most] w fun e w' => e = .returned (.bool true) ∧ Below w.heap.size w w' := by
  have HV := Lib.hid hv; clear hv
  have HB := Lib.hid hb; clear hb
  obtain ⟨x, y, q, e, p, hT⟩ : ∃ x y q e p, Kind.getAt bs at_ = (x, y, q, e, p) := ⟨_, _, _, _, _, rfl⟩
  obtain ⟨mn, mx, c, q2, e2, p2, hL⟩ : ∃ mn mx c q e p, Kind.limitsAt bs at_ most = (mn, mx, c, q, e, p) := ⟨_, _, _, _, _, _, rfl⟩
  have HT := Lib.hid hT; clear hT
  have HL := Lib.hid hL; clear hL
  go_enter Try.func7, Try.ntmps7
  go_wp2_with fail
  refine (lent _ bs _ HV.out hm).mono ?_
  rintro _ w1 ⟨g, hg, rfl, r1, b1⟩
  have R1 := Lib.hid r1; clear r1
  have B1 := Lib.hid b1; clear b1
  go_wp2_with fail
  refine (kindGet _ _ _ _ (sees_in R1.out hm) HB.out hm).mono ?_
  rintro _ w2 ⟨rfl, b2⟩
  rw [HT.out]
  simp only [tupT]
  have T2 := Lib.hid ((VB.new w2 42 #[.int .i64 x, .int .i64 y]).alloc (.cells #[.int .i64 e, .int .i64 p] 33))
  have F2 := Lib.hid (VB.new (w2.alloc (.cells #[.int .i64 x, .int .i64 y] 42)) 33 #[.int .i64 e, .int .i64 p])
  simp only [World.size_alloc] at F2
  have B2 := Lib.hid (B.alloc (B.alloc (B.call B1.out b2) (.cells #[.int .i64 x, .int .i64 y] 42)) (.cells #[.int .i64 e, .int .i64 p] 33))
  have r2 := (R1.out.below b2 (Nat.le_refl _)).alloc (.cells #[.int .i64 x, .int .i64 y] 42)
  have R2 := Lib.hid (r2.alloc (.cells #[.int .i64 e, .int .i64 p] 33)); clear r2
  clear b2
  go_wp2_with fail
  refine (refGet _ _ _ _ (HV.out.below B2.out (Nat.le_refl _)) HB.out hm).mono ?_
  rintro _ w3 ⟨rfl, b3⟩
  rw [HT.out]
  simp only [tupT]
  have T3 := Lib.hid ((VB.new w3 42 #[.int .i64 x, .int .i64 y]).alloc (.cells #[.int .i64 e, .int .i64 p] 33))
  have F3 := Lib.hid (VB.new (w3.alloc (.cells #[.int .i64 x, .int .i64 y] 42)) 33 #[.int .i64 e, .int .i64 p])
  simp only [World.size_alloc] at F3
  have B3 := Lib.hid (B.alloc (B.alloc (B.call B2.out b3) (.cells #[.int .i64 x, .int .i64 y] 42)) (.cells #[.int .i64 e, .int .i64 p] 33))
  have r3 := (R2.out.below b3 (Nat.le_refl _)).alloc (.cells #[.int .i64 x, .int .i64 y] 42)
  have R3 := Lib.hid (r3.alloc (.cells #[.int .i64 e, .int .i64 p] 33)); clear r3
  have T2_ := Lib.hid (((T2.out.call b3).alloc (.cells #[.int .i64 x, .int .i64 y] 42)).alloc (.cells #[.int .i64 e, .int .i64 p] 33)); clear T2
  have T2 := T2_; clear T2_
  have F2_ := Lib.hid (((F2.out.call b3).alloc (.cells #[.int .i64 x, .int .i64 y] 42)).alloc (.cells #[.int .i64 e, .int .i64 p] 33)); clear F2
  have F2 := F2_; clear F2_
  clear b3
  go_wp2_with fail
  refine (kindLim _ _ _ _ _ (sees_in R3.out hm) HB.out hm).mono ?_
  rintro _ w4 ⟨rfl, b4⟩
  rw [HL.out]
  simp only [tupL]
  have T4 := Lib.hid ((VB.new w4 46 #[.int .u32 mn, .int .u32 mx, .bool (decide (c = 1))]).alloc (.cells #[.int .i64 e2, .int .i64 p2] 33))
  have F4 := Lib.hid (VB.new (w4.alloc (.cells #[.int .u32 mn, .int .u32 mx, .bool (decide (c = 1))] 46)) 33 #[.int .i64 e2, .int .i64 p2])
  simp only [World.size_alloc] at F4
  have B4 := Lib.hid (B.alloc (B.alloc (B.call B3.out b4) (.cells #[.int .u32 mn, .int .u32 mx, .bool (decide (c = 1))] 46)) (.cells #[.int .i64 e2, .int .i64 p2] 33))
  have r4 := (R3.out.below b4 (Nat.le_refl _)).alloc (.cells #[.int .u32 mn, .int .u32 mx, .bool (decide (c = 1))] 46)
  have R4 := Lib.hid (r4.alloc (.cells #[.int .i64 e2, .int .i64 p2] 33)); clear r4
  have T2_ := Lib.hid (((T2.out.call b4).alloc (.cells #[.int .u32 mn, .int .u32 mx, .bool (decide (c = 1))] 46)).alloc (.cells #[.int .i64 e2, .int .i64 p2] 33)); clear T2
  have T2 := T2_; clear T2_
  have F2_ := Lib.hid (((F2.out.call b4).alloc (.cells #[.int .u32 mn, .int .u32 mx, .bool (decide (c = 1))] 46)).alloc (.cells #[.int .i64 e2, .int .i64 p2] 33)); clear F2
  have F2 := F2_; clear F2_
  have T3_ := Lib.hid (((T3.out.call b4).alloc (.cells #[.int .u32 mn, .int .u32 mx, .bool (decide (c = 1))] 46)).alloc (.cells #[.int .i64 e2, .int .i64 p2] 33)); clear T3
  have T3 := T3_; clear T3_
  have F3_ := Lib.hid (((F3.out.call b4).alloc (.cells #[.int .u32 mn, .int .u32 mx, .bool (decide (c = 1))] 46)).alloc (.cells #[.int .i64 e2, .int .i64 p2] 33)); clear F3
  have F3 := F3_; clear F3_
  clear b4
  go_wp2_with fail
  refine (refLim _ _ _ _ _ (HV.out.below B4.out (Nat.le_refl _)) HB.out hm).mono ?_
  rintro _ w5 ⟨rfl, b5⟩
  rw [HL.out]
  simp only [tupL]
  have T5 := Lib.hid ((VB.new w5 46 #[.int .u32 mn, .int .u32 mx, .bool (decide (c = 1))]).alloc (.cells #[.int .i64 e2, .int .i64 p2] 33))
  have F5 := Lib.hid (VB.new (w5.alloc (.cells #[.int .u32 mn, .int .u32 mx, .bool (decide (c = 1))] 46)) 33 #[.int .i64 e2, .int .i64 p2])
  simp only [World.size_alloc] at F5
  have B5 := Lib.hid (B.alloc (B.alloc (B.call B4.out b5) (.cells #[.int .u32 mn, .int .u32 mx, .bool (decide (c = 1))] 46)) (.cells #[.int .i64 e2, .int .i64 p2] 33))
  have r5 := (R4.out.below b5 (Nat.le_refl _)).alloc (.cells #[.int .u32 mn, .int .u32 mx, .bool (decide (c = 1))] 46)
  have R5 := Lib.hid (r5.alloc (.cells #[.int .i64 e2, .int .i64 p2] 33)); clear r5
  have tT2 := T2.out.call b5
  have cT20 := tT2.cell 0
  have cT21 := tT2.cell 1
  have lT2 := tT2.lt
  have tF2 := F2.out.call b5
  have cF20 := tF2.cell 0
  have cF21 := tF2.cell 1
  have lF2 := tF2.lt
  have tT3 := T3.out.call b5
  have cT30 := tT3.cell 0
  have cT31 := tT3.cell 1
  have lT3 := tT3.lt
  have tF3 := F3.out.call b5
  have cF30 := tF3.cell 0
  have cF31 := tF3.cell 1
  have lF3 := tF3.lt
  have tT4 := T4.out.call b5
  have cT40 := tT4.cell 0
  have cT41 := tT4.cell 1
  have cT42 := tT4.cell 2
  have lT4 := tT4.lt
  have tF4 := F4.out.call b5
  have cF40 := tF4.cell 0
  have cF41 := tF4.cell 1
  have lF4 := tF4.lt
  simp at cT20 cT21 cF20 cF21 cT30 cT31 cF30 cF31 cT40 cT41 cT42 cF40 cF41
  clear b5 tT2 tF2 tT3 tF3 tT4 tF4
  go_wp2_with fail
  refine (kept _ _ _ _ R5.out (HV.out.below B5.out (Nat.le_refl _)) HB.out hm).mono ?_
  rintro _ w6 ⟨rfl, b6⟩
  go_wp2_with fail
  refine (awake04 _).mono ?_
  rintro _ w7 ⟨rfl, b7⟩
  go_wp2_with fail
  go_returns
  exact ⟨rfl, B.call (B.call B5.out b6) b7⟩

theorem kindGetsWalk (a : Option Addr) (len cap : Nat) (zs : List Int) (at_ most : Int) (w : World) (h1 : IsRow .u8 w a len cap zs) (hr : cap * 1 ≤ 140737488351232) (_h2 : (Lit.int .i64 at_).wf = true) (_h3 : (Lit.int .u32 most).wf = true) :
    Calls Try.prog 7 #[.slice a len cap, .int .i64 at_, .int .u32 most] w fun e w' => e = .returned (.bool true) ∧ Below w.heap.size w w' := by
  obtain ⟨s1, l1, b1⟩ := h1.sees
  have hb := Byt.of_wf b1
  have hm : (zs.take len).length ≤ 140737488351232 := by
    obtain ⟨A, c, he, hc, _⟩ := s1.len
    simp only [Value.slice.injEq] at he
    omega
  exact kindGets_walk _ _ at_ most w s1 hb hm

end Go.Proofs.Ytdlfmchpaohoaaa
