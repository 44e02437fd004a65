/- The law KindBack: the walk, one of four cases (printed by wip/gen_kindback.py). -/
import Derived.Test.YtdlfmchpaohoaaaKindBackPlain
import Derived.Test.YtdlfmchpaohoaaaKindPuts
namespace Go.Proofs.Ytdlfmchpaohoaaa
open Go.RowKit

set_option maxRecDepth 100000 in
set_option maxHeartbeats 8000000 in
theorem kindBack_a (v : Value) (bs : List Int) (p r mn mx most : Int) (c : Bool) (w : World) (hv : Sees .u8 w v bs) (hb : Byt bs) (hm : bs.length ≤ 100) (hb0 : 0 ≤ mn) (hb1 : mn < 4294967296) (hb2 : 0 ≤ mx) (hb3 : mx < 4294967296)
    (hchk : Kind.chk p r = 0) (hlim : Kind.lim mn mx c most = 0) (x y q e1 q1 : Int) (hG : Kind.getAt bs 0 = (x, y, q, e1, q1)) (hX : (e1 = 0 ∧ Kind.chk x y = 0 ∧ ((Kind.put x y).length : Int) ≤ q) ∨ ¬ e1 = 0)
    (x2 y2 c2 q2 e2 p2 : Int) (hL : Kind.limitsAt bs 0 most = (x2, y2, c2, q2, e2, p2)) (hx0 : 0 ≤ x2) (hx1 : x2 < 4294967296) (hy0 : 0 ≤ y2) (hy1 : y2 < 4294967296)
    (hY : (e2 = 0 ∧ Kind.lim x2 y2 (decide (c2 = 1)) most = 0 ∧ ((Kind.putLim x2 y2 (decide (c2 = 1)) most).length : Int) ≤ q2) ∨ ¬ e2 = 0) :
    Calls Try.prog 10 #[.agg #[.int .i64 p, .int .i64 r], .agg #[.int .u32 mn, .int .u32 mx, .bool c], .int .u32 most, v] w fun e w' => e = .returned (.bool true) ∧ Below w.heap.size w w' := by
  obtain ⟨i0, hi, hz0, hz1, hz2⟩ := info_parts Try.infoU8
  have HCHK := Lib.hid hchk
  have HLIM := Lib.hid hlim
  have HPG := Lib.hid (Kind.put_getAt p r bs hchk)
  have HPL := Lib.hid (Kind.putLim_limitsAt mn mx c most bs hb0 hb1 hb2 hb3 hlim)
  have hbo : decide ((if c = true then (1 : Int) else 0) = 1) = c := by cases c <;> rfl
  have HBO := Lib.hid hbo; clear hbo
  have HG := Lib.hid hG; clear hG
  have HL := Lib.hid hL; clear hL
  have HX := Lib.hid hX; clear hX
  have HY := Lib.hid hY; clear hY
  have lp := Kind.put_len p r
  have ll := Kind.putLim_len mn mx c most
  have hla : ¬ 100 < (bs.length : Int) := by omega
  obtain ⟨A, cap, rfl, _, _⟩ := hv.len
  have HV := Lib.hid hv; clear hv
  have HB := Lib.hid hb; clear hb
  clear hchk hlim
  go_enter Try.func10, Try.ntmps10
  go_wp2_with fail
  refine (awake04 _).mono ?_
  rintro _ w1 ⟨rfl, b1⟩
  have Vft_1 := Lib.hid (((VB.new w 42 #[.int .i64 p, .int .i64 r]).alloc (.cells #[.int .u32 mn, .int .u32 mx, .bool c] 46)).call b1)
  try simp only [World.size_alloc] at Vft_1
  have Vli_1 := Lib.hid ((VB.new (w.alloc (.cells #[.int .i64 p, .int .i64 r] 42)) 46 #[.int .u32 mn, .int .u32 mx, .bool c]).call b1)
  try simp only [World.size_alloc] at Vli_1
  have B1 := Lib.hid (B.call (B.alloc (B.alloc (B.refl w) (.cells #[.int .i64 p, .int .i64 r] 42)) (.cells #[.int .u32 mn, .int .u32 mx, .bool c] 46)) b1)
  clear b1
  have cft0_1 := Vft_1.out.cell 0
  have cft1_1 := Vft_1.out.cell 1
  have lft_1 := Vft_1.out.lt
  try have mft_1 := Nat.lt_of_succ_lt lft_1
  simp at cft0_1 cft1_1
  go_wp2_with fail
  refine (kindPut p r _).mono ?_
  rintro _ w2 ⟨⟨v2, rfl, o2⟩, b2⟩
  rw [HCHK.out]
  obtain ⟨A2, k2, rfl, _, _⟩ := o2.len
  have S2 := Lib.hid o2; clear o2
  have Vft_2 := Lib.hid (Vft_1.out.call b2); clear Vft_1
  have Vli_2 := Lib.hid (Vli_1.out.call b2); clear Vli_1
  have B2 := Lib.hid (B.call B1.out b2)
  clear b2 cft0_1 cft1_1
  go_wp2_with (first
    | (at_builtin; refine app_src Try.underlying23 hi hz0 hz1 hz2 rfl (.tmp 43) (.tmp 44) rfl rfl rfl (S2.out.alloc _) (Owns.empty _ _ _) (B.alloc (B.refl _) _) (by simp) (by simp only [List.length_nil]; omega) (by simp only [List.length_nil]; unfold maxLen; omega) ?_; intro v3 w3 o3 b3 z3 _)
    | (at_builtin; refine app_src Try.underlying23 hi hz0 hz1 hz2 rfl (.tmp 45) (.tmp 46) rfl rfl rfl (HV.out.below (B.call B2.out b3) (Nat.le_refl _)) o3 b3 z3 (by simp only [List.length_append, List.length_nil]; omega) (by simp only [List.length_append, List.length_nil]; unfold maxLen; omega) ?_; intro v4 w4 o4 b4 z4 _))
  have e4 : ([] : List Int) ++ Kind.put p r ++ bs = Kind.put p r ++ bs := by rw [List.nil_append]
  rw [e4] at o4
  have Vft_4 := Lib.hid (Vft_2.out.call b4); clear Vft_2
  have Vli_4 := Lib.hid (Vli_2.out.call b4); clear Vli_2
  have B4 := Lib.hid (B.call B2.out b4)
  clear b3 b4
  refine (kindGet _ _ _ _ o4.sees ((Kind.put_byt p r).append HB.out) (by simp only [List.length_append]; omega)).mono ?_
  rintro _ w5 ⟨rfl, b5⟩
  rw [HPG.out]
  simp only [tupT]
  have Vft_5 := Lib.hid (Vft_4.out.call b5); clear Vft_4
  have Vli_5 := Lib.hid (Vli_4.out.call b5); clear Vli_4
  have B5 := Lib.hid (B.call B4.out b5)
  clear b5
  have cft0_5 := Vft_5.out.cell 0
  have cft1_5 := Vft_5.out.cell 1
  have lft_5 := Vft_5.out.lt
  try have mft_5 := Nat.lt_of_succ_lt lft_5
  have cli0_5 := Vli_5.out.cell 0
  have cli1_5 := Vli_5.out.cell 1
  have cli2_5 := Vli_5.out.cell 2
  have lli_5 := Vli_5.out.lt
  try have mli_5 := Nat.lt_of_succ_lt lli_5
  simp at cft0_5 cft1_5 cli0_5 cli1_5 cli2_5
  go_wp2_with fail
  refine (kindPutLim mn mx most c _ hb0 hb1 hb2 hb3).mono ?_
  rintro _ w6 ⟨⟨v6, rfl, o6⟩, b6⟩
  rw [HLIM.out]
  obtain ⟨A6, k6, rfl, _, _⟩ := o6.len
  have S6 := Lib.hid o6; clear o6
  have Vft_6 := Lib.hid (((Vft_5.out.alloc (.cells #[.int .i64 p, .int .i64 r] 42)).alloc (.cells #[.int .i64 0, .int .i64 0] 33)).call b6); clear Vft_5
  have Vli_6 := Lib.hid (((Vli_5.out.alloc (.cells #[.int .i64 p, .int .i64 r] 42)).alloc (.cells #[.int .i64 0, .int .i64 0] 33)).call b6); clear Vli_5
  have B6 := Lib.hid (B.call (B.alloc (B.alloc B5.out (.cells #[.int .i64 p, .int .i64 r] 42)) (.cells #[.int .i64 0, .int .i64 0] 33)) b6)
  clear b6 cft0_5 cft1_5 cli0_5 cli1_5 cli2_5
  go_wp2_with (first
    | (at_builtin; refine app_src Try.underlying23 hi hz0 hz1 hz2 rfl (.tmp 75) (.tmp 76) rfl rfl rfl (S6.out.alloc _) (Owns.empty _ _ _) (B.alloc (B.refl _) _) (by simp) (by simp only [List.length_nil]; omega) (by simp only [List.length_nil]; unfold maxLen; omega) ?_; intro v7 w7 o7 b7 z7 _)
    | (at_builtin; refine app_src Try.underlying23 hi hz0 hz1 hz2 rfl (.tmp 77) (.tmp 78) rfl rfl rfl (HV.out.below (B.call B6.out b7) (Nat.le_refl _)) o7 b7 z7 (by simp only [List.length_append, List.length_nil]; omega) (by simp only [List.length_append, List.length_nil]; unfold maxLen; omega) ?_; intro v8 w8 o8 b8 z8 _))
  have e8 : ([] : List Int) ++ Kind.putLim mn mx c most ++ bs = Kind.putLim mn mx c most ++ bs := by rw [List.nil_append]
  rw [e8] at o8
  have Vft_8 := Lib.hid (Vft_6.out.call b8); clear Vft_6
  have Vli_8 := Lib.hid (Vli_6.out.call b8); clear Vli_6
  have B8 := Lib.hid (B.call B6.out b8)
  clear b7 b8
  refine (kindLim _ _ _ _ _ o8.sees ((Kind.putLim_byt mn mx c most hb0 hb1 hb2 hb3).append HB.out) (by simp only [List.length_append]; omega)).mono ?_
  rintro _ w9 ⟨rfl, b9⟩
  rw [HPL.out]
  simp only [tupL]
  rw [HBO.out]
  have Vft_9 := Lib.hid (Vft_8.out.call b9); clear Vft_8
  have Vli_9 := Lib.hid (Vli_8.out.call b9); clear Vli_8
  have B9 := Lib.hid (B.call B8.out b9)
  clear b9
  have cli0_9 := Vli_9.out.cell 0
  have cli1_9 := Vli_9.out.cell 1
  have cli2_9 := Vli_9.out.cell 2
  have lli_9 := Vli_9.out.lt
  try have mli_9 := Nat.lt_of_succ_lt lli_9
  simp at cli0_9 cli1_9 cli2_9
  go_wp2_with fail
  refine (kindGet _ _ _ _ (((HV.out.below B9.out (Nat.le_refl _)).alloc (.cells #[.int .u32 mn, .int .u32 mx, .bool c] 46)).alloc (.cells #[.int .i64 0, .int .i64 0] 33)) HB.out (by omega)).mono ?_
  rintro _ w10 ⟨rfl, b10⟩
  rw [HG.out]
  simp only [tupT]
  have B10 := Lib.hid (B.call (B.alloc (B.alloc B9.out (.cells #[.int .u32 mn, .int .u32 mx, .bool c] 46)) (.cells #[.int .i64 0, .int .i64 0] 33)) b10)
  clear b10 cli0_9 cli1_9 cli2_9
  go_wp2_with fail
  refine (kindPut x y _).mono ?_
  rintro _ w11 ⟨⟨v11, rfl, o11⟩, b11⟩
  obtain ⟨A11, k11, rfl, _, _⟩ := o11.len
  have Vf1_11 := Lib.hid ((VB.new (w10.alloc (.cells #[.int .i64 x, .int .i64 y] 42)) 33 #[.int .i64 e1, .int .i64 q1]).call b11)
  try simp only [World.size_alloc] at Vf1_11
  have B11 := Lib.hid (B.call (B.alloc (B.alloc B10.out (.cells #[.int .i64 x, .int .i64 y] 42)) (.cells #[.int .i64 e1, .int .i64 q1] 33)) b11)
  clear b11 o11
  go_wp2_with fail
  refine (kindLim _ _ _ _ _ (HV.out.below B11.out (Nat.le_refl _)) HB.out (by omega)).mono ?_
  rintro _ w12 ⟨rfl, b12⟩
  rw [HL.out]
  simp only [tupL]
  have Vf1_12 := Lib.hid (Vf1_11.out.call b12); clear Vf1_11
  have B12 := Lib.hid (B.call B11.out b12)
  clear b12
  go_wp2_with fail
  refine (kindPutLim x2 y2 most (decide (c2 = 1)) _ hx0 hx1 hy0 hy1).mono ?_
  rintro _ w13 ⟨⟨v13, rfl, o13⟩, b13⟩
  obtain ⟨A13, k13, rfl, _, _⟩ := o13.len
  have Vf1_13 := Lib.hid (((Vf1_12.out.alloc (.cells #[.int .u32 x2, .int .u32 y2, .bool (decide (c2 = 1))] 46)).alloc (.cells #[.int .i64 e2, .int .i64 p2] 33)).call b13); clear Vf1_12
  have Vf2_13 := Lib.hid ((VB.new (w12.alloc (.cells #[.int .u32 x2, .int .u32 y2, .bool (decide (c2 = 1))] 46)) 33 #[.int .i64 e2, .int .i64 p2]).call b13)
  try simp only [World.size_alloc] at Vf2_13
  have B13 := Lib.hid (B.call (B.alloc (B.alloc B12.out (.cells #[.int .u32 x2, .int .u32 y2, .bool (decide (c2 = 1))] 46)) (.cells #[.int .i64 e2, .int .i64 p2] 33)) b13)
  clear b13 o13
  have cf10 := Vf1_13.out.cell 0
  have cf11 := Vf1_13.out.cell 1
  have lf1 := Vf1_13.out.lt
  try have mf1 := Nat.lt_of_succ_lt lf1
  have cf20 := Vf2_13.out.cell 0
  have cf21 := Vf2_13.out.cell 1
  have lf2 := Vf2_13.out.lt
  try have mf2 := Nat.lt_of_succ_lt lf2
  simp at cf10 cf11 cf20 cf21
  rcases HX.out with ⟨rfl, k1, k2⟩ | k1 <;> rcases HY.out with ⟨rfl, k3, k4⟩ | k3
  · rw [k1, k3]; clear k1 k3; go_wp2_with fail; go_returns; exact ⟨rfl, B13.out⟩
  · have k3' : (e2 == 0) = false := by simpa using k3
    rw [k1]; clear k1; go_wp2_with fail; go_returns; exact ⟨rfl, B13.out⟩
  · have k1' : (e1 == 0) = false := by simpa using k1
    rw [k3]; clear k3; go_wp2_with fail; go_returns; exact ⟨rfl, B13.out⟩
  · have k1' : (e1 == 0) = false := by simpa using k1
    have k3' : (e2 == 0) = false := by simpa using k3
    go_wp2_with fail; go_returns; exact ⟨rfl, B13.out⟩

end Go.Proofs.Ytdlfmchpaohoaaa
