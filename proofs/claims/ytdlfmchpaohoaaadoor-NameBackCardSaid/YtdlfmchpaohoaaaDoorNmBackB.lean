/- The law NameBack: the walk, one of four cases (printed by wip/gen_nmback.py). -/
import Derived.Test.YtdlfmchpaohoaaaDoorNmBackPlain
import Derived.Test.YtdlfmchpaohoaaaDoorNmAwake
namespace Go.Proofs.YtdlfmchpaohoaaaDoor
open Go.RowKit

set_option maxRecDepth 100000 in
set_option maxHeartbeats 8000000 in
theorem nameBack_b (v u : Value) (l xs zs : List Int) (w : World) (hv : Sees .i64 w v l) (hu : Sees .u8 w u zs) (hb : Byt xs) (_hbz : Byt zs) (hT : Tabs w) (hl : l.length ≤ 500) (hm : xs.length ≤ 2000) (hz : zs.length ≤ 100) (hall : ∀ x ∈ l, Nm.isRune x = true) (a : Nat) (hbad : Nm.badAt xs = (a : Int)) :
    Calls Tryd.prog 7 #[v, .string (str xs), u] w fun e w' => e = .returned (.bool true) ∧ Below w.heap.size w w' := by
  obtain ⟨i0, hi, hz0, hz1, hz2⟩ := info_parts Tryd.infoU8
  obtain ⟨D, hD⟩ : ∃ D, D = Nm.ofs l := ⟨_, rfl⟩
  have HOF := Lib.hid (show Nm.ofRes l = (D, 0) by rw [hD]; exact Nm.ofRes_ok hall)
  have HTB := Lib.hid (show Nm.badAt D = -1 by rw [hD]; exact (Nm.text_of hall).1)
  have HTR := Lib.hid (show Nm.runesFrom D D.length 0 = l by rw [hD]; exact (Nm.text_of hall).2)
  have HYO := Lib.hid (show Byt D by rw [hD]; exact Nm.ofs_byt hall)
  have hdl : D.length ≤ 2000 := by rw [hD]; have := Nm.ofs_len l; omega
  clear hD hall
  have HPUT := Lib.hid (show Nm.put xs = ([], 4) by unfold Nm.put; rw [if_neg (by omega), if_pos (by omega)])
  have HBAD := Lib.hid hbad; clear hbad
  have h1 : ¬ 500 < (l.length : Int) := by omega
  have h2 : ¬ 2000 < (xs.length : Int) := by omega
  have h3 : ¬ 100 < (zs.length : Int) := by omega
  have hss := str_size xs
  obtain ⟨A, cap, rfl, _, _⟩ := hv.len
  obtain ⟨A', cap', rfl, _, _⟩ := hu.len
  have HV := Lib.hid hv; clear hv
  have HZ := Lib.hid hu; clear hu
  have HB := Lib.hid hb; clear hb
  have HT := Lib.hid hT; clear hT
  go_enter Tryd.func7, Tryd.ntmps7
  go_wp2_with fail
  refine (awake02 _ HT.out).mono ?_
  rintro _ w1 ⟨rfl, b1⟩
  have T1 := Lib.hid (HT.out.below b1)
  have B1 := Lib.hid (B.call (B.refl w) b1)
  clear b1
  go_wp2_with fail
  refine (nmOf _ l _ (HV.out.below B1.out (Nat.le_refl _)) (by omega)).mono ?_
  rintro _ w2 ⟨⟨v2, rfl, o2⟩, b2⟩
  rw [HOF.out] at o2 ⊢
  obtain ⟨A2, k2, rfl, _, _⟩ := o2.len
  have T2 := Lib.hid (T1.out.below b2)
  have B2 := Lib.hid (B.call B1.out b2)
  have Sd_2 := Lib.hid o2; clear o2 b2
  go_wp2_with fail
  refine (nmRunes _ D _ Sd_2.out HYO.out T2.out (by omega)).mono ?_
  rintro _ w3 ⟨ho, b3⟩
  obtain ⟨v3, rfl, o3⟩ := ho.ok HTB.out
  rw [HTR.out] at o3
  obtain ⟨A3, k3, rfl, _, _⟩ := o3.len
  have Sd_3 := Lib.hid (Sd_2.out.below b3 (Nat.le_refl _)); clear Sd_2
  have T3 := Lib.hid (T2.out.below b3)
  have B3 := Lib.hid (B.call B2.out b3)
  have Sm_3 := Lib.hid o3; clear o3 b3 ho
  go_wp2_with fail
  refine (sameInts _ _ l _ (Sm_3.out.alloc (.cells #[.int .i64 0, .int .i64 0] 27)) ((HV.out.below B3.out (Nat.le_refl _)).alloc (.cells #[.int .i64 0, .int .i64 0] 27)) (by omega)).mono ?_
  rintro _ w4 ⟨rfl, b4⟩
  have Sd_4 := Lib.hid ((Sd_3.out.alloc (.cells #[.int .i64 0, .int .i64 0] 27)).below b4 (Nat.le_refl _)); clear Sd_3
  have Sm_4 := Lib.hid ((Sm_3.out.alloc (.cells #[.int .i64 0, .int .i64 0] 27)).below b4 (Nat.le_refl _)); clear Sm_3
  have T4 := Lib.hid ((T3.out.alloc (.cells #[.int .i64 0, .int .i64 0] 27)).below b4)
  have B4 := Lib.hid (B.call (B.alloc B3.out (.cells #[.int .i64 0, .int .i64 0] 27)) b4)
  clear b4
  go_wp2_with fail
  refine (nmBadAt _ D _ Sd_4.out HYO.out T4.out (by omega)).mono ?_
  rintro _ w5 ⟨rfl, b5⟩
  rw [HTB.out]
  have Sd_5 := Lib.hid (Sd_4.out.below b5 (Nat.le_refl _)); clear Sd_4
  have T5 := Lib.hid (T4.out.below b5)
  have B5 := Lib.hid (B.call B4.out b5)
  clear b5
  obtain ⟨w6, cap6, hcv, b6, s6⟩ := bytes_some HB.out (by omega) w5
  have T6 := Lib.hid (T5.out.below b6)
  have B6 := Lib.hid (B.call B5.out b6)
  have S6 := Lib.hid s6; clear s6 b6
  go_wp2_with fail
  refine (nmRunes _ xs _ S6.out HB.out T6.out (by omega)).mono ?_
  rintro _ w7 ⟨ho, b7⟩
  have he := ho.no (by rw [HBAD.out]; omega)
  subst he
  rw [HBAD.out]
  have T7 := Lib.hid (T6.out.below b7)
  have B7 := Lib.hid (B.call B6.out b7)
  clear b7 ho
  go_wp2_with fail
  refine (nmPut xs _ HB.out (T7.out.alloc (.cells #[.int .i64 4, .int .i64 (a : Int)] 27)) (by omega)).mono ?_
  rintro _ w8 ⟨⟨v8, rfl, o8⟩, b8⟩
  rw [HPUT.out] at o8 ⊢
  obtain ⟨A8, k8, rfl, _, _⟩ := o8.len
  have Vf_8 := Lib.hid ((VB.new w7 27 #[.int .i64 4, .int .i64 (a : Int)]).call b8)
  try simp only [World.size_alloc] at Vf_8
  have T8 := Lib.hid ((T7.out.alloc (.cells #[.int .i64 4, .int .i64 (a : Int)] 27)).below b8)
  have B8 := Lib.hid (B.call (B.alloc B7.out (.cells #[.int .i64 4, .int .i64 (a : Int)] 27)) b8)
  have Sc_8 := Lib.hid o8; clear o8 b8
  have cf0 := Vf_8.out.cell 0
  have cf1 := Vf_8.out.cell 1
  have lf := Vf_8.out.lt
  try have mf := Nat.lt_of_succ_lt lf
  simp at cf0 cf1
  go_wp2_with fail
  go_returns
  exact ⟨rfl, B8.out⟩

end Go.Proofs.YtdlfmchpaohoaaaDoor
