/- The law LebPuts: what it does to the world, and that it says true. -/
import Derived.Test.YtdlfmchpaohoaaaLebPut
import Derived.Test.YtdlfmchpaohoaaaSame
namespace Go.Proofs.Ytdlfmchpaohoaaa
open Go.RowKit

theorem sizeU (n : Int) (w : World) (h0 : 0 ≤ n) (h1 : n < 4294967296) :
    Calls Try.prog 15 #[.int .u32 n] w fun e w' => e = .returned (.int .i64 (Leb.putU 4 n).length) ∧ Below w.heap.size w w' := by
  go_enter Try.func15, Try.ntmps15
  go_wp2_with (go_at_call 14; refine (putU _ _ h0 h1).mono ?_; rintro e w' ⟨v, rfl, ho, hb⟩; obtain ⟨A, cap, rfl, _, _⟩ := ho.sees.len)
  go_ret
  exact ⟨rfl, hb⟩

theorem sizeS (n : Int) (w : World) (h0 : -2147483648 ≤ n) (h1 : n ≤ 2147483647) :
    Calls Try.prog 17 #[.int .i32 n] w fun e w' => e = .returned (.int .i64 (Leb.putS 4 n).length) ∧ Below w.heap.size w w' := by
  go_enter Try.func17, Try.ntmps17
  go_wp2_with (go_at_call 16; refine (putS _ _ h0 h1).mono ?_; rintro e w' ⟨v, rfl, ho, hb⟩; obtain ⟨A, cap, rfl, _, _⟩ := ho.sees.len)
  go_ret
  exact ⟨rfl, hb⟩

set_option maxHeartbeats 400000 in
theorem lebPuts (n : Int) (w : World) (h0 : 0 ≤ n) (h1 : n < 4294967296) :
    Calls Try.prog 3 #[.int .u32 n] w fun e w' => e = .returned (.bool true) ∧ Below w.heap.size w w' := by
  have x0 : -2147483648 ≤ wrap32 n ∧ wrap32 n ≤ 2147483647 := by unfold wrap32; omega
  have HU := Lib.hid (Leb.putU_byte4 n h0 h1)
  have HS := Lib.hid (Leb.putS_byte 4 (wrap32 n))
  go_enter Try.func3, Try.ntmps3
  go_wp2_with fail
  refine (refPutU _ _ h0 h1).mono ?_
  rintro e w1 ⟨v1, rfl, o1, b1⟩
  obtain ⟨A1, c1, rfl, _, _⟩ := o1.sees.len
  go_wp2_with fail
  refine (refPutS _ _ x0.1 x0.2).mono ?_
  rintro e w2 ⟨v2, rfl, o2, b2⟩
  obtain ⟨A2, c2, rfl, _, _⟩ := o2.sees.len
  go_wp2_with fail
  refine (putU _ _ h0 h1).mono ?_
  rintro e w3 ⟨v3, rfl, o3, b3⟩
  go_wp2_with fail
  refine (sameBytes o3.sees ((o1.sees.below b2 (Nat.le_refl _)).below b3 (Nat.le_refl _)) HU.out HU.out true (by simp)).mono ?_
  rintro e w' ⟨rfl, rfl⟩
  go_wp2_with fail
  refine (sizeU _ _ h0 h1).mono ?_
  rintro e w4 ⟨rfl, b4⟩
  go_wp2_with fail
  refine (putS _ _ x0.1 x0.2).mono ?_
  rintro e w5 ⟨v5, rfl, o5, b5⟩
  go_wp2_with fail
  refine (sameBytes o5.sees (((o2.sees.below b3 (Nat.le_refl _)).below b4 (Nat.le_refl _)).below b5 (Nat.le_refl _)) HS.out HS.out true (by simp)).mono ?_
  rintro e w' ⟨rfl, rfl⟩
  go_wp2_with fail
  refine (sizeS _ _ x0.1 x0.2).mono ?_
  rintro e w6 ⟨rfl, b6⟩
  go_wp2_with fail
  go_ret
  have s1 := b1.size
  have s2 := b2.size
  have s3 := b3.size
  have s4 := b4.size
  have s5 := b5.size
  exact ⟨by simp, ((((b1.trans (b2.mono s1)).trans (b3.mono (by omega))).trans (b4.mono (by omega))).trans (b5.mono (by omega))).trans (b6.mono (by omega))⟩

theorem lebPutsWalk (n : Int) (w : World) (h : (Lit.int .u32 n).wf = true) :
    Calls Try.prog 3 #[.int .u32 n] w fun e w' => e = .returned (.bool true) ∧ Below w.heap.size w w' := by
  obtain ⟨h0, h1⟩ := bounds_u32 h
  exact lebPuts n w h0 (by omega)

end Go.Proofs.Ytdlfmchpaohoaaa
