/- The law LebBack: the walk. -/
import Derived.Test.YtdlfmchpaohoaaaLebLaws
import Derived.Test.YtdlfmchpaohoaaaLebBackPlain
import Derived.Test.YtdlfmchpaohoaaaApp
namespace Go.Proofs.Ytdlfmchpaohoaaa
open Go.RowKit

set_option maxHeartbeats 1000000 in
theorem lebBack_small (n : Int) (va vb : Value) (ah be : List Int) (w : World) (h0 : 0 ≤ n) (h1 : n < 4294967296) (ha : Sees .u8 w va ah) (hb : Sees .u8 w vb be)
    (ba : Byt ah) (bb : Byt be) (la : ah.length ≤ 100) (lb : be.length ≤ 100) :
    Calls Try.prog 4 #[.int .u32 n, va, vb] w fun e w' => e = .returned (.bool true) ∧ Below w.heap.size w w' := by
  obtain ⟨i0, hi, hz0, hz1, hz2⟩ := info_parts Try.infoU8
  have x0 : -2147483648 ≤ wrap32 n ∧ wrap32 n ≤ 2147483647 := by unfold wrap32; omega
  have HU := Lib.hid (Leb.putU_byte4 n h0 h1)
  have HS := Lib.hid (Leb.putS_byte 4 (wrap32 n))
  have HGU := Lib.hid (Leb.getU_put n h0 h1 ah be)
  have HGS := Lib.hid (Leb.getS_put (wrap32 n) x0.1 x0.2 ah be)
  have lu := Leb.putU_len 4 n
  have ls := Leb.putS_len 4 (wrap32 n)
  obtain ⟨A, ca, rfl, _, _⟩ := ha.len
  obtain ⟨A', cb, rfl, _, _⟩ := hb.len
  have HA := Lib.hid ha; clear ha
  have HB := Lib.hid hb; clear hb
  have BA := Lib.hid ba; clear ba
  have BB := Lib.hid bb; clear bb
  have hla : ¬ 100 < (ah.length : Int) := by omega
  have hlb : ¬ 100 < (be.length : Int) := by omega
  go_enter Try.func4, Try.ntmps4
  go_wp2_with fail
  refine (awake01 _).mono ?_
  rintro e w1 ⟨rfl, b1⟩
  go_wp2_with fail
  refine (putU _ _ h0 h1).mono ?_
  rintro e w2 ⟨v2, rfl, o2, b2⟩
  obtain ⟨A2, c2, rfl, _, _⟩ := o2.sees.len
  go_wp2_with fail
  refine (putS _ _ x0.1 x0.2).mono ?_
  rintro e w3 ⟨v3, rfl, o3, b3⟩
  obtain ⟨A3, c3, rfl, _, _⟩ := o3.sees.len
  have q1 := b1.size
  have q2 := b2.size
  have q3 := b3.size
  have bw : Below w.heap.size w w3 := B.call (B.call b1 b2) b3
  have sA := HA.out.below bw (Nat.le_refl _)
  have sB := HB.out.below bw (Nat.le_refl _)
  have sU := o2.sees.below b3 (Nat.le_refl _)
  have sS := o3.sees
  go_wp2_with (first
    | (at_builtin; refine app_src Try.underlying23 hi hz0 hz1 hz2 rfl (.tmp 33) (.tmp 34) rfl rfl rfl (sA.alloc _) (Owns.empty _ _ _) (B.alloc (B.refl _) _) (by simp) (by simp only [List.length_nil]; omega) (by simp only [List.length_nil]; unfold maxLen; omega) ?_; intro v4 w4 o4 b4 z4 _)
    | (at_builtin; refine app_src Try.underlying23 hi hz0 hz1 hz2 rfl (.tmp 35) (.tmp 36) rfl rfl rfl (sU.below b4 (Nat.le_refl _)) (o4) (b4) (z4) (by simp only [List.length_append, List.length_nil]; omega) (by simp only [List.length_append, List.length_nil]; unfold maxLen; omega) ?_; intro v5 w5 o5 b5 z5 _)
    | (at_builtin; refine app_src Try.underlying23 hi hz0 hz1 hz2 rfl (.tmp 37) (.tmp 38) rfl rfl rfl (sB.below b5 (Nat.le_refl _)) (o5) (b5) (z5) (by simp only [List.length_append, List.length_nil]; omega) (by simp only [List.length_append, List.length_nil]; unfold maxLen; omega) ?_; intro v6 w6 o6 b6 z6 _)
    | (at_builtin; refine app_src Try.underlying23 hi hz0 hz1 hz2 rfl (.tmp 40) (.tmp 41) rfl rfl rfl ((sA.below b6 (Nat.le_refl _)).alloc _) (Owns.empty _ _ _) (B.alloc (B.refl _) _) (by simp) (by simp only [List.length_nil]; omega) (by simp only [List.length_nil]; unfold maxLen; omega) ?_; intro v7 w7 o7 b7 z7 _)
    | (at_builtin; refine app_src Try.underlying23 hi hz0 hz1 hz2 rfl (.tmp 42) (.tmp 43) rfl rfl rfl ((sS.below b6 (Nat.le_refl _)).below b7 (Nat.le_refl _)) (o7) (b7) (z7) (by simp only [List.length_append, List.length_nil]; omega) (by simp only [List.length_append, List.length_nil]; unfold maxLen; omega) ?_; intro v8 w8 o8 b8 z8 _)
    | (at_builtin; refine app_src Try.underlying23 hi hz0 hz1 hz2 rfl (.tmp 44) (.tmp 45) rfl rfl rfl ((sB.below b6 (Nat.le_refl _)).below b8 (Nat.le_refl _)) (o8) (b8) (z8) (by simp only [List.length_append, List.length_nil]; omega) (by simp only [List.length_append, List.length_nil]; unfold maxLen; omega) ?_; intro v9 w9 o9 b9 z9 _))
  have e6 : ([] : List Int) ++ ah ++ Leb.putU 4 n ++ be = ah ++ Leb.putU 4 n ++ be := by simp
  have e9 : ([] : List Int) ++ ah ++ Leb.putS 4 (wrap32 n) ++ be = ah ++ Leb.putS 4 (wrap32 n) ++ be := by simp
  rw [e6] at o6
  rw [e9] at o9
  have y6 := (BA.out.append HU.out).append BB.out
  have y9 := (BA.out.append HS.out).append BB.out
  refine (getU _ _ _ _ (o6.sees.below b9 (Nat.le_refl _)) y6 (by simp only [List.length_append]; omega)).mono ?_
  rintro e w10 ⟨rfl, b10⟩
  rw [HGU.out]
  simp only [tupU]
  go_wp2_with fail
  refine (getS _ _ _ _ ((o9.sees.below b10 (Nat.le_refl _)).alloc _) y9 (by simp only [List.length_append]; omega)).mono ?_
  rintro e w11 ⟨rfl, b11⟩
  rw [HGS.out]
  simp only [tupS]
  have c1 : w11.cell? ⟨w10.heap.size, 0, none⟩ = some (.int .i64 0) := cellK b11 (by simp [go_sem])
  have c2 : w10.heap.size < w11.heap.size := by have := b11.size; simp only [World.size_alloc] at this; omega
  go_wp2_with fail
  go_ret
  exact ⟨rfl, B.alloc (B.call (B.alloc (B.call (B.call (B.call bw b6) b9) b10) _) b11) _⟩

theorem lebBack_long (n : Int) (va vb : Value) (ah be : List Int) (w : World) (ha : Sees .u8 w va ah) (hb : Sees .u8 w vb be) (h : 100 < ah.length ∨ 100 < be.length) :
    Calls Try.prog 4 #[.int .u32 n, va, vb] w fun e w' => e = .returned (.bool true) ∧ Below w.heap.size w w' := by
  obtain ⟨A, ca, rfl, _, _⟩ := ha.len
  obtain ⟨A', cb, rfl, _, _⟩ := hb.len
  clear ha hb
  by_cases h1 : 100 < ah.length
  · clear h
    have h2 : 100 < (ah.length : Int) := by omega
    go_enter Try.func4, Try.ntmps4
    go_wp2_with fail
    refine (awake01 _).mono ?_
    rintro e w1 ⟨rfl, b1⟩
    go_wp2_with fail
    go_ret
    exact ⟨rfl, b1⟩
  · have h2 : ¬ 100 < (ah.length : Int) := by omega
    have h3 : 100 < (be.length : Int) := by omega
    clear h h1
    go_enter Try.func4, Try.ntmps4
    go_wp2_with fail
    refine (awake01 _).mono ?_
    rintro e w1 ⟨rfl, b1⟩
    go_wp2_with fail
    go_ret
    exact ⟨rfl, b1⟩

theorem Byt.of_wf {xs : List Int} (h : ∀ n ∈ xs, (Lit.int .u8 n).wf = true) : Byt xs := fun n hn => by
  have := bounds_u8 (h n hn); omega

theorem lebBackWalk (n : Int) (a : Option Addr) (len cap : Nat) (zs : List Int) (a' : Option Addr) (len' cap' : Nat) (zs' : List Int) (w : World)
    (h : (Lit.int .u32 n).wf = true) (h1 : IsRow .u8 w a len cap zs) (h2 : IsRow .u8 w a' len' cap' zs') :
    Calls Try.prog 4 #[.int .u32 n, .slice a len cap, .slice a' len' cap'] w fun e w' => e = .returned (.bool true) ∧ Below w.heap.size w w' := by
  obtain ⟨s1, l1, b1⟩ := h1.sees
  obtain ⟨s2, l2, b2⟩ := h2.sees
  obtain ⟨n0, n1⟩ := bounds_u32 h
  by_cases hs : (zs.take len).length ≤ 100 ∧ (zs'.take len').length ≤ 100
  · exact lebBack_small n _ _ _ _ w n0 (by omega) s1 s2 (Byt.of_wf b1) (Byt.of_wf b2) hs.1 hs.2
  · exact lebBack_long n _ _ _ _ w s1 s2 (by omega)

end Go.Proofs.Ytdlfmchpaohoaaa
