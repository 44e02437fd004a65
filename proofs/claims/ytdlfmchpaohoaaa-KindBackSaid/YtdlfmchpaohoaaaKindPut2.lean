/- gimletref04.words, Put, kind.Put: contracts. -/
import Derived.Test.YtdlfmchpaohoaaaKindPut
namespace Go.Proofs.Ytdlfmchpaohoaaa
open Go.RowKit

set_option maxHeartbeats 1000000 in
theorem refWdsPut (n : Nat) (h : n ≤ 255) (w : World) :
    Calls Try.prog 52 #[.int .i64 (n : Int)] w fun e w' => ∃ v, e = .returned v ∧ Owns 5 .u8 w.heap.size w' v (Kind.wds n) ∧ Below w.heap.size w w' := by
  obtain ⟨i0, hi, hz0, hz1, hz2⟩ := info_parts Try.infoU8
  have hw : IntKind.u32.wrap (n : Int) = (n : Int) := IntWalk.u32_in _ (by omega)
  have lu := Leb.putU_len 4 n
  go_enter Try.func52, Try.ntmps52
  go_wp2_with fail
  refine (refPutU n _ (by omega) (by omega)).mono ?_
  rintro _ w1 ⟨v1, rfl, o1, b1⟩
  have z1 := b1.size
  go_wp2_with fail
  go_loopw [3, 4] (fun o c wr => ∃ i : Nat, c = .int .i64 (i : Int) ∧ i ≤ n ∧ Owns 5 .u8 w.heap.size wr o (Leb.putU 4 n ++ List.replicate i 127) ∧ Below w.heap.size w wr ∧ w.heap.size ≤ wr.heap.size)
    (fun _ c _ => n - (intOf c).toNat)
  case atStart => exact ⟨0, rfl, by omega, by simpa using o1, b1, z1⟩
  case round =>
    obtain ⟨i, rfl, hin, hown, hbel, hsz⟩ := hrel
    by_cases hn : i = n
    · subst hn
      go_wp2_with fail
      go_returns
      exact ⟨_, rfl, hown, hbel⟩
    · have hlt : i < n := by omega
      have hlen : (Leb.putU 4 n ++ List.replicate i 127).length ≤ 260 := by simp only [List.length_append, List.length_replicate]; omega
      obtain ⟨xs, hxs⟩ : ∃ xs, xs = Leb.putU 4 n ++ List.replicate i 127 := ⟨_, rfl⟩
      rw [← hxs] at hown hlen
      have hnx : xs ++ [127] = Leb.putU 4 n ++ List.replicate (i + 1) 127 := by rw [hxs, List.append_assoc, ← List.replicate_succ']
      have HX := Lib.hid hnx
      clear hxs hnx
      go_wp2_with (at_builtin; refine app_own Try.underlying23 hi hz0 hz1 hz2 rfl _ _ rfl rfl rfl hown hbel hsz (by omega) (by unfold maxLen; omega) ?_; intro v2 w2 o2 b2 z2)
      rw [HX.out] at o2
      refine ⟨⟨i + 1, by simp, by omega, o2, b2, z2⟩, by simp only [intOf]; omega⟩

theorem refPut_bad (p r : Int) (w : World) (hl : Kind.chk p r = 2) :
    Calls Try.prog 30 #[.agg #[.int .i64 p, .int .i64 r]] w fun e w' => e = .returned (.tuple #[.slice none 0 0, .int .i64 2]) ∧ Below w.heap.size w w' := by
  have HL := Lib.hid hl; clear hl
  have B0 := Lib.hid (B.alloc (B.refl w) (.cells #[.int .i64 p, .int .i64 r] 42))
  go_enter Try.func30, Try.ntmps30
  go_wp2_with fail
  refine (refCheck _ _ _).mono ?_
  rintro e w1 ⟨rfl, b1⟩
  rw [HL.out]
  have BW := Lib.hid (B.call B0.out b1)
  clear b1
  go_wp2_with fail
  go_returns
  exact ⟨rfl, BW.out⟩

theorem kindPut_bad (p r : Int) (w : World) (hl : Kind.chk p r = 2) :
    Calls Try.prog 29 #[.agg #[.int .i64 p, .int .i64 r]] w fun e w' => e = .returned (.tuple #[.slice none 0 0, .int .i64 2]) ∧ Below w.heap.size w w' := by
  have HL := Lib.hid hl; clear hl
  have B0 := Lib.hid (B.alloc (B.refl w) (.cells #[.int .i64 p, .int .i64 r] 42))
  go_enter Try.func29, Try.ntmps29
  go_wp2_with fail
  refine (kindCheck _ _ _).mono ?_
  rintro e w1 ⟨rfl, b1⟩
  rw [HL.out]
  have BW := Lib.hid (B.call B0.out b1)
  clear b1
  go_wp2_with fail
  go_returns
  exact ⟨rfl, BW.out⟩

set_option maxRecDepth 100000 in
set_option maxHeartbeats 2000000 in
theorem refPut_ok (p r : Nat) (w : World) (hp : p ≤ 255) (hr : r ≤ 1) (hl : Kind.chk p r = 0) :
    Calls Try.prog 30 #[.agg #[.int .i64 (p : Int), .int .i64 (r : Int)]] w fun e w' => (∃ v, e = .returned (.tuple #[v, .int .i64 0]) ∧ Sees .u8 w' v (96 :: (Kind.wds p ++ Kind.wds r))) ∧ Below w.heap.size w w' := by
  obtain ⟨i0, hi, hz0, hz1, hz2⟩ := info_parts Try.infoU8
  have HL := Lib.hid hl; clear hl
  have T0 := Lib.hid (VB.new w 42 #[.int .i64 (p : Int), .int .i64 (r : Int)])
  have B0 := Lib.hid (B.alloc (B.refl w) (.cells #[.int .i64 (p : Int), .int .i64 (r : Int)] 42))
  have lp := Kind.wds_len p hp
  have lr := Kind.wds_len r (by omega)
  go_enter Try.func30, Try.ntmps30
  go_wp2_with fail
  refine (refCheck _ _ _).mono ?_
  rintro e w1 ⟨rfl, b1⟩
  rw [HL.out]
  have t1 := T0.out.call b1
  have c0 := t1.cell 0
  have c1 := t1.cell 1
  have c4 := t1.lt
  simp at c0 c1
  have BW := Lib.hid (B.call B0.out b1)
  clear t1 b1
  go_wp2_with fail
  refine (refWdsPut p hp _).mono ?_
  rintro e w2 ⟨v2, rfl, o2, b2⟩
  obtain ⟨A2, k2, rfl, _, _⟩ := o2.sees.len
  have OL := (lit1 w1 96 _ rfl w1.heap.size (Nat.le_refl _)).below b2 (Nat.le_refl _)
  have b12 : Below w1.heap.size w1 w2 := B.call (B.alloc (B.refl w1) _) b2
  have z2 := b12.size
  have S2 := o2.sees
  go_wp2_with (at_builtin; refine app_src Try.underlying23 hi hz0 hz1 hz2 rfl (.tmp 11) (.tmp 14) rfl rfl rfl S2 OL b12 z2 (by simp only [List.length_singleton]; omega) (by simp only [List.length_singleton]; unfold maxLen; omega) ?_; intro v3 w3 o3 b3 z3 _; obtain ⟨A3, k3, rfl, _, _⟩ := o3.sees.len; have d1 : w3.cell? ⟨w.heap.size, 1, none⟩ = some (.int .i64 (r : Int)) := (b3.cell (p := ⟨w.heap.size, 1, none⟩) c4).trans c1)
  refine (refWdsPut r (by omega) _).mono ?_
  rintro e w4 ⟨v4, rfl, o4, b4⟩
  obtain ⟨A4, k4, rfl, _, _⟩ := o4.sees.len
  have O3 := o3.below b4 (Nat.le_refl _)
  have b14 : Below w1.heap.size w1 w4 := B.call b3 b4
  have z4 := b14.size
  have S4 := o4.sees
  go_wp2_with (at_builtin; refine app_src Try.underlying23 hi hz0 hz1 hz2 rfl (.tmp 16) (.tmp 19) rfl rfl rfl S4 O3 b14 z4 (by simp only [List.length_append, List.length_singleton]; omega) (by simp only [List.length_append, List.length_singleton]; unfold maxLen; omega) ?_; intro v5 w5 o5 b5 z5 _)
  go_returns
  exact ⟨⟨_, rfl, by simpa using o5.sees⟩, B.call BW.out b5⟩

/-- What stands ahead of the i-th number's words. -/
def Kind.pre (p r i : Nat) : List Int := 96 :: ((if 1 ≤ i then Kind.wds p else []) ++ (if 2 ≤ i then Kind.wds r else []))

theorem Kind.pre_len (p r i : Nat) (hp : p ≤ 255) (hr : r ≤ 1) : (Kind.pre p r i).length ≤ 521 := by
  have lp := Kind.wds_len p hp
  have lr := Kind.wds_len r (by omega)
  unfold Kind.pre
  split <;> split <;> simp <;> omega

theorem Kind.pre_step (p r i : Nat) (hi : i < 2) : Kind.pre p r i ++ Kind.wds (if i = 0 then p else r) = Kind.pre p r (i + 1) := by
  match i, hi with
  | 0, _ => simp [Kind.pre]
  | 1, _ => simp [Kind.pre]

end Go.Proofs.Ytdlfmchpaohoaaa
