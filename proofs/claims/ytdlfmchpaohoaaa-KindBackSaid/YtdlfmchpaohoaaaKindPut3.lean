/- kind.Put: contract (printed by wip/gen_kindput3.py). -/
import Derived.Test.YtdlfmchpaohoaaaKindPut2
namespace Go.Proofs.Ytdlfmchpaohoaaa
open Go.RowKit

theorem Try.idx0 (x y : Int) (w : World) : (Instr.index 76 (.agg #[.int .i64 x, .int .i64 y]) (.int .i64 0)).run Try.prog w = .ok (.int .i64 x) w := by
  have h : Try.prog.underlying 76 = some (.array 2 3) := by kernel_rfl
  obtain ⟨i0, hi, hz0, hz1, hz2⟩ := info_parts (show (Try.prog.info? 3).map (fun i => (i.zero, i.size, i.bytes)) = some (some (.int .i64 0), 1, 8) by kernel_rfl)
  simp [Instr.index, run_underlying h, asIntOf, sizeOf, typeInfo, hi, hz1, go_sem]

theorem Try.idx1 (x y : Int) (w : World) : (Instr.index 76 (.agg #[.int .i64 x, .int .i64 y]) (.int .i64 1)).run Try.prog w = .ok (.int .i64 y) w := by
  have h : Try.prog.underlying 76 = some (.array 2 3) := by kernel_rfl
  obtain ⟨i0, hi, hz0, hz1, hz2⟩ := info_parts (show (Try.prog.info? 3).map (fun i => (i.zero, i.size, i.bytes)) = some (some (.int .i64 0), 1, 8) by kernel_rfl)
  simp [Instr.index, run_underlying h, asIntOf, sizeOf, typeInfo, hi, hz1, go_sem]

set_option maxRecDepth 100000 in
set_option maxHeartbeats 4000000 in
theorem kindPut_ok (p r : Nat) (w : World) (hp : p ≤ 255) (hr : r ≤ 1) (hl : Kind.chk p r = 0) :
    Calls Try.prog 29 #[.agg #[.int .i64 (p : Int), .int .i64 (r : Int)]] w fun e w' => (∃ v, e = .returned (.tuple #[v, .int .i64 0]) ∧ Sees .u8 w' v (96 :: (Kind.wds p ++ Kind.wds r))) ∧ Below w.heap.size w w' := by
  obtain ⟨i0, hi, hz0, hz1, hz2⟩ := info_parts Try.infoU8
  have HL := Lib.hid hl; clear hl
  have T0 := Lib.hid (VB.new w 42 #[.int .i64 (p : Int), .int .i64 (r : Int)])
  have B0 := Lib.hid (B.alloc (B.refl w) (.cells #[.int .i64 (p : Int), .int .i64 (r : Int)] 42))
  go_enter Try.func29, Try.ntmps29
  go_wp2_with fail
  refine (kindCheck _ _ _).mono ?_
  rintro e w1 ⟨rfl, b1⟩
  rw [HL.out]
  have t1 := T0.out.call b1
  have c0 := t1.cell 0
  have c1 := t1.cell 1
  have c4 := t1.lt
  simp at c0 c1
  have BW := Lib.hid (B.call B0.out b1)
  clear t1 b1
  have OL := Lib.hid (lit1 w1 96 _ rfl w1.heap.size (Nat.le_refl _))
  go_wp2_with fail
  go_loopw [5, 19] (fun o c wr => ∃ i : Nat, c = .int .i64 (i : Int) ∧ i ≤ 2 ∧ Owns 5 .u8 w1.heap.size wr o (Kind.pre p r i) ∧ Below w1.heap.size w1 wr ∧ w1.heap.size ≤ wr.heap.size)
    (fun _ c _ => 2 - (intOf c).toNat)
  case atStart => exact ⟨0, rfl, by omega, OL.out, (B.alloc (B.refl w1) _), by simp⟩
  case round =>
    obtain ⟨i, rfl, hi2, hown, hbel, hsz⟩ := hrel
    rcases (show i = 2 ∨ i = 0 ∨ i = 1 by omega) with rfl | rfl | rfl
    · have he : Kind.pre p r 2 = 96 :: (Kind.wds p ++ Kind.wds r) := by simp [Kind.pre]
      rw [he] at hown
      have HO := Lib.hid hown; clear hown he
      go_wp2_with fail
      go_returns
      exact ⟨⟨_, rfl, HO.out.sees⟩, B.call BW.out hbel⟩
    · skip
      obtain ⟨X, hX⟩ : ∃ X, X = Kind.pre p r 0 := ⟨_, rfl⟩
      have hXl : X.length ≤ 521 := by rw [hX]; exact Kind.pre_len p r 0 hp hr
      have hXn : X ++ Kind.wds p = Kind.pre p r 1 := by rw [hX]; exact Kind.pre_step p r 0 (by omega)
      rw [← hX] at hown
      have HXN := Lib.hid hXn
      clear hX hXn
      have hw : IntKind.u32.wrap (p : Int) = (p : Int) := IntWalk.u32_in _ (by omega)
      have lu := Leb.putU_len 4 p
      have hix := Try.idx0 (p : Int) (r : Int) wr
      go_wp2_with fail
      refine (putU p _ (by omega) (by omega)).mono ?_
      rintro _ w2 ⟨v2, rfl, o2, b2⟩
      obtain ⟨A2, k2, rfl, _, _⟩ := o2.sees.len
      have O1 := hown.below b2 (Nat.le_refl _)
      have b12 : Below w1.heap.size w1 w2 := B.call hbel b2
      have z2 := b12.size
      have S2 := o2.sees
      have HXL : X.length + (Leb.putU 4 p).length ≤ 526 := by omega
      go_wp2_with (at_builtin; refine app_src Try.underlying23 hi hz0 hz1 hz2 rfl (.tmp 22) (.tmp 25) rfl rfl rfl S2 O1 b12 z2 (by omega) (by unfold maxLen; omega) ?_; intro v3 w3 o3 b3 z3 _)
      go_loopw [5, 28] (fun o c wr => ∃ j : Nat, c = .int .i64 (j : Int) ∧ j ≤ p ∧ Owns 5 .u8 w1.heap.size wr o (X ++ (Leb.putU 4 p ++ List.replicate j 127)) ∧ Below w1.heap.size w1 wr ∧ w1.heap.size ≤ wr.heap.size)
        (fun _ c _ => p - (intOf c).toNat)
      case atStart => exact ⟨0, rfl, by omega, by simpa using o3, b3, z3⟩
      case round =>
        obtain ⟨j, rfl, hjn, hown', hbel', hsz'⟩ := hrel
        by_cases hn : j = p
        · subst hn
          go_wp2_with fail
          refine ⟨⟨1, rfl, by omega, by rw [← HXN.out]; exact hown', hbel', hsz'⟩, by simp only [intOf]; omega⟩
        · have hlt : j < p := by omega
          have hlen : (X ++ (Leb.putU 4 p ++ List.replicate j 127)).length ≤ 782 := by simp only [List.length_append, List.length_replicate]; omega
          obtain ⟨xs, hxs⟩ : ∃ xs, xs = X ++ (Leb.putU 4 p ++ List.replicate j 127) := ⟨_, rfl⟩
          rw [← hxs] at hown' hlen
          have hnx : xs ++ [127] = X ++ (Leb.putU 4 p ++ List.replicate (j + 1) 127) := by rw [hxs, List.append_assoc, List.append_assoc, ← List.replicate_succ']
          have HX := Lib.hid hnx
          clear hxs hnx
          go_wp2_with (at_builtin; refine app_own Try.underlying23 hi hz0 hz1 hz2 rfl _ _ rfl rfl rfl hown' hbel' hsz' (by omega) (by unfold maxLen; omega) ?_; intro v4 w4 o4 b4 z4)
          rw [HX.out] at o4
          refine ⟨⟨j + 1, by simp, by omega, o4, b4, z4⟩, by simp only [intOf]; omega⟩
    · skip
      obtain ⟨X, hX⟩ : ∃ X, X = Kind.pre p r 1 := ⟨_, rfl⟩
      have hXl : X.length ≤ 521 := by rw [hX]; exact Kind.pre_len p r 1 hp hr
      have hXn : X ++ Kind.wds r = Kind.pre p r 2 := by rw [hX]; exact Kind.pre_step p r 1 (by omega)
      rw [← hX] at hown
      have HXN := Lib.hid hXn
      clear hX hXn
      have hw : IntKind.u32.wrap (r : Int) = (r : Int) := IntWalk.u32_in _ (by omega)
      have lu := Leb.putU_len 4 r
      have hix := Try.idx1 (p : Int) (r : Int) wr
      go_wp2_with fail
      refine (putU r _ (by omega) (by omega)).mono ?_
      rintro _ w2 ⟨v2, rfl, o2, b2⟩
      obtain ⟨A2, k2, rfl, _, _⟩ := o2.sees.len
      have O1 := hown.below b2 (Nat.le_refl _)
      have b12 : Below w1.heap.size w1 w2 := B.call hbel b2
      have z2 := b12.size
      have S2 := o2.sees
      have HXL : X.length + (Leb.putU 4 r).length ≤ 526 := by omega
      go_wp2_with (at_builtin; refine app_src Try.underlying23 hi hz0 hz1 hz2 rfl (.tmp 22) (.tmp 25) rfl rfl rfl S2 O1 b12 z2 (by omega) (by unfold maxLen; omega) ?_; intro v3 w3 o3 b3 z3 _)
      go_loopw [5, 28] (fun o c wr => ∃ j : Nat, c = .int .i64 (j : Int) ∧ j ≤ r ∧ Owns 5 .u8 w1.heap.size wr o (X ++ (Leb.putU 4 r ++ List.replicate j 127)) ∧ Below w1.heap.size w1 wr ∧ w1.heap.size ≤ wr.heap.size)
        (fun _ c _ => r - (intOf c).toNat)
      case atStart => exact ⟨0, rfl, by omega, by simpa using o3, b3, z3⟩
      case round =>
        obtain ⟨j, rfl, hjn, hown', hbel', hsz'⟩ := hrel
        by_cases hn : j = r
        · subst hn
          go_wp2_with fail
          refine ⟨⟨2, rfl, by omega, by rw [← HXN.out]; exact hown', hbel', hsz'⟩, by simp only [intOf]; omega⟩
        · have hlt : j < r := by omega
          have hlen : (X ++ (Leb.putU 4 r ++ List.replicate j 127)).length ≤ 782 := by simp only [List.length_append, List.length_replicate]; omega
          obtain ⟨xs, hxs⟩ : ∃ xs, xs = X ++ (Leb.putU 4 r ++ List.replicate j 127) := ⟨_, rfl⟩
          rw [← hxs] at hown' hlen
          have hnx : xs ++ [127] = X ++ (Leb.putU 4 r ++ List.replicate (j + 1) 127) := by rw [hxs, List.append_assoc, List.append_assoc, ← List.replicate_succ']
          have HX := Lib.hid hnx
          clear hxs hnx
          go_wp2_with (at_builtin; refine app_own Try.underlying23 hi hz0 hz1 hz2 rfl _ _ rfl rfl rfl hown' hbel' hsz' (by omega) (by unfold maxLen; omega) ?_; intro v4 w4 o4 b4 z4)
          rw [HX.out] at o4
          refine ⟨⟨j + 1, by simp, by omega, o4, b4, z4⟩, by simp only [intOf]; omega⟩

theorem kindPut (p r : Int) (w : World) :
    Calls Try.prog 29 #[.agg #[.int .i64 p, .int .i64 r]] w fun e w' => (∃ v, e = .returned (.tuple #[v, .int .i64 (Kind.chk p r)]) ∧ Sees .u8 w' v (Kind.put p r)) ∧ Below w.heap.size w w' := by
  rcases Kind.chk_cases p r with ⟨hl, h0, h1, h2, h3⟩ | hl
  · have hp : Kind.put p r = 96 :: (Kind.wds p.toNat ++ Kind.wds r.toNat) := by unfold Kind.put; rw [if_pos hl]
    rw [hl, hp]
    obtain ⟨p, rfl⟩ := Int.eq_ofNat_of_zero_le h0
    obtain ⟨r, rfl⟩ := Int.eq_ofNat_of_zero_le h2
    exact kindPut_ok p r w (by omega) (by omega) hl
  · have hp : Kind.put p r = [] := by unfold Kind.put; rw [if_neg (by omega)]
    rw [hl, hp]
    exact (kindPut_bad p r w hl).mono fun e w' h => ⟨⟨_, h.1, Sees.nil _ _⟩, h.2⟩

theorem refPut (p r : Int) (w : World) :
    Calls Try.prog 30 #[.agg #[.int .i64 p, .int .i64 r]] w fun e w' => (∃ v, e = .returned (.tuple #[v, .int .i64 (Kind.chk p r)]) ∧ Sees .u8 w' v (Kind.put p r)) ∧ Below w.heap.size w w' := by
  rcases Kind.chk_cases p r with ⟨hl, h0, h1, h2, h3⟩ | hl
  · have hp : Kind.put p r = 96 :: (Kind.wds p.toNat ++ Kind.wds r.toNat) := by unfold Kind.put; rw [if_pos hl]
    rw [hl, hp]
    obtain ⟨p, rfl⟩ := Int.eq_ofNat_of_zero_le h0
    obtain ⟨r, rfl⟩ := Int.eq_ofNat_of_zero_le h2
    exact refPut_ok p r w (by omega) (by omega) hl
  · have hp : Kind.put p r = [] := by unfold Kind.put; rw [if_neg (by omega)]
    rw [hl, hp]
    exact (refPut_bad p r w hl).mono fun e w' h => ⟨⟨_, h.1, Sees.nil _ _⟩, h.2⟩

end Go.Proofs.Ytdlfmchpaohoaaa
