/- gimletkit.Pick: contract; HeapMany: the plain law and the walk. -/
import Derived.Test.YtgohnekaolgblaaHpAwake
import Derived.Test.YtgohnekaolgblaaRfText
namespace Go.Proofs.Ytgohnekaolgblaa
open Go.RowKit

set_option maxHeartbeats 1000000 in
theorem pick (x n : Int) (w : World) (hn : 1 ≤ n ∧ n ≤ 1000000) (_hx : -9223372036854775808 ≤ x ∧ x ≤ 9223372036854775807) :
    Calls Try.prog 22 #[.int .i64 x, .int .i64 n] w fun e w' => ∃ k : Nat, e = .returned (.int .i64 (k : Int)) ∧ (k : Int) < n ∧ w' = w := by
  have h1 : x.tmod n < n := Int.tmod_lt_of_pos x (by omega)
  have h2 : -n < x.tmod n := by
    have := Int.tmod_lt_of_pos (-x) (show 0 < n by omega)
    rw [Int.neg_tmod] at this
    omega
  have hn0 : (n == 0) = false := by simp; omega
  obtain ⟨r, hr⟩ : ∃ r, r = x.tmod n := ⟨_, rfl⟩
  rw [← hr] at h1 h2
  have hw : IntKind.i64.wrap (x.tmod n) = r := by rw [← hr, IntKind.wrap_i64]; omega
  by_cases hneg : r < 0
  · have hlt : x.tmod n < 0 := by rw [← hr]; exact hneg
    have hw2 : IntKind.i64.wrap (x.tmod n + n) = r + n := by rw [← hr, IntKind.wrap_i64]; omega
    obtain ⟨k, hk⟩ : ∃ k : Nat, r + n = (k : Int) := ⟨(r + n).toNat, by omega⟩
    go_enter Try.func22, Try.ntmps22
    go_wp2_with fail
    go_returns
    exact ⟨k, by first | rfl | (simp; omega), by omega, rfl⟩
  · have hge : ¬ x.tmod n < 0 := by rw [← hr]; exact hneg
    obtain ⟨k, hk⟩ : ∃ k : Nat, r = (k : Int) := ⟨r.toNat, by omega⟩
    go_enter Try.func22, Try.ntmps22
    go_wp2_with fail
    go_returns
    exact ⟨k, by first | rfl | (simp; omega), by omega, rfl⟩

theorem Hp.many_from (k : Nat) : ∀ (m i : Nat), k - i = m → Hp.from (List.replicate k 5) i = some (List.range' i m) := by
  have hw : Wd.words 5 = (1, true) := by kernel_rfl
  have hwn : Hp.wn 5 = 1 := by unfold Hp.wn; rw [hw]; rfl
  intro m
  induction m with
  | zero =>
    intro i h
    rw [Hp.from_end _ _ (by simp; omega)]
    rfl
  | succ m ih =>
    intro i h
    have hi : i < (List.replicate k (5 : Int)).length := by simp; omega
    rw [Hp.from_next _ _ hi (by simp [hw]) (by simp [hwn]; omega)]
    rw [show Hp.wn ((List.replicate k (5 : Int))[i]'hi) = 1 by simp [hwn]]
    rw [ih (i + 1) (by omega)]
    rfl
theorem Hp.many_fields (k i : Nat) : Hp.fields (List.replicate k 5) i = [] := by
  have hu : Wd.unhead 5 = (2, 0, 0, true) := by kernel_rfl
  unfold Hp.fields
  split
  · rfl
  · rename_i h hh
    have := List.mem_of_getElem? hh
    rw [List.mem_replicate] at this
    rw [this.2, hu, if_pos rfl]
theorem Hp.odd_okws (S : Nat → Bool) (a : Int) (k : Nat) : Hp.okws S a (List.replicate k 1) = true := by
  unfold Hp.okws
  rw [List.all_eq_true]
  intro x hx
  rw [List.mem_replicate] at hx
  rw [hx.2]
  rfl
theorem Hp.many_chk (k m : Nat) : Hp.chk (List.replicate k 5) 16 (List.replicate m 1) = if 65536 < k ∨ 4096 < m then 141 else 0 := by
  unfold Hp.chk
  simp only [List.length_replicate]
  by_cases h : 65536 < k ∨ 4096 < m
  · rw [if_pos h, if_pos h]
  · rw [if_neg h, if_neg h]
    have hh : Hp.heads (List.replicate k 5) = some (List.range' 0 k) := Hp.many_from k k 0 (by omega)
    rw [hh]
    simp only
    rw [if_pos ⟨by decide, Hp.odd_okws _ _ _, fun i _ => by rw [Hp.many_fields]; rfl⟩]
theorem Hp.many_roots (ls : List Int) (m : Nat) : ∀ (o : List Nat) (out : List Int), (Hp.roots ls 16 8 (List.replicate m 1) o out).2 = (o, out) := by
  induction m with
  | zero => intro o out; rfl
  | succ m ih =>
    intro o out
    rw [List.replicate_succ, Hp.roots]
    have e : Hp.word ls 16 8 o out 1 = (1, o, out) := by
      unfold Hp.word
      rw [if_neg (fun h => by cases h.1)]
    rw [e]
    exact ih o out
theorem Hp.many_live (k m : Nat) : Hp.live (List.replicate k 5) 16 (List.replicate m 1) = (0, if 65536 < k ∨ 4096 < m then 141 else 0) := by
  unfold Hp.live
  rw [Hp.many_chk]
  by_cases h : 65536 < k ∨ 4096 < m
  · rw [if_pos h, if_neg (by decide)]
  · rw [if_neg h, if_pos rfl]
    unfold Hp.move
    simp only [Hp.many_roots]
    rw [Hp.scan_end (by simp)]
    rfl

set_option maxHeartbeats 4000000 in
set_option maxRecDepth 100000 in
theorem heapManyWalk (x y : Int) (w : World) (hx : (Lit.int .i64 x).wf = true) (hy : (Lit.int .i64 y).wf = true) :
    Calls Try.prog 4 #[.int .i64 x, .int .i64 y] w fun e w' => e = .returned (.bool true) ∧ Below w.heap.size w w' := by
  have hx' : -9223372036854775808 ≤ x ∧ x ≤ 9223372036854775807 := by simpa [Lit.wf, IntKind.min, IntKind.max, IntKind.bits, IntKind.signed] using hx
  have hy' : -9223372036854775808 ≤ y ∧ y ≤ 9223372036854775807 := by simpa [Lit.wf, IntKind.min, IntKind.max, IntKind.bits, IntKind.signed] using hy
  obtain ⟨i0, hi, hz0, hz1, hz2⟩ := info_parts (show (Try.prog.info? 22).map (fun i => (i.zero, i.size, i.bytes)) = some (some (.int .u32 0), 1, 4) by kernel_rfl)
  have HX := Lib.hid fun w => pick x 70000 w (by omega) hx'
  have HY := Lib.hid fun w => pick y 5000 w (by omega) hy'
  clear hx hy hx' hy'
  go_enter Try.func4, Try.ntmps4
  go_wp2_with fail
  refine (HX.out _).mono ?_
  rintro _ w0 ⟨k, rfl, hk, hw0⟩
  subst hw0
  have hk' : k < 70000 := by omega
  go_wp2_with (at_make; refine make_row Try.underlying24 hi hz0 hz1 rfl rfl (.tmp 13) (.tmp 13) rfl k rfl rfl (by rw [hz2]; omega) (by omega) ?_; intro w1 R1 b1 z1; have O1 := Lib.hid (Owns.row (B := w0.heap.size) R1 (Nat.le_refl _) (by unfold maxLen; omega)); have B1 := Lib.hid b1; clear R1 b1)
  go_loopw [6] (fun q wr => ∃ i : Nat, q = .int .i64 (i : Int) ∧ i ≤ k ∧ Owns 22 .u32 w0.heap.size wr (.slice (some ⟨w0.heap.size, 0, none⟩) k k) (List.replicate i 5 ++ List.replicate (k - i) 0) ∧ Below w0.heap.size w0 wr ∧ w0.heap.size < wr.heap.size) (fun q _ => k - (intOf q).toNat)
  case atStart => exact ⟨0, rfl, by omega, by simpa using O1.out, B1.out, by omega⟩
  case round =>
    obtain ⟨i, rfl, hik, own, hb, hz⟩ := hrel
    by_cases hil : i < k
    · have hlen : (List.replicate i (5 : Int) ++ List.replicate (k - i) 0).length = k := by simp; omega
      obtain ⟨g, cap, he, _, _, _, _, hc⟩ := own.cells (by intro e; rw [e] at hlen; simp at hlen; omega)
      simp only [Value.slice.injEq, Option.some.injEq, Addr.mk.injEq] at he
      obtain ⟨⟨rfl, -, -⟩, -, rfl⟩ := he
      have hci := hc i (by omega)
      have hfi := own.free i
      generalize (List.replicate i (5 : Int) ++ List.replicate (k - i) 0)[i]'_ = z5 at hci
      have OWN := Lib.hid own
      have HB := Lib.hid hb
      clear own hb hc hlen
      go_wp2_with fail
      go_roundw
      case measure => simp only [intOf]; omega
      case rel =>
        refine ⟨i + 1, by simp, by omega, ?_, HB.out.setCell (p := ⟨w0.heap.size, i, none⟩) (Nat.le_refl _) _, by simpa [World.setCell] using hz⟩
        have e : (List.replicate i (5 : Int) ++ List.replicate (k - i) 0).set i 5 = List.replicate (i + 1) 5 ++ List.replicate (k - (i + 1)) 0 := by
          rw [List.set_append_right _ _ (by simp), List.length_replicate, Nat.sub_self, show k - i = (k - (i + 1)) + 1 by omega, List.replicate_succ, List.set_cons_zero, List.replicate_succ', List.append_assoc]
          rfl
        rw [← e]
        exact OWN.out.set i 5
    · have hie : i = k := by omega
      subst hie
      rw [Nat.sub_self, List.replicate_zero, List.append_nil] at own
      have OWN := Lib.hid own
      have HB := Lib.hid hb
      clear own hb O1 B1
      go_wp2_with fail
      refine (HY.out _).mono ?_
      rintro _ w2 ⟨m, rfl, hm, hw2⟩
      subst hw2
      have hm' : m < 5000 := by omega
      go_wp2_with (at_make; refine make_row Try.underlying24 hi hz0 hz1 rfl rfl (.tmp 25) (.tmp 25) rfl m rfl rfl (by rw [hz2]; omega) (by omega) ?_; intro w3 R3 b3 z3; have O3 := Lib.hid (Owns.row (B := w2.heap.size) R3 (Nat.le_refl _) (by unfold maxLen; omega)); have OW3 := Lib.hid (OWN.out.sees.below b3 (Nat.le_refl _)); have B3' := Lib.hid b3; clear R3 b3)
      go_loopw [8] (fun q wr => ∃ j : Nat, q = .int .i64 (j : Int) ∧ j ≤ m ∧ Owns 22 .u32 w2.heap.size wr (.slice (some ⟨w2.heap.size, 0, none⟩) m m) (List.replicate j 1 ++ List.replicate (m - j) 0) ∧ Below w2.heap.size w2 wr ∧ w2.heap.size < wr.heap.size) (fun q _ => m - (intOf q).toNat)
      case atStart => exact ⟨0, rfl, by omega, by simpa using O3.out, B3'.out, by omega⟩
      case round =>
        obtain ⟨j, rfl, hjm, own, hb, hz⟩ := hrel
        by_cases hjl : j < m
        · have hlen : (List.replicate j (1 : Int) ++ List.replicate (m - j) 0).length = m := by simp; omega
          obtain ⟨g, cap, he, _, _, _, _, hc⟩ := own.cells (by intro e; rw [e] at hlen; simp at hlen; omega)
          simp only [Value.slice.injEq, Option.some.injEq, Addr.mk.injEq] at he
          obtain ⟨⟨rfl, -, -⟩, -, rfl⟩ := he
          have hci := hc j (by omega)
          have hfi := own.free j
          generalize (List.replicate j (1 : Int) ++ List.replicate (m - j) 0)[j]'_ = z5 at hci
          have OWN' := Lib.hid own
          have HB' := Lib.hid hb
          clear own hb hc hlen
          go_wp2_with fail
          go_roundw
          case measure => simp only [intOf]; omega
          case rel =>
            refine ⟨j + 1, by simp, by omega, ?_, HB'.out.setCell (p := ⟨w2.heap.size, j, none⟩) (Nat.le_refl _) _, by simpa [World.setCell] using hz⟩
            have e : (List.replicate j (1 : Int) ++ List.replicate (m - j) 0).set j 1 = List.replicate (j + 1) 1 ++ List.replicate (m - (j + 1)) 0 := by
              rw [List.set_append_right _ _ (by simp), List.length_replicate, Nat.sub_self, show m - j = (m - (j + 1)) + 1 by omega, List.replicate_succ, List.set_cons_zero, List.replicate_succ', List.append_assoc]
              rfl
            rw [← e]
            exact OWN'.out.set j 1
        · have hje : j = m := by omega
          subst hje
          rw [Nat.sub_self, List.replicate_zero, List.append_nil] at own
          have hk := OWN.out.sees.below hb (Nat.le_refl _)
          have SL := Lib.hid fun w' (h : Below wr.heap.size wr w') => hk.below h (Nat.le_refl _)
          have SR := Lib.hid fun w' (h : Below wr.heap.size wr w') => own.sees.below h (Nat.le_refl _)
          have HB2 := Lib.hid (B.call HB.out hb)
          have hr5 : ∀ x ∈ List.replicate i (5 : Int), 0 ≤ x ∧ x < 4294967296 := fun x hx => by rw [(List.mem_replicate.1 hx).2]; omega
          have hr1 : ∀ x ∈ List.replicate j (1 : Int), 0 ≤ x ∧ x < 4294967296 := fun x hx => by rw [(List.mem_replicate.1 hx).2]; omega
          obtain ⟨c, hc⟩ : ∃ c : Int, c = if 65536 < i ∨ 4096 < j then 141 else 0 := ⟨_, rfl⟩
          have HLV := Lib.hid fun w' (h : Below wr.heap.size wr w') => hpLive _ _ _ _ 16 w' (SL.out w' h) hr5 (SR.out w' h) hr1 (by omega)
          have HCK := Lib.hid fun w' (h : Below wr.heap.size wr w') => hpCheck _ _ _ _ 16 w' (SL.out w' h) hr5 (SR.out w' h) hr1 (by omega) (by omega)
          rw [Hp.many_live, ← hc] at HLV
          rw [Hp.many_chk, ← hc] at HCK
          clear SL SR own hb hk OWN HB O3 OW3 B3' hr5 hr1 hik hil hjm hjl z1 z3 hi hz0 hz1 hz2 HX HY
          by_cases h1 : 65536 < i
          · obtain rfl : c = 141 := by rw [hc, if_pos (.inl h1)]
            have h1' : (65536 : Int) < (i : Int) := by omega
            clear hc h1 hk hk' hm hm'
            go_wp2_with fail
            refine (HLV.out _ (B.refl _)).mono ?_
            rintro _ w4 ⟨rfl, b4⟩
            go_wp2_with fail
            refine (HCK.out _ b4).mono ?_
            rintro _ w5 ⟨rfl, b5⟩
            have HB5 := Lib.hid (B.call (B.call HB2.out b4) b5)
            go_wp2_with fail
            refine (hpAwake _).mono ?_
            rintro _ w6 ⟨rfl, b6⟩
            have HB6 := Lib.hid (B.call HB5.out b6)
            clear b4 b5 b6
            go_wp2_with fail
            go_returns
            exact ⟨rfl, HB6.out⟩
          · by_cases h2 : 4096 < j
            · obtain rfl : c = 141 := by rw [hc, if_pos (.inr h2)]
              have h1' : ¬ (65536 : Int) < (i : Int) := by omega
              have h2' : (4096 : Int) < (j : Int) := by omega
              clear hc h1 h2 hk hk' hm hm'
              go_wp2_with fail
              refine (HLV.out _ (B.refl _)).mono ?_
              rintro _ w4 ⟨rfl, b4⟩
              go_wp2_with fail
              refine (HCK.out _ b4).mono ?_
              rintro _ w5 ⟨rfl, b5⟩
              have HB5 := Lib.hid (B.call (B.call HB2.out b4) b5)
              go_wp2_with fail
              refine (hpAwake _).mono ?_
              rintro _ w6 ⟨rfl, b6⟩
              have HB6 := Lib.hid (B.call HB5.out b6)
              clear b4 b5 b6
              go_wp2_with fail
              go_returns
              exact ⟨rfl, HB6.out⟩
            · obtain rfl : c = 0 := by rw [hc, if_neg (by omega)]
              have h1' : ¬ (65536 : Int) < (i : Int) := by omega
              have h2' : ¬ (4096 : Int) < (j : Int) := by omega
              clear hc h1 h2 hk hk' hm hm'
              go_wp2_with fail
              refine (HLV.out _ (B.refl _)).mono ?_
              rintro _ w4 ⟨rfl, b4⟩
              go_wp2_with fail
              refine (HCK.out _ b4).mono ?_
              rintro _ w5 ⟨rfl, b5⟩
              have HB5 := Lib.hid (B.call (B.call HB2.out b4) b5)
              go_wp2_with fail
              refine (hpAwake _).mono ?_
              rintro _ w6 ⟨rfl, b6⟩
              have HB6 := Lib.hid (B.call HB5.out b6)
              clear b4 b5 b6
              go_wp2_with fail
              go_returns
              exact ⟨rfl, HB6.out⟩

end Go.Proofs.Ytgohnekaolgblaa
