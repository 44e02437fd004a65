/- Layer 4: the reader reads words: contract. -/
import Derived.Test.YtdlfmchpaohoaaaKindRd
import Derived.Test.YtdlfmchpaohoaaaKindPlain
namespace Go.Proofs.Ytdlfmchpaohoaaa
open Go.RowKit

/-- What is read stays as it is while the reader's own block is written. -/
theorem Sees.rb {w w' : World} {g a : Nat} {v : Value} {bs : List Int} (h : Sees .u8 w v bs) (hr : RB w g v a) (hg : w.grownBy w' (some g)) : Sees .u8 w' v bs := by
  obtain ⟨A, cap, rfl, hc, hm, h⟩ := h
  refine ⟨A, cap, rfl, hc, hm, fun hne => ?_⟩
  obtain ⟨b, off, rfl, hcell⟩ := h hne
  refine ⟨b, off, rfl, fun j hj => ?_⟩
  have h1 := hcell j hj
  have hb : b ≠ g := by
    rintro rfl
    rw [cell_of_row w b (off + j) _ _ _ hr] at h1
    rcases hoj : off + j with _ | _ | k
    · rw [hoj] at h1; simp at h1
    · rw [hoj] at h1; simp at h1
    · rw [hoj] at h1; simp at h1
  exact hg.cell h1 (by simpa using hb)

def WordsOut (w : World) (g : Nat) (v : Value) (n q : Nat) (t : Int × Int) (e : Ending) (w' : World) : Prop :=
  (t.1 = 0 ∧ e = .returned (.int .i64 n) ∧ w.grownBy w' (some g) ∧ RB w' g v (q + n)) ∨ (¬ t.1 = 0 ∧ e = .panicked [{ v := stopv t.1 t.2, recovered := false }] ∧ w.grownBy w' (some g))

set_option maxHeartbeats 1000000 in
theorem words_run (g : Nat) (v : Value) (bs : List Int) (a : Nat) (n q : Nat) (most : Int) (w : World) (hr : RB w g v a) (hv : Sees .u8 w v bs) (hb : Byt bs) (ha : a ≤ bs.length) (hm : bs.length ≤ 140737488351232)
    (hg : Leb.getU bs a = ((n : Int), (q : Int), 0, 0)) (hn : (n : Int) ≤ most) (hn2 : n < 4294967296) (hq : q ≤ bs.length) :
    Calls Try.prog 46 #[.pointer (some ⟨g, 0, none⟩), .int .u32 most] w fun e w' => WordsOut w g v n q (Kind.run bs n q) e w' := by
  have HR := Lib.hid hr; clear hr
  have HV := Lib.hid hv; clear hv
  have HB := Lib.hid hb; clear hb
  have HG := Lib.hid hg; clear hg
  go_enter Try.func46, Try.ntmps46
  go_wp2_with fail
  refine (number_ok g v bs a 0 most w HR.out HV.out HB.out ha hm n q HG.out (by omega) hn (by omega)).mono ?_
  rintro e w1 ⟨rfl, g1, r1⟩
  rw [Int.toNat_natCast] at r1
  go_wp2_with fail
  go_loopw [10] (fun i wr => ∃ k : Nat, i = .int .u32 k ∧ k ≤ n ∧ q + k ≤ bs.length ∧ w.grownBy wr (some g) ∧ RB wr g v (q + k) ∧ Kind.run bs (n - k) (q + k) = Kind.run bs n q) (fun i _ => n - (intOf i).toNat)
  case atStart => exact ⟨0, rfl, Nat.zero_le _, by omega, g1, r1, rfl⟩
  case round =>
    obtain ⟨k, rfl, hk, hqk, gk, rk, hrun⟩ := hrel
    have HRUN := Lib.hid hrun; clear hrun
    have GK := Lib.hid gk; clear gk
    have RK := Lib.hid rk; clear rk
    have GL := Lib.hid g1; clear g1
    have RL := Lib.hid r1; clear r1
    by_cases hlt : k < n
    · have s1 : ∀ (w : World) (g : Nat), g = w.heap.size → Sees .u8 (w.alloc (.cells #[.int .u8 127] 5)) (.slice (some ⟨g, 0, none⟩) 1 1) [127] := by
        rintro w g rfl; exact Sees.lit .u8 w 5 [127] 1 (by decide) (by decide)
      have sv := HV.out.rb HR.out GK.out
      have S1 := Lib.hid s1; clear s1
      have gk1 : w.grownBy (wr.alloc (.cells #[.int .u8 127] 5)) (some g) := G.trans GK.out (World.grownBy_alloc _ _ _)
      have GK1 := Lib.hid gk1; clear gk1
      have HN : n - k = (n - (k + 1)) + 1 := by omega
      have HN1 := Lib.hid HN; clear HN
      by_cases hl : q + k < bs.length
      · by_cases hc : bs[q + k] = 127
        · have HC := Lib.hid hc; clear hc
          go_wp2_with fail
          refine (byte_any g v _ bs [127] (q + k) _ (RK.out.alloc _) (sv.alloc _) (S1.out _ _ rfl) hl hm).mono ?_
          intro e w2 ho
          rcases ho with ⟨_, rfl, hg2, hr2⟩ | ⟨hno, _, _⟩
          · go_wp2_with fail
            refine ⟨⟨k + 1, by go_num, by omega, by omega, G.trans GK1.out hg2, hr2, ?_⟩, by simp only [intOf]; omega⟩
            rw [← HRUN.out, HN1.out, Kind.run_hit hl HC.out]; rfl
          · exact absurd (by rw [HC.out]; simp) hno
        · have HC := Lib.hid hc; clear hc
          go_wp2_with fail
          refine (byte_any g v _ bs [127] (q + k) _ (RK.out.alloc _) (sv.alloc _) (S1.out _ _ rfl) hl hm).mono ?_
          intro e w2 ho
          rcases ho with ⟨hno, _, _, _⟩ | ⟨_, rfl, hg2⟩
          · exact absurd (by simpa using hno) HC.out
          · go_wp2_with fail
            have ht : Kind.run bs n q = (140, ((q + k : Nat) : Int)) := by rw [← HRUN.out, HN1.out, Kind.run_miss hl HC.out]
            rw [ht]
            exact ⟨rfl, .inr ⟨by simp, rfl, G.trans GK1.out hg2⟩⟩
      · go_wp2_with fail
        refine (byte_end g v _ bs (q + k) _ (RK.out.alloc _) (sv.alloc _) (by omega)).mono ?_
        rintro e w2 ⟨rfl, hg2⟩
        go_wp2_with fail
        have ht : Kind.run bs n q = (4, (bs.length : Int)) := by rw [← HRUN.out, HN1.out, Kind.run_end (by omega)]
        rw [ht]
        exact ⟨rfl, .inr ⟨by simp, rfl, G.trans GK1.out hg2⟩⟩
    · go_wp2_with fail
      go_ret
      obtain rfl : k = n := by omega
      refine .inl ⟨?_, rfl, GK.out, RK.out⟩
      rw [← HRUN.out, Nat.sub_self]; rfl

/-- What a reader's step tells: a value, and the reader stands further on; or it panics. -/
def StepOut (w : World) (g : Nat) (v : Value) (r : Int × Int × Int × Int) (ret : Value) (e : Ending) (w' : World) : Prop :=
  (r.2.2.1 = 0 ∧ e = .returned ret ∧ w.grownBy w' (some g) ∧ RB w' g v r.2.1.toNat) ∨ (¬ r.2.2.1 = 0 ∧ e = .panicked [{ v := stopv r.2.2.1 r.2.2.2, recovered := false }] ∧ w.grownBy w' (some g))

/-- words, at whatever bytes. -/
theorem words_any (g : Nat) (v : Value) (bs : List Int) (a : Nat) (most : Int) (w : World) (hr : RB w g v a) (hv : Sees .u8 w v bs) (hb : Byt bs) (ha : a ≤ bs.length) (hm : bs.length ≤ 140737488351232) :
    Calls Try.prog 46 #[.pointer (some ⟨g, 0, none⟩), .int .u32 most] w fun e w' => StepOut w g v (Kind.words bs a most) (.int .i64 (Kind.words bs a most).1) e w' := by
  rcases Leb.getU_cases bs a hb with ⟨x, q, hg, x0, x1, _, _, q0, q1, q2⟩ | ⟨e0, p0, hg, he⟩
  · obtain ⟨n, rfl⟩ := Int.eq_ofNat_of_zero_le x0
    have hp := Leb.putU_pos 4 n
    obtain ⟨q, rfl⟩ := Int.eq_ofNat_of_zero_le (show 0 ≤ q by omega)
    by_cases hmost : most < (n : Int)
    · have hw : Kind.words bs a most = (0, 0, 141, (a : Int)) := by
        unfold Kind.words
        rw [hg]; simp [hmost]
      rw [hw]
      go_enter Try.func46, Try.ntmps46
      go_wp2_with fail
      refine (number_high g v bs a 0 most w hr hv hb ha hm n q hg (by omega) hmost).mono ?_
      rintro e w1 ⟨rfl, g1⟩
      go_wp2_with fail
      exact ⟨rfl, .inr ⟨by simp, rfl, g1⟩⟩
    · have hw : Kind.words bs a most = if (Kind.run bs n q).1 ≠ 0 then (0, 0, Kind.run bs n q) else ((n : Int), (q : Int) + n, 0, 0) := by
        unfold Kind.words
        rw [hg]; simp [hmost]
      refine (words_run g v bs a n q most w hr hv hb ha hm hg (by omega) (by omega) (by omega)).mono ?_
      rintro e w1 (⟨h0, rfl, g1, r1⟩ | ⟨h0, rfl, g1⟩)
      · rw [hw, if_neg (by simpa using h0)]
        exact .inl ⟨rfl, rfl, g1, by rw [show ((q : Int) + n).toNat = q + n by omega]; exact r1⟩
      · rw [hw, if_pos h0]
        exact .inr ⟨h0, rfl, g1⟩
  · have hw : Kind.words bs a most = (0, 0, e0, p0) := by
      unfold Kind.words
      rw [hg]; simp; omega
    have he0 : ¬ e0 = 0 := by omega
    rw [hw]
    clear he
    go_enter Try.func46, Try.ntmps46
    go_wp2_with fail
    refine (number_err g v bs a 0 most w hr hv hb ha hm e0 p0 hg he0).mono ?_
    rintro e w1 ⟨rfl, g1⟩
    go_wp2_with fail
    exact ⟨rfl, .inr ⟨he0, rfl, g1⟩⟩

theorem words_ok (g : Nat) (v : Value) (bs : List Int) (a : Nat) (most : Int) (w : World) (hr : RB w g v a) (hv : Sees .u8 w v bs) (hb : Byt bs) (ha : a ≤ bs.length) (hm : bs.length ≤ 140737488351232)
    (x : Int) (q : Nat) (h : Kind.words bs a most = (x, (q : Int), 0, 0)) :
    Calls Try.prog 46 #[.pointer (some ⟨g, 0, none⟩), .int .u32 most] w fun e w' => e = .returned (.int .i64 x) ∧ w.grownBy w' (some g) ∧ RB w' g v q := by
  have hw := words_any g v bs a most w hr hv hb ha hm
  rw [h] at hw
  refine hw.mono ?_
  rintro e w' (⟨_, rfl, g1, r1⟩ | ⟨h0, _, _⟩)
  · exact ⟨rfl, g1, by simpa using r1⟩
  · exact absurd rfl h0

theorem words_bad (g : Nat) (v : Value) (bs : List Int) (a : Nat) (most : Int) (w : World) (hr : RB w g v a) (hv : Sees .u8 w v bs) (hb : Byt bs) (ha : a ≤ bs.length) (hm : bs.length ≤ 140737488351232)
    (e0 p0 : Int) (h : Kind.words bs a most = (0, 0, e0, p0)) (he : ¬ e0 = 0) :
    Calls Try.prog 46 #[.pointer (some ⟨g, 0, none⟩), .int .u32 most] w fun e w' => e = .panicked [{ v := stopv e0 p0, recovered := false }] ∧ w.grownBy w' (some g) := by
  have hw := words_any g v bs a most w hr hv hb ha hm
  rw [h] at hw
  refine hw.mono ?_
  rintro e w' (⟨h0, _, _, _⟩ | ⟨_, rfl, g1⟩)
  · exact absurd h0 he
  · exact ⟨rfl, g1⟩

end Go.Proofs.Ytdlfmchpaohoaaa
