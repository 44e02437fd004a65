/- gimletref04.Byte, getWords: contracts. -/
import Derived.Test.YtdlfmchpaohoaaaRefGetU
import Derived.Test.YtdlfmchpaohoaaaKindGetLim
namespace Go.Proofs.Ytdlfmchpaohoaaa
open Go.RowKit

/-- The byte at a place, as the reference tells it. -/
def Kind.byteAt (bs : List Int) (at_ : Int) : Int × Int × Int × Int :=
  if at_ < 0 ∨ (bs.length : Int) < at_ then (0, 0, 5, 0) else
  match bs[at_.toNat]? with
  | none => (0, 0, 4, at_)
  | some c => (c, at_ + 1, 0, 0)

def tupB (r : Int × Int × Int × Int) : Value := .tuple #[.int .u8 r.1, .int .i64 r.2.1, .agg #[.int .i64 r.2.2.1, .int .i64 r.2.2.2]]
def tupW (r : Int × Int × Int × Int) : Value := .tuple #[.int .i64 r.1, .int .i64 r.2.1, .agg #[.int .i64 r.2.2.1, .int .i64 r.2.2.2]]

theorem refByte (v : Value) (bs : List Int) (at_ : Int) (w : World) (hv : Sees .u8 w v bs) (hm : bs.length ≤ 140737488351232) :
    Calls Try.prog 47 #[v, .int .i64 at_] w fun e w' => e = .returned (tupB (Kind.byteAt bs at_)) ∧ Below w.heap.size w w' := by
  by_cases h0 : at_ < 0
  · have hr : Kind.byteAt bs at_ = (0, 0, 5, 0) := by unfold Kind.byteAt; rw [if_pos (.inl h0)]
    rw [hr]; clear hr
    obtain ⟨A, cap, rfl, _, _⟩ := hv.len
    clear hv
    go_enter Try.func47, Try.ntmps47
    go_wp2_with fail
    go_returns
    exact ⟨rfl, B.alloc (B.refl _) _⟩
  · obtain ⟨a, rfl⟩ := Int.eq_ofNat_of_zero_le (show 0 ≤ at_ by omega)
    by_cases h1 : bs.length < a
    · have hr : Kind.byteAt bs a = (0, 0, 5, 0) := by unfold Kind.byteAt; rw [if_pos (.inr (by omega))]
      rw [hr]; clear hr
      obtain ⟨A, cap, rfl, _, _⟩ := hv.len
      clear hv
      go_enter Try.func47, Try.ntmps47
      go_wp2_with fail
      go_returns
      exact ⟨rfl, B.alloc (B.refl _) _⟩
    · by_cases h2 : a = bs.length
      · have hr : Kind.byteAt bs a = (0, 0, 4, (a : Int)) := by unfold Kind.byteAt; rw [if_neg (by omega), Int.toNat_natCast, List.getElem?_eq_none (by omega)]
        rw [hr]; clear hr
        have hb : ((a : Int) == (bs.length : Int)) = true := by rw [beq_iff_eq]; omega
        have h3 : ¬ (bs.length : Int) < a := by omega
        obtain ⟨A, cap, rfl, _, _⟩ := hv.len
        clear hv h2
        go_enter Try.func47, Try.ntmps47
        go_wp2_with fail
        go_returns
        exact ⟨rfl, B.alloc (B.refl _) _⟩
      · have hl : a < bs.length := by omega
        have hr : Kind.byteAt bs a = (bs[a], (a : Int) + 1, 0, 0) := by unfold Kind.byteAt; rw [if_neg (by omega), Int.toNat_natCast, List.getElem?_eq_getElem hl]
        rw [hr]; clear hr
        have hb : ((a : Int) == (bs.length : Int)) = false := by rw [beq_eq_false_iff_ne]; omega
        have h3 : ¬ (bs.length : Int) < a := by omega
        have h4 : (a : Int) < bs.length := by omega
        obtain ⟨A, cap, rfl, _, _⟩ := hv.len
        obtain ⟨b, off, rfl, hcell⟩ := hv.at_ (by omega)
        have hx := hcell a hl
        have hbl : b < w.heap.size := World.block_lt_of_cell? _ _ hx
        clear hcell hv h2
        obtain ⟨c, hc⟩ : ∃ c, c = bs[a] := ⟨_, rfl⟩
        rw [← hc] at hx ⊢
        clear hc
        go_enter Try.func47, Try.ntmps47
        go_wp2_with fail
        go_returns
        exact ⟨rfl, B.alloc (B.refl _) _⟩

set_option maxHeartbeats 1000000 in
theorem refWords_bad (v : Value) (bs : List Int) (at_ most : Int) (w : World) (hv : Sees .u8 w v bs) (hb : Byt bs) (hm : bs.length ≤ 140737488351232)
    (e0 p0 : Int) (hg : Leb.getU bs at_ = (0, 0, e0, p0)) (he : ¬ e0 = 0) :
    Calls Try.prog 48 #[v, .int .i64 at_, .int .i64 most] w fun e w' => e = .returned (tupW (0, 0, e0, p0)) ∧ Below w.heap.size w w' := by
  have HV := Lib.hid hv; clear hv
  have HB := Lib.hid hb; clear hb
  have HG := Lib.hid hg; clear hg
  go_enter Try.func48, Try.ntmps48
  go_wp2_with fail
  refine (refGetU _ _ _ _ (HV.out.alloc _) HB.out hm).mono ?_
  rintro e w1 ⟨rfl, b1⟩
  rw [HG.out]
  simp only [tupU]
  obtain ⟨k1, k2, k3, k4, k5⟩ := bcell2 b1
  go_wp2_with fail
  go_region
  all_goals go_wp2_with fail
  refine bodyPost_ret (v := tupW (0, 0, e0, p0)) (by simp [results, Try.results48, go_sem, k1, k2, k5, tupW]) rfl ⟨rfl, below_tail b1⟩

set_option maxHeartbeats 1000000 in
theorem refWords_many (v : Value) (bs : List Int) (at_ most : Int) (w : World) (hv : Sees .u8 w v bs) (hb : Byt bs) (hm : bs.length ≤ 140737488351232)
    (x q : Int) (hg : Leb.getU bs at_ = (x, q, 0, 0)) (hx0 : 0 ≤ x) (hx1 : x < 4294967296) (hx : most < x) :
    Calls Try.prog 48 #[v, .int .i64 at_, .int .i64 most] w fun e w' => e = .returned (tupW (0, 0, 141, at_)) ∧ Below w.heap.size w w' := by
  have HV := Lib.hid hv; clear hv
  have HB := Lib.hid hb; clear hb
  have HG := Lib.hid hg; clear hg
  go_enter Try.func48, Try.ntmps48
  go_wp2_with fail
  refine (refGetU _ _ _ _ (HV.out.alloc _) HB.out hm).mono ?_
  rintro e w1 ⟨rfl, b1⟩
  rw [HG.out]
  simp only [tupU]
  obtain ⟨k1, k2, k3, k4, k5⟩ := bcell2 b1
  go_wp2_with fail
  refine bodyPost_ret (v := tupW (0, 0, 141, at_)) (by simp [results, Try.results48, go_sem, k1, k2, k5, tupW]) rfl ⟨rfl, below_tail' b1⟩

end Go.Proofs.Ytdlfmchpaohoaaa
