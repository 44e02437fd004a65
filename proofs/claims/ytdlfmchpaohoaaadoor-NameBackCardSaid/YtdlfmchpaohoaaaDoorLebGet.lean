/- leb.get reads what the plain definition says; GetU, GetS. -/
import Derived.Test.YtdlfmchpaohoaaaDoorLebPut
import Derived.Test.YtdlfmchpaohoaaaDoorSees
import Derived.Test.YtdlfmchpaohoaaaDoorLebGetPlain
namespace Go.Proofs.YtdlfmchpaohoaaaDoor
open Go.RowKit

theorem lastU_any (c : Int) (w : World) : Calls Tryd.prog 38 #[.int .u8 c] w fun e w' => e = .returned (.bool (Leb.lastU c)) ∧ w = w' := by
  go_enter Tryd.func38, Tryd.ntmps38
  go_wp2
  go_ret
  exact ⟨rfl, rfl⟩

/-- One part more is joined to those that are there. -/
theorem or_val (acc : List Int) (c : Int) (i : Nat) (hp : Leb.Parts acc) (hl : acc.length = i) (hi : i ≤ 4) :
    bits .or .u64 (Leb.val acc) (IntKind.u64.wrap (c % 128 * 2 ^ (7 * i))) = Leb.val (acc ++ [c % 128]) := by
  have h0 := Leb.val_nonneg hp
  have h1 := Leb.val_lt hp
  rw [hl, show (128 : Int) = 2 ^ 7 from rfl, ← Int.pow_mul] at h1
  rw [Leb.val_append, hl, show (128 : Int) ^ i = 2 ^ (7 * i) from by rw [show (128 : Int) = 2 ^ 7 from rfl, ← Int.pow_mul]]
  have hv1 : Leb.val [c % 128] = c % 128 := by simp [Leb.val]
  rw [hv1]
  obtain ⟨y, hy⟩ := Int.eq_ofNat_of_zero_le h0
  obtain ⟨x, hx⟩ := Int.eq_ofNat_of_zero_le (show 0 ≤ c % 128 by omega)
  have hx2 : x < 128 := by omega
  rw [hy] at h1 ⊢
  rw [hx]
  have hpw : (2 : Int) ^ (7 * i) = ((2 ^ (7 * i) : Nat) : Int) := by simp
  rw [hpw] at h1 ⊢
  have h1' : y < 2 ^ (7 * i) := Int.ofNat_lt.1 h1
  clear h1
  have hle : 2 ^ (7 * i) ≤ 268435456 := by
    have : 2 ^ (7 * i) ≤ 2 ^ 28 := Nat.pow_le_pow_right (by omega) (by omega)
    simpa using this
  have hpos : 0 < 2 ^ (7 * i) := Nat.pow_pos (by decide)
  have hmul : x * 2 ^ (7 * i) ≤ 127 * 268435456 := Nat.mul_le_mul (by omega) hle
  have hsh : IntKind.u64.wrap ((x : Int) * ((2 ^ (7 * i) : Nat) : Int)) = ((x * 2 ^ (7 * i) : Nat) : Int) := by
    rw [← Int.natCast_mul, IntKind.wrap_u64]; omega
  rw [hsh, bits_or_comm, bits_join .u64 _ _ (7 * i) (Nat.mul_mod_left _ _) (by omega) (by simp [IntKind.bits]; omega), IntKind.wrap_u64]
  rw [show (y : Int) + ((2 ^ (7 * i) : Nat) : Int) * (x : Int) = ((x * 2 ^ (7 * i) + y : Nat) : Int) from by rw [Int.natCast_add, Int.natCast_mul, Int.mul_comm, Int.add_comm]]
  omega

/-- What get tells. -/
def gets (r : Option (List Int) × Int) : Value :=
  match r with
  | (some l, q) => .tuple #[.int .u64 (Leb.val l), .int .i64 (7 * l.length), .int .i64 q, .agg #[.int .i64 0, .int .i64 0]]
  | (none, q) => .tuple #[.int .u64 0, .int .i64 0, .int .i64 0, .agg #[.int .i64 4, .int .i64 q]]

set_option maxHeartbeats 1000000 in
theorem getU_any (v : Value) (bs : List Int) (a : Nat) (w : World) (hv : Sees .u8 w v bs) (hb : Byt bs) (ha : a ≤ bs.length) (hm : bs.length ≤ 9223372036854775800) :
    Calls Tryd.prog 37 #[v, .int .i64 a, .func (.func 38) #[] #[]] w fun e w' => e = .returned (gets (Leb.rd Leb.lastU 4 (bs.drop a) a)) ∧ Below w.heap.size w w' := by
  obtain ⟨A, cap, rfl, hc1, hc2, hcells⟩ := hv
  have HC := Lib.hid hcells; clear hcells
  have HB := Lib.hid hb; clear hb
  go_enter Tryd.func37, Tryd.ntmps37
  go_wp2
  go_loop [6, 21] (fun b c => ∃ (i : Nat) (acc : List Int), Leb.AtG Leb.lastU bs a i acc ∧ b = .int .u64 (Leb.val acc) ∧ c = .int .i64 i) (fun _ c => 5 - (intOf c).toNat)
  case atStart => exact ⟨0, [], Leb.AtG.start _ ha, rfl, rfl⟩
  case round =>
    obtain ⟨i, acc, hat, rfl, rfl⟩ := hrel
    have hi4 := hat.le
    by_cases hs : bs.length ≤ a + i
    · go_wp2
      go_returns
      exact ⟨by rw [hat.short hs]; rfl, (Below.refl _ _).alloc (Nat.le_refl _) _⟩
    · have hlt : a + i < bs.length := by omega
      obtain ⟨b, off, rfl, hcell⟩ := HC.out (by intro e; subst e; simp at hlt)
      obtain ⟨c, hc⟩ : ∃ c, c = bs[a + i] := ⟨_, rfl⟩
      have hb := HB.out _ (List.getElem_mem hlt)
      have hx := hcell (a + i) hlt
      have HCE := Lib.hid hcell; clear hcell
      rw [← hc] at hb hx
      have hbl : b < w.heap.size := World.block_lt_of_cell? w _ hx
      have Hc := Lib.hid hc; clear hc
      have hor := or_val acc c i hat.parts hat.len hi4
      have hand := and127_u8 c
      by_cases h4 : i = 4
      · subst h4
        have hie : (((4 : Nat) : Int) == 4) = true := rfl
        by_cases h128 : c < 128
        · have hm : c % 128 = c := by omega
          rw [hm] at hor hand
          have hge : ¬ 128 ≤ c := by omega
          have hor4 : bits .or .u64 (Leb.val acc) (c * 268435456) = Leb.val (acc ++ [c]) := by
            have e : IntKind.u64.wrap (c * 2 ^ (7 * 4)) = c * 268435456 := by rw [IntKind.wrap_u64]; omega
            rw [← e]; exact hor
          cases hl : Leb.lastU c
          · go_wp2_with fail
            refine (lastU_any _ _).mono ?_
            rintro e w' ⟨rfl, rfl⟩
            go_wp2_with fail
            go_returns
            refine ⟨?_, (Below.refl _ _).alloc (Nat.le_refl _) _⟩
            rw [hat.bad hlt (by rw [← Hc.out]; exact .inr hl)]; rfl
          · go_wp2_with fail
            refine (lastU_any _ _).mono ?_
            rintro e w' ⟨rfl, rfl⟩
            go_wp2_with fail
            go_returns
            refine ⟨?_, (Below.refl _ _).alloc (Nat.le_refl _) _⟩
            have hd := hat.done hlt (by rw [← Hc.out]; omega) (by rw [← Hc.out]; exact fun _ => hl)
            rw [hd, ← Hc.out]
            simp only [gets, List.length_append, List.length_singleton, hat.len]
            rfl
        · go_wp2_with fail
          go_returns
          refine ⟨?_, (Below.refl _ _).alloc (Nat.le_refl _) _⟩
          rw [hat.bad hlt (by rw [← Hc.out]; exact .inl (by omega))]; rfl
      · have hi3 : i < 4 := by omega
        have hie : ((i : Int) == 4) = false := by simp; omega
        by_cases h128 : c < 128
        · have hm : c % 128 = c := by omega
          rw [hm] at hor hand
          go_wp2_with fail
          go_returns
          refine ⟨?_, (Below.refl _ _).alloc (Nat.le_refl _) _⟩
          have hd := hat.done hlt (by rw [← Hc.out]; omega) (by omega)
          rw [hd, ← Hc.out]
          simp only [gets, List.length_append, List.length_singleton, hat.len]
          rfl
        · go_wp2_with fail
          refine ⟨⟨i + 1, _, hat.step hlt (by rw [← Hc.out]; omega) hi3, by rw [← Hc.out], by go_num⟩, by simp only [intOf]; omega⟩

end Go.Proofs.YtdlfmchpaohoaaaDoor
