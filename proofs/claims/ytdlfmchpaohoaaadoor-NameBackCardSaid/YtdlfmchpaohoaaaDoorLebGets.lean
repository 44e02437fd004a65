/- leb.GetU, leb.GetS: contracts. -/
import Derived.Test.YtdlfmchpaohoaaaDoorLebGet
import Derived.Test.YtdlfmchpaohoaaaDoorLebGetNum
import Derived.BigRegion
import Derived.BigQuiet
namespace Go.Proofs.YtdlfmchpaohoaaaDoor
open Go.RowKit

def tupU (r : Int × Int × Int × Int) : Value := .tuple #[.int .u32 r.1, .int .i64 r.2.1, .agg #[.int .i64 r.2.2.1, .int .i64 r.2.2.2]]
def tupS (r : Int × Int × Int × Int) : Value := .tuple #[.int .i32 r.1, .int .i64 r.2.1, .agg #[.int .i64 r.2.2.1, .int .i64 r.2.2.2]]

theorem get_out (at_ : Int) (v f : Value) (bs : List Int) (w : World) (hv : Sees .u8 w v bs) (h : at_ < 0 ∨ (bs.length : Int) < at_) :
    Calls Tryd.prog 37 #[v, .int .i64 at_, f] w fun e w' => e = .returned (.tuple #[.int .u64 0, .int .i64 0, .int .i64 0, .agg #[.int .i64 5, .int .i64 0]]) ∧ Below w.heap.size w w' := by
  obtain ⟨A, cap, rfl, hc1, hc2, hcells⟩ := hv
  clear hcells
  by_cases h0 : at_ < 0
  · go_enter Tryd.func37, Tryd.ntmps37
    go_wp2
    go_returns
    exact ⟨rfl, (Below.refl _ _).alloc (Nat.le_refl _) _⟩
  · have h1 : (bs.length : Int) < at_ := by omega
    clear h
    go_enter Tryd.func37, Tryd.ntmps37
    go_wp2
    go_returns
    exact ⟨rfl, (Below.refl _ _).alloc (Nat.le_refl _) _⟩

/-- Behind the call, the store into the result, the draw: what was there when the call began has not turned. -/
theorem below_tail {w w1 : World} {o o' : Obj} {u u' : Value} {i j : Nat} (b1 : Below (w.alloc o).heap.size (w.alloc o) w1) :
    Below w.heap.size w (((w1.setCell ⟨w.heap.size, i, none⟩ u).setCell ⟨w.heap.size, j, none⟩ u').alloc o').drew := by
  have hs := b1.size
  simp only [World.size_alloc] at hs
  have h1 : Below w.heap.size w w1 := ((Below.refl _ _).alloc (Nat.le_refl _) _).trans (b1.mono (by simp))
  exact (((h1.setCell (p := ⟨w.heap.size, i, none⟩) (Nat.le_refl _) _).setCell (p := ⟨w.heap.size, j, none⟩) (Nat.le_refl _) _).alloc (by simp; omega) _).drew

theorem getU (v : Value) (bs : List Int) (at_ : Int) (w : World) (hv : Sees .u8 w v bs) (hb : Byt bs) (hm : bs.length ≤ 9223372036854775800) :
    Calls Tryd.prog 27 #[v, .int .i64 at_] w fun e w' => e = .returned (tupU (Leb.getU bs at_)) ∧ Below w.heap.size w w' := by
  have HB := Lib.hid hb; clear hb
  by_cases h : at_ < 0 ∨ (bs.length : Int) < at_
  · have hr : Leb.getU bs at_ = (0, 0, 5, 0) := by unfold Leb.getU; rw [if_pos h]
    rw [hr]
    have H := Lib.hid h; clear h hr
    go_enter Tryd.func27, Tryd.ntmps27
    go_wp2_with fail
    refine (get_out _ _ _ _ _ (hv.alloc _) H.out).mono ?_
    rintro e w1 ⟨rfl, b1⟩
    obtain ⟨k1, k2, k3, k4, k5⟩ := bcell2 b1
    go_wp2_with fail
    go_region
    all_goals go_wp2_with fail
    refine bodyPost_ret (v := tupU (0, 0, 5, 0)) (by simp [results, Tryd.results27, go_sem, k1, k2, k5, tupU]) rfl ⟨rfl, below_tail b1⟩
  · obtain ⟨a, rfl⟩ := Int.eq_ofNat_of_zero_le (show 0 ≤ at_ by omega)
    have hr : Leb.getU bs a = Leb.tell Leb.val (Leb.rd Leb.lastU 4 (bs.drop a) a) := by
      unfold Leb.getU; rw [if_neg h, Int.toNat_natCast]
    rw [hr]
    have hga := getU_any v bs a
    generalize hrd : Leb.rd Leb.lastU 4 (bs.drop a) a = r at *
    have hle : a ≤ bs.length := by omega
    clear h hr
    have HG := Lib.hid hga; clear hga
    have HV := Lib.hid hv; clear hv
    obtain ⟨_ | l, q⟩ := r
    · have HR := Lib.hid hrd; clear hrd
      go_enter Tryd.func27, Tryd.ntmps27
      go_wp2_with fail
      refine (HG.out _ (HV.out.alloc _) HB.out hle hm).mono ?_
      rintro e w1 ⟨rfl, b1⟩
      obtain ⟨k1, k2, k3, k4, k5⟩ := bcell2 b1
      simp only [gets]
      go_wp2_with fail
      go_region
      all_goals go_wp2_with fail
      refine bodyPost_ret (v := tupU (0, 0, 4, q)) (by simp [results, Tryd.results27, go_sem, k1, k2, k5, tupU]) rfl ⟨rfl, below_tail b1⟩
    · obtain ⟨v0, v1⟩ := Leb.rdU_bound (fun c hc => HB.out c (List.mem_of_mem_drop hc)) hrd
      have HR := Lib.hid hrd; clear hrd
      go_enter Tryd.func27, Tryd.ntmps27
      go_wp2_with fail
      refine (HG.out _ (HV.out.alloc _) HB.out hle hm).mono ?_
      rintro e w1 ⟨rfl, b1⟩
      obtain ⟨k1, k2, k3, k4, k5⟩ := bcell2 b1
      simp only [gets]
      go_wp2_with fail
      go_region
      all_goals go_wp2_with fail
      refine bodyPost_ret (v := tupU (Leb.val l, q, 0, 0)) (by simp [results, Tryd.results27, go_sem, k1, k2, k5, tupU]) rfl ⟨rfl, below_tail b1⟩

/- What the two shifts make, for each number of bytes. -/
theorem ext_1 {V X : Int} (h0 : 0 ≤ V) (h1 : V < 128) (h : X = Leb.ext (7 * 1) V) (_hb : -2147483648 ≤ X ∧ X ≤ 2147483647) : wrap32 (wrap64 (V * 144115188075855872) / 144115188075855872) = X := by
  have e : X = if 64 ≤ V then V - 128 else V := h
  unfold wrap32 wrap64
  split at e <;> omega
theorem ext_2 {V X : Int} (h0 : 0 ≤ V) (h1 : V < 16384) (h : X = Leb.ext (7 * 2) V) (_hb : -2147483648 ≤ X ∧ X ≤ 2147483647) : wrap32 (wrap64 (V * 1125899906842624) / 1125899906842624) = X := by
  have e : X = if 8192 ≤ V then V - 16384 else V := h
  unfold wrap32 wrap64
  split at e <;> omega
theorem ext_3 {V X : Int} (h0 : 0 ≤ V) (h1 : V < 2097152) (h : X = Leb.ext (7 * 3) V) (_hb : -2147483648 ≤ X ∧ X ≤ 2147483647) : wrap32 (wrap64 (V * 8796093022208) / 8796093022208) = X := by
  have e : X = if 1048576 ≤ V then V - 2097152 else V := h
  unfold wrap32 wrap64
  split at e <;> omega
theorem ext_4 {V X : Int} (h0 : 0 ≤ V) (h1 : V < 268435456) (h : X = Leb.ext (7 * 4) V) (_hb : -2147483648 ≤ X ∧ X ≤ 2147483647) : wrap32 (wrap64 (V * 68719476736) / 68719476736) = X := by
  have e : X = if 134217728 ≤ V then V - 268435456 else V := h
  unfold wrap32 wrap64
  split at e <;> omega
theorem ext_5 {V X : Int} (h0 : 0 ≤ V) (h1 : V < 34359738368) (h : X = Leb.ext (7 * 5) V) (_hb : -2147483648 ≤ X ∧ X ≤ 2147483647) : wrap32 (wrap64 (V * 536870912) / 536870912) = X := by
  have e : X = if 17179869184 ≤ V then V - 34359738368 else V := h
  unfold wrap32 wrap64
  split at e <;> omega

end Go.Proofs.YtdlfmchpaohoaaaDoor
