/- gimletlaw27.awake: contract. -/
import Derived.Test.YtgohnekaolgblaaWdAwakeNum
import Derived.Test.YtgohnekaolgblaaRdRead
import Derived.Test.YtgohnekaolgblaaTrSame
import Derived.Deep.RegionHeld3
namespace Go.Proofs.Ytgohnekaolgblaa
open Go.RowKit

theorem Wd.read_pair : Wd.read Wd.pairW 16 16 = (Wd.pairT, 0) := by
  unfold Wd.read
  rw [if_neg (by decide), if_neg (by decide), Wd.rd_pair]
  rfl
theorem Wd.pairW_range : ∀ x ∈ Wd.pairW, 0 ≤ x ∧ x < 4294967296 := by decide

theorem lit5 (w : World) : Sees .u32 (w.alloc (.cells #[.int .u32 65553, .int .u32 11, .int .u32 28, .int .u32 21, .int .u32 25185] 22)) (.slice (some ⟨w.heap.size, 0, none⟩) 5 5) Wd.pairW :=
  Sees.lit .u32 w 22 Wd.pairW 5 (by decide) (by unfold maxLen; decide)

theorem sameCells_true (va vb : Value) (xs : List Int) (w : World) (ha : Sees .u32 w va xs) (hb : Sees .u32 w vb xs) :
    Calls Try.prog 21 #[va, vb] w fun e w' => e = .returned (.bool true) ∧ Below w.heap.size w w' := by
  have h := sameCells va vb xs xs w ha hb
  rwa [decide_eq_true rfl] at h
theorem sameValue_true (t : Tr) (S S' : Nat → Nat → Prop) (w : World) (v v' : Value) (hv : Tr.at S w t v) (hv' : Tr.at S' w t v') (hS : ∀ b off, S b off → b < w.heap.size) (hS' : ∀ b off, S' b off → b < w.heap.size) :
    Calls Try.prog 36 #[v, v'] w fun e w' => e = .returned (.bool true) ∧ Below w.heap.size w w' := by
  have h := sameValue t t (List.mem_singleton.2 rfl) t S S' w v v' hv hv' hS hS'
  rwa [(Tr.same_iff t t).2 rfl] at h

set_option maxHeartbeats 2000000 in
theorem awake27 (w : World) : Calls Try.prog 37 #[] w fun e w' => e = .returned (.bool true) ∧ Below w.heap.size w w' := by
  have HL := Lib.hid fun (v : Value) (w : World) (ht : Tr.at (fun b _ => b < w.heap.size) w Wd.pairT v) => (Wd.lay_pair ▸ wdLay Wd.pairT v 16 w ht (by decide) (by decide) (by omega) (by omega) : Calls Try.prog 32 #[v, .int .u32 16] w (LayPost w (Wd.pairW, 16, 0)))
  have HR := Lib.hid fun (v : Value) (w : World) (hs : Sees .u32 w v Wd.pairW) => (Wd.read_pair ▸ wdRead v Wd.pairW 16 16 w hs (by omega) (by omega) (by omega) Wd.pairW_range : Calls Try.prog 38 #[v, .int .u32 16, .int .u32 16] w (ReadPost w (Wd.pairT, 0)))
  have HO : ∀ w, Calls Try.prog 44 #[.int .u32 11] w fun e w' => e = .returned (.tuple #[.int .i64 5, .bool true]) ∧ w' = w := fun w => by
    have h := wdOf 11 w (by omega) (by omega)
    rw [show Wd.of 11 = (5, true) by decide] at h
    exact h
  replace HO := Lib.hid HO
  go_enter Try.func37, Try.ntmps37
  go_wp2_with fail
  refine (wdPair _).mono ?_
  rintro _ w1 ⟨v1, rfl, at1, b1⟩
  have at1' := Tr.at_mono at1 (S' := fun b _ => b < w1.heap.size) (fun b off h => h.2)
  obtain ⟨A1, k1, rfl, _, _, _⟩ := Tr.at_agg at1
  replace at1' := Lib.hid at1'
  have B1 := Lib.hid b1
  clear at1 b1
  go_wp2_with fail
  refine (HL.out _ _ at1'.out).mono ?_
  rintro _ w2 ⟨o2, rfl, ow2, b2⟩
  obtain ⟨A2, k2, rfl, _, _⟩ := ow2.sees.len
  rw [show Wd.pairW.length = 5 from rfl] at ow2 ⊢
  have B2 := Lib.hid (B.call B1.out b2)
  have S2 := Lib.hid ow2.sees
  clear ow2 b2 B1 at1'
  go_wp2_with fail
  refine (HR.out _ _ (lit5 _)).mono ?_
  rintro _ w3 ⟨v3, rfl, at3, b3⟩
  have at3' := Tr.at_mono at3 (S' := fun b _ => b < w3.heap.size) (fun b off h => h.2.1)
  obtain ⟨A3, k3, rfl, q1, q2, _⟩ := Tr.at_agg at3
  have B3 := Lib.hid (B.call (B.alloc B2.out _) b3)
  have S3 := Lib.hid ((S2.out.alloc _).below b3 (Nat.le_refl _))
  replace at3' := Lib.hid at3'
  clear at3 b3 B2 S2
  go_wp2_with fail
  refine (HO.out _).mono ?_
  rintro _ w4 ⟨rfl, hw4⟩
  subst hw4
  go_wp2_with fail
  have v4 := VB.new w3 58 #[.int .i64 Wd.pairT.k, .int .i64 Wd.pairT.n, .string Wd.pairT.s, .slice A3 Wd.pairT.l.length k3]
  have x0 := v4.cell 0
  have x1 := v4.cell 1
  have x2 := v4.cell 2
  have x3 := v4.cell 3
  have lx := v4.lt
  simp only [List.getElem?_toArray, List.getElem?_cons_zero, List.getElem?_cons_succ] at x0 x1 x2 x3
  have T4 := fun w' (hb : Below (w3.alloc (.cells #[.int .i64 Wd.pairT.k, .int .i64 Wd.pairT.n, .string Wd.pairT.s, .slice A3 Wd.pairT.l.length k3] 58)).heap.size (w3.alloc (.cells #[.int .i64 Wd.pairT.k, .int .i64 Wd.pairT.n, .string Wd.pairT.s, .slice A3 Wd.pairT.l.length k3] 58)) w') => Tr.at_below (Tr.at_alloc at3'.out (.cells #[.int .i64 Wd.pairT.k, .int .i64 Wd.pairT.n, .string Wd.pairT.s, .slice A3 Wd.pairT.l.length k3] 58)) hb (fun b off h => by have h' : b < w3.heap.size := h; simp only [World.size_alloc]; omega)
  have T5 := fun w' (hb : Below (w3.alloc (.cells #[.int .i64 Wd.pairT.k, .int .i64 Wd.pairT.n, .string Wd.pairT.s, .slice A3 Wd.pairT.l.length k3] 58)).heap.size (w3.alloc (.cells #[.int .i64 Wd.pairT.k, .int .i64 Wd.pairT.n, .string Wd.pairT.s, .slice A3 Wd.pairT.l.length k3] 58)) w') => (by have := hb.size; simp at this; omega : w3.heap.size < w'.heap.size)
  have S4 := Lib.hid (S3.out.alloc (.cells #[.int .i64 Wd.pairT.k, .int .i64 Wd.pairT.n, .string Wd.pairT.s, .slice A3 Wd.pairT.l.length k3] 58))
  replace T4 := Lib.hid T4
  replace T5 := Lib.hid T5
  have B4 := Lib.hid (B.alloc B3.out (.cells #[.int .i64 Wd.pairT.k, .int .i64 Wd.pairT.n, .string Wd.pairT.s, .slice A3 Wd.pairT.l.length k3] 58))
  clear v4 S3 B3 at3'
  generalize w3.alloc (.cells #[.int .i64 Wd.pairT.k, .int .i64 Wd.pairT.n, .string Wd.pairT.s, .slice A3 Wd.pairT.l.length k3] 58) = w4 at *
  have T6 : ∀ w5 w6, Below (w4.alloc (.cells #[.int .u32 65553, .int .u32 11, .int .u32 28, .int .u32 21, .int .u32 25185] 22)).drew.heap.size (w4.alloc (.cells #[.int .u32 65553, .int .u32 11, .int .u32 28, .int .u32 21, .int .u32 25185] 22)).drew w5 → Below w5.heap.size w5 w6 → Below w4.heap.size w4 w6 := fun w5 w6 b5 b6 => ((B.alloc (B.refl w4) _).drew.trans (b5.mono (by simp))).trans (b6.mono (by have := b5.size; simp at this; omega))
  have T7 : ∀ w5 w6, Below (w4.alloc (.cells #[.int .u32 65553, .int .u32 11, .int .u32 28, .int .u32 21, .int .u32 25185] 22)).drew.heap.size (w4.alloc (.cells #[.int .u32 65553, .int .u32 11, .int .u32 28, .int .u32 21, .int .u32 25185] 22)).drew w5 → Below w5.heap.size w5 w6 → ∀ b (_ : Nat), b < w3.heap.size → b < w6.heap.size := fun w5 w6 b5 b6 b _ h => by have := T5.out _ (T6 w5 w6 b5 b6); omega
  replace T6 := Lib.hid T6
  replace T7 := Lib.hid T7
  go_region_held3 (fun w' => w'.cell? ⟨w3.heap.size, 0, none⟩ = some (.int .i64 Wd.pairT.k) ∧ w'.cell? ⟨w3.heap.size, 1, none⟩ = some (.int .i64 Wd.pairT.n) ∧ w'.cell? ⟨w3.heap.size, 2, none⟩ = some (.string Wd.pairT.s) ∧ w'.cell? ⟨w3.heap.size, 3, none⟩ = some (.slice A3 Wd.pairT.l.length k3))
    (first
      | (go_split_ands; exact ⟨cellK b7 (by assumption), cellK b7 (by assumption), cellK b7 (by assumption), cellK b7 (by assumption)⟩)
      | (go_split_ands; exact ⟨cellK b6 (by assumption), cellK b6 (by assumption), cellK b6 (by assumption), cellK b6 (by assumption)⟩)
      | (go_split_ands; exact ⟨cellK b5 (by assumption), cellK b5 (by assumption), cellK b5 (by assumption), cellK b5 (by assumption)⟩)
      | (go_split_ands; exact ⟨cellA (by assumption) _, cellA (by assumption) _, cellA (by assumption) _, cellA (by assumption) _⟩)
      | go_keep)
    ((first
      | (go_at_call 79; with_reducible refine (wdPair _).mono ?_; rintro _ w6 ⟨v6, rfl, at6, b6⟩; obtain ⟨A6, k6, rfl, _, _, _⟩ := Tr.at_agg at6)
      | (go_at_call 21; with_reducible refine (sameCells_true _ _ Wd.pairW _ (S4.out.alloc _).drew (lit5 _).drew).mono ?_; rintro _ w5 ⟨rfl, b5⟩)
      | (go_at_call 36; with_reducible refine (sameValue_true Wd.pairT _ _ _ _ _ (T4.out _ (T6.out w5 w6 b5 b6)) at6 (T7.out w5 w6 b5 b6) (fun b off h => h.2)).mono ?_; rintro _ w7 ⟨rfl, b7⟩)))
  all_goals go_wp2_with fail
  all_goals go_returns
  all_goals exact ⟨rfl, B.call (B4.out.trans ((T6.out w5 w6 b5 b6).mono B4.out.size)) b7⟩

end Go.Proofs.Ytgohnekaolgblaa
