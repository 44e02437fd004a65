/- gimletref01.parts, sum: contracts. -/
import Derived.Test.YtdlfmchpaohoaaaDoorGather
namespace Go.Proofs.YtdlfmchpaohoaaaDoor
open Go.RowKit

theorem Tryd.infoI64 : (Tryd.prog.info? 2).map (fun i => (i.zero, i.size, i.bytes)) = some (some (.int .i64 0), 1, 8) := by kernel_rfl

def lastAny (_ : Int) : Bool := true

/-- What parts tells: the parts, in memory of the call's own, and the place behind; or nothing, and the fault. -/
def PartsOut (w : World) (r : Option (List Int) × Int) (e : Ending) (w' : World) : Prop :=
  Below w.heap.size w w' ∧ match r with
  | (some l, q) => ∃ v, e = .returned (.tuple #[v, .int .i64 q, .agg #[.int .i64 0, .int .i64 0]]) ∧ Owns 2 .i64 w.heap.size w' v l
  | (none, p) => e = .returned (.tuple #[.slice none 0 0, .int .i64 0, .agg #[.int .i64 4, .int .i64 p]])

/-- Seen from ahead of the result's variable, which is written at the end. -/
theorem bend {w w1 : World} {o : Obj} {i j : Nat} {u u' : Value} (h : Below (w.heap.size + 1) (w.alloc o) w1) : Below w.heap.size w ((w1.setCell ⟨w.heap.size, i, none⟩ u).setCell ⟨w.heap.size, j, none⟩ u') :=
  ((((Below.refl _ _).alloc (Nat.le_refl _) _).trans (h.mono (by omega))).setCell (p := ⟨w.heap.size, i, none⟩) (Nat.le_refl _) _).setCell (p := ⟨w.heap.size, j, none⟩) (Nat.le_refl _) _

/-- What is owned from the next block on stays owned while a cell ahead of it is written. -/
theorem Owns.setNew {E : TypeId} {k : IntKind} {B C : Nat} {w w0 : World} {v : Value} {xs : List Int} (h : Owns E k B w v xs) (ho : Owns E k (C + 1) w0 v xs) (i : Nat) (u : Value) : Owns E k B (w.setCell ⟨C, i, none⟩ u) v xs := by
  obtain ⟨h1, h2⟩ := h
  refine ⟨h1, ?_⟩
  rcases h2 with h2 | ⟨g, cap, cur, hv, hg, hh, r⟩
  · exact .inl h2
  · have hgC : C + 1 ≤ g := (ho.lt g (by rw [hv]; rfl)).1
    exact .inr ⟨g, cap, cur, hv, hg, by rw [Below.heap_setCell _ _ _ _ (by simp only; omega)]; exact hh, r⟩

theorem bnew {w w1 : World} {o : Obj} (h : Below (w.heap.size + 1) (w.alloc o) w1) : Below (w.alloc o).heap.size (w.alloc o) w1 := by rw [World.size_alloc]; exact h

theorem parts_out (at_ : Int) (v : Value) (bs : List Int) (w : World) (hv : Sees .u8 w v bs) (h : at_ < 0 ∨ (bs.length : Int) < at_) :
    Calls Tryd.prog 39 #[v, .int .i64 at_] w fun e w' => e = .returned (.tuple #[.slice none 0 0, .int .i64 0, .agg #[.int .i64 5, .int .i64 0]]) ∧ Below w.heap.size w w' := by
  obtain ⟨A, cap, rfl, hc1, hc2, hcells⟩ := hv
  clear hcells
  by_cases h0 : at_ < 0
  · go_enter Tryd.func39, Tryd.ntmps39
    go_wp2
    go_returns
    exact ⟨rfl, (Below.refl _ _).alloc (Nat.le_refl _) _⟩
  · have h1 : (bs.length : Int) < at_ := by omega
    clear h
    go_enter Tryd.func39, Tryd.ntmps39
    go_wp2
    go_returns
    exact ⟨rfl, (Below.refl _ _).alloc (Nat.le_refl _) _⟩

set_option maxHeartbeats 1000000 in
theorem parts_any (v : Value) (bs : List Int) (a : Nat) (w : World) (hv : Sees .u8 w v bs) (hb : Byt bs) (ha : a ≤ bs.length) (hm : bs.length ≤ 140737488351232) :
    Calls Tryd.prog 39 #[v, .int .i64 a] w fun e w' => PartsOut w (Leb.rd lastAny 4 (bs.drop a) a) e w' := by
  obtain ⟨i0, hi, hz0, hz1, hz2⟩ := info_parts Tryd.infoI64
  obtain ⟨A, cap, rfl, hc1, hc2, hcells⟩ := hv
  have HC := Lib.hid hcells; clear hcells
  have HB := Lib.hid hb; clear hb
  go_enter Tryd.func39, Tryd.ntmps39
  go_wp2
  go_loopw [7, 8] (fun o c wr => ∃ (i : Nat) (acc : List Int), Leb.AtG lastAny bs a i acc ∧ Owns 2 .i64 (w.heap.size + 1) wr o acc ∧ c = .int .i64 ((a + i : Nat) : Int) ∧ Below (w.heap.size + 1) (w.alloc (.cells #[.int .i64 0, .int .i64 0] 27)) wr ∧ w.heap.size + 1 ≤ wr.heap.size)
    (fun _ c _ => bs.length - (intOf c).toNat)
  case atStart => exact ⟨0, [], Leb.AtG.start _ ha, Owns.nil _ _ _ _, rfl, Below.refl _ _, by simp⟩
  case round =>
    obtain ⟨i, acc, hat, hown, rfl, hbel, hsz⟩ := hrel
    have hi4 := hat.le
    have hal := hat.len
    have HAL := Lib.hid hal; clear hal
    obtain ⟨f0, f1, f2, f3, f4⟩ := bcell2 (bnew hbel)
    by_cases hs : bs.length ≤ a + i
    · go_wp2_with fail
      refine bodyPost_ret (v := .tuple #[.slice none 0 0, .int .i64 0, .agg #[.int .i64 4, .int .i64 bs.length]]) (by simp [results, Tryd.results39, go_sem, f0, f1]) rfl ⟨bend hbel, ?_⟩
      rw [hat.short hs]
    · have hlt : a + i < bs.length := by omega
      obtain ⟨b, off, rfl, hcell⟩ := HC.out (by intro e; subst e; simp at hlt)
      obtain ⟨c, hc⟩ : ∃ c, c = bs[a + i] := ⟨_, rfl⟩
      have hb := HB.out _ (List.getElem_mem hlt)
      have hx0 := hcell (a + i) hlt
      have HCE := Lib.hid hcell; clear hcell
      rw [← hc] at hb hx0
      have Hc := Lib.hid hc; clear hc
      have hbl : b < w.heap.size := World.block_lt_of_cell? w _ hx0
      have hx : wr.cell? ⟨b, off + (a + i), none⟩ = some (.int .u8 c) := (hbel.cell (p := ⟨b, off + (a + i), none⟩) (by simp only; omega)).trans (cellA hx0 _)
      have hlen : acc.length + 1 ≤ 5 := by rw [HAL.out]; omega
      by_cases h4 : i = 4
      · subst h4
        have hne : ((acc.length : Int) + 1 == 5) = true := by rw [beq_iff_eq, HAL.out]; rfl
        by_cases h128 : c < 128
        · have hge : ¬ 128 ≤ c := by omega
          go_wp2_with (at_builtin; refine app_own Tryd.underlying64 hi hz0 hz1 hz2 rfl _ _ rfl rfl rfl hown hbel hsz (by omega) (by unfold maxLen; omega) ?_; intro v1 w1 o1 b1 z1; obtain ⟨A1, k1, rfl, _, _⟩ := o1.sees.len; have hx1 : w1.cell? ⟨b, off + (a + 4), none⟩ = some (.int .u8 c) := (b1.cell (p := ⟨b, off + (a + 4), none⟩) (by simp only; omega)).trans (cellA hx0 _); have bq1 := bnew b1; obtain ⟨q0, q1, q2, q3, q4⟩ := bcell2 bq1)
          refine bodyPost_ret (v := .tuple #[.slice A1 (acc ++ [c % 128]).length k1, .int .i64 (a + 4 + 1), .agg #[.int .i64 0, .int .i64 0]]) (by simp [results, Tryd.results39, go_sem, q0, q1]) rfl ⟨bend b1, ?_⟩
          have hd := hat.done hlt (by rw [← Hc.out]; omega) (fun _ => rfl)
          have hcm : c % 128 = c := by omega
          rw [hcm] at o1 ⊢
          rw [← Hc.out] at hd
          rw [hd]
          exact ⟨_, rfl, Owns.setNew (Owns.setNew (o1.mono (by omega)) o1 _ _) o1 _ _⟩
        · go_wp2_with (at_builtin; refine app_own Tryd.underlying64 hi hz0 hz1 hz2 rfl _ _ rfl rfl rfl hown hbel hsz (by omega) (by unfold maxLen; omega) ?_; intro v1 w1 o1 b1 z1; obtain ⟨A1, k1, rfl, _, _⟩ := o1.sees.len; have hx1 : w1.cell? ⟨b, off + (a + 4), none⟩ = some (.int .u8 c) := (b1.cell (p := ⟨b, off + (a + 4), none⟩) (by simp only; omega)).trans (cellA hx0 _); have bq1 := bnew b1; obtain ⟨q0, q1, q2, q3, q4⟩ := bcell2 bq1)
          refine bodyPost_ret (v := .tuple #[.slice none 0 0, .int .i64 0, .agg #[.int .i64 4, .int .i64 (a + 4)]]) (by simp [results, Tryd.results39, go_sem, q0, q1]) rfl ⟨bend b1, ?_⟩
          rw [hat.bad hlt (.inl (by rw [← Hc.out]; omega))]
      · have hne : ((acc.length : Int) + 1 == 5) = false := by rw [beq_eq_false_iff_ne, HAL.out]; omega
        by_cases h128 : c < 128
        · go_wp2_with (at_builtin; refine app_own Tryd.underlying64 hi hz0 hz1 hz2 rfl _ _ rfl rfl rfl hown hbel hsz (by omega) (by unfold maxLen; omega) ?_; intro v1 w1 o1 b1 z1; obtain ⟨A1, k1, rfl, _, _⟩ := o1.sees.len; have hx1 : w1.cell? ⟨b, off + (a + i), none⟩ = some (.int .u8 c) := (b1.cell (p := ⟨b, off + (a + i), none⟩) (by simp only; omega)).trans (cellA hx0 _); have bq1 := bnew b1; obtain ⟨q0, q1, q2, q3, q4⟩ := bcell2 bq1)
          refine bodyPost_ret (v := .tuple #[.slice A1 (acc ++ [c % 128]).length k1, .int .i64 (a + i + 1), .agg #[.int .i64 0, .int .i64 0]]) (by simp [results, Tryd.results39, go_sem, q0, q1]) rfl ⟨bend b1, ?_⟩
          have hd := hat.done hlt (by rw [← Hc.out]; omega) (fun _ => rfl)
          have hcm : c % 128 = c := by omega
          rw [hcm] at o1 ⊢
          rw [← Hc.out] at hd
          rw [hd]
          exact ⟨_, rfl, Owns.setNew (Owns.setNew (o1.mono (by omega)) o1 _ _) o1 _ _⟩
        · go_wp2_with (at_builtin; refine app_own Tryd.underlying64 hi hz0 hz1 hz2 rfl _ _ rfl rfl rfl hown hbel hsz (by omega) (by unfold maxLen; omega) ?_; intro v1 w1 o1 b1 z1; obtain ⟨A1, k1, rfl, _, _⟩ := o1.sees.len; have hx1 : w1.cell? ⟨b, off + (a + i), none⟩ = some (.int .u8 c) := (b1.cell (p := ⟨b, off + (a + i), none⟩) (by simp only; omega)).trans (cellA hx0 _); have bq1 := bnew b1; obtain ⟨q0, q1, q2, q3, q4⟩ := bcell2 bq1)
          refine ⟨⟨_, _, _, _, ⟨i + 1, _, hat.step hlt (by rw [← Hc.out]; omega) (by omega), by rw [← Hc.out]; rw [List.length_append] at o1; exact o1, by go_num⟩, rfl, rfl, rfl, rfl⟩, by simp only [intOf]; omega⟩

end Go.Proofs.YtdlfmchpaohoaaaDoor
