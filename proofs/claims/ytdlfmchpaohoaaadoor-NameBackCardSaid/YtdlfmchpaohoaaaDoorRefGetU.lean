/- gimletref01.sum, GetU: contracts. -/
import Derived.Test.YtdlfmchpaohoaaaDoorRefParts
import Derived.Test.YtdlfmchpaohoaaaDoorRefPlain
import Derived.Deep.RegionHeld3
namespace Go.Proofs.YtdlfmchpaohoaaaDoor
open Go.RowKit

theorem pow128 (n : Nat) (h : n ≤ 5) : (128 : Int) ^ n ≤ 34359738368 := by
  rcases (show n = 0 ∨ n = 1 ∨ n = 2 ∨ n = 3 ∨ n = 4 ∨ n = 5 by omega) with rfl | rfl | rfl | rfl | rfl | rfl <;> decide

set_option maxHeartbeats 1000000 in
theorem sum_any (v : Value) (l : List Int) (w : World) (hv : Sees .i64 w v l) (hp : Leb.Parts l) (h5 : l.length ≤ 5) :
    Calls Tryd.prog 40 #[v] w fun e w' => e = .returned (.int .i64 (Leb.val l)) ∧ w = w' := by
  obtain ⟨A, cap, rfl, hc1, hc2, hcells⟩ := hv
  have HC := Lib.hid hcells; clear hcells
  have HP := Lib.hid hp; clear hp
  go_enter Tryd.func40, Tryd.ntmps40
  go_wp2
  go_loop [3, 4] (fun n i => ∃ (j : Nat) (z : Int), j ≤ l.length ∧ z + 1 = j ∧ n = .int .i64 (Leb.val (l.drop j)) ∧ i = .int .i64 z) (fun _ i => (intOf i + 1).toNat)
  case atStart => exact ⟨l.length, (l.length : Int) - 1, Nat.le_refl _, by omega, by simp [Leb.val], rfl⟩
  case round =>
    obtain ⟨j, z, hj, hz, rfl, rfl⟩ := hrel
    rcases j with _ | m
    · have hz' : z = -1 := by omega
      subst hz'
      clear hz
      go_wp2
      go_ret
      exact ⟨by simp, rfl⟩
    · have hz' : z = (m : Int) := by omega
      subst hz'
      clear hz
      have hm : m < l.length := by omega
      obtain ⟨b, off, rfl, hcell⟩ := HC.out (by intro e; subst e; simp at hm)
      obtain ⟨c, hc⟩ : ∃ c, c = l[m] := ⟨_, rfl⟩
      have hx := hcell m hm
      have HCE := Lib.hid hcell; clear hcell
      have hcp := HP.out _ (List.getElem_mem hm)
      rw [← hc] at hx hcp
      have hd : l.drop m = c :: l.drop (m + 1) := by rw [hc]; exact List.drop_eq_getElem_cons hm
      have hpd : Leb.Parts (l.drop (m + 1)) := fun x hx => HP.out x (List.mem_of_mem_drop hx)
      have hv0 := Leb.val_nonneg hpd
      have hv1 := Leb.val_lt hpd
      have hv2 : Leb.val (l.drop (m + 1)) < 268435456 * 128 := by
        have := pow128 (l.drop (m + 1)).length (by rw [List.length_drop]; omega)
        omega
      have HD := Lib.hid hd; clear hd hc hpd hv1
      go_wp2_with fail
      refine ⟨⟨m, (m : Int) - 1, by omega, by omega, ?_, by go_num⟩, by simp only [intOf]; omega⟩
      rw [HD.out]
      simp only [Leb.val]
      congr 1
      omega

theorem cellD0 (w : World) (x y : Value) (T : TypeId) (g : Nat) (hg : g = w.heap.size) : (w.alloc (.cells #[x, y] T)).drew.cell? ⟨g, 0, none⟩ = some x := by subst hg; exact cellN0 w x y T
theorem cellD1 (w : World) (x y : Value) (T : TypeId) (g : Nat) (hg : g = w.heap.size) : (w.alloc (.cells #[x, y] T)).drew.cell? ⟨g, 1, none⟩ = some y := by subst hg; exact cellN1 w x y T

theorem below_tail' {w w1 : World} {o o' : Obj} {u u' : Value} {i j : Nat} (b1 : Below (w.alloc o).heap.size (w.alloc o) w1) :
    Below w.heap.size w (((w1.setCell ⟨w.heap.size, i, none⟩ u).setCell ⟨w.heap.size, j, none⟩ u').alloc o') := by
  have hs := b1.size
  simp only [World.size_alloc] at hs
  have h1 : Below w.heap.size w w1 := ((Below.refl _ _).alloc (Nat.le_refl _) _).trans (b1.mono (by simp))
  exact ((h1.setCell (p := ⟨w.heap.size, i, none⟩) (Nat.le_refl _) _).setCell (p := ⟨w.heap.size, j, none⟩) (Nat.le_refl _) _).alloc (by simp; omega) _

/-- The call of parts: one contract for both ways. -/
theorem refGetU_err (v : Value) (bs : List Int) (at_ : Int) (w : World) (e0 p0 : Int) (he : ¬ e0 = 0)
    (hc : ∀ w : World, Sees .u8 w v bs → Calls Tryd.prog 39 #[v, .int .i64 at_] w fun e w' => e = .returned (.tuple #[.slice none 0 0, .int .i64 0, .agg #[.int .i64 e0, .int .i64 p0]]) ∧ Below w.heap.size w w') (hv : Sees .u8 w v bs) :
    Calls Tryd.prog 28 #[v, .int .i64 at_] w fun e w' => e = .returned (tupU (0, 0, e0, p0)) ∧ Below w.heap.size w w' := by
  have HC := Lib.hid hc; clear hc
  have HV := Lib.hid hv; clear hv
  go_enter Tryd.func28, Tryd.ntmps28
  go_wp2_with fail
  refine (HC.out _ (HV.out.alloc _)).mono ?_
  rintro e w1 ⟨rfl, b1⟩
  obtain ⟨k1, k2, k3, k4, k5⟩ := bcell2 b1
  go_wp2_with fail
  go_region
  all_goals go_wp2_with fail
  refine bodyPost_ret (v := tupU (0, 0, e0, p0)) (by simp [results, Tryd.results28, go_sem, k1, k2, k5, tupU]) rfl ⟨rfl, below_tail b1⟩

set_option maxHeartbeats 1000000 in
theorem refGetU_some (v : Value) (bs : List Int) (at_ : Int) (w : World) (l : List Int) (q : Int) (hp : Leb.Parts l) (h5 : l.length ≤ 5) (h1 : 1 ≤ l.length) (hq : 0 < q) (hq2 : q ≤ 140737488351232)
    (hc : ∀ w : World, Sees .u8 w v bs → Calls Tryd.prog 39 #[v, .int .i64 at_] w fun e w' => PartsOut w (some l, q) e w') (hv : Sees .u8 w v bs) :
    Calls Tryd.prog 28 #[v, .int .i64 at_] w fun e w' => e = .returned (tupU (Leb.tell Leb.val (if l.length = 5 ∧ 15 < l.getLastD 0 then (none, q - 1) else (some l, q)))) ∧ Below w.heap.size w w' := by
  have HC := Lib.hid hc; clear hc
  have HV := Lib.hid hv; clear hv
  have HP := Lib.hid hp; clear hp
  by_cases hl : l.length = 5
  · have e4 := Leb.last4 hl
    have hb5 : ((l.length : Int) == 5) = true := by rw [beq_iff_eq]; omega
    by_cases h15 : 15 < l[4]
    · rw [if_pos ⟨hl, by rw [e4]; exact h15⟩]
      simp only [Leb.tell]
      have E4 := Lib.hid e4; clear e4
      go_enter Tryd.func28, Tryd.ntmps28
      go_wp2_with fail
      refine (HC.out _ (HV.out.alloc _)).mono ?_
      rintro e w1 ⟨b1, v1, rfl, o1⟩
      obtain ⟨k1, k2, k3, k4, k5⟩ := bcell2 b1
      obtain ⟨A1, c1, rfl, _, _⟩ := o1.sees.len
      obtain ⟨b, off, rfl, hcell⟩ := o1.sees.at_ (by omega)
      have hx := hcell 4 (by omega)
      clear hcell
      obtain ⟨d, hd⟩ : ∃ d, d = l[4] := ⟨_, rfl⟩
      have hbl : b < w1.heap.size := World.block_lt_of_cell? _ _ hx
      rw [← hd] at hx h15
      clear hd
      have h4i : (4 : Int) < (l.length : Int) := by omega
      clear E4 hl
      go_wp2_with fail
      refine bodyPost_ret (v := tupU (0, 0, 4, q - 1)) (by simp [results, Tryd.results28, go_sem, k1, k2, k5, tupU]) rfl ⟨rfl, below_tail' b1⟩
    · have hnn : ¬ (l.length = 5 ∧ 15 < l.getLastD 0) := by rintro ⟨_, h⟩; rw [e4] at h; exact h15 h
      have hvl := Leb.val_fits HP.out h5 h1 hnn
      rw [if_neg hnn]
      clear hnn
      simp only [Leb.tell]
      have E4 := Lib.hid e4; clear e4
      go_enter Tryd.func28, Tryd.ntmps28
      go_wp2_with fail
      refine (HC.out _ (HV.out.alloc _)).mono ?_
      rintro e w1 ⟨b1, v1, rfl, o1⟩
      obtain ⟨k1, k2, k3, k4, k5⟩ := bcell2 b1
      obtain ⟨A1, c1, rfl, _, _⟩ := o1.sees.len
      obtain ⟨b, off, rfl, hcell⟩ := o1.sees.at_ (by omega)
      have hx := hcell 4 (by omega)
      clear hcell
      obtain ⟨d, hd⟩ : ∃ d, d = l[4] := ⟨_, rfl⟩
      have hbl : b < w1.heap.size := World.block_lt_of_cell? _ _ hx
      rw [← hd] at hx h15
      clear hd
      have h4i : (4 : Int) < (l.length : Int) := by omega
      clear E4 hl
      go_wp2_with fail
      have so := Lib.hid o1.sees
      clear o1
      have neF : ¬ w.heap.size = w1.heap.size := by omega
      have neF' : ¬ w1.heap.size = w.heap.size := by omega
      have p0 := cellN0 w1 (.int .i64 0) (.int .i64 0) 27
      have p1 := cellN1 w1 (.int .i64 0) (.int .i64 0) 27
      have r0 := cellA k1 (.cells #[.int .i64 0, .int .i64 0] 27)
      have r1 := cellA k2 (.cells #[.int .i64 0, .int .i64 0] 27)
      have r2 : (w1.alloc (.cells #[.int .i64 0, .int .i64 0] 27)).frozen? ⟨w.heap.size, 0, none⟩ = false := (World.frozen?_alloc_past _ _ _ k5).trans k3
      have r3 : (w1.alloc (.cells #[.int .i64 0, .int .i64 0] 27)).frozen? ⟨w.heap.size, 1, none⟩ = false := (World.frozen?_alloc_past _ _ _ k5).trans k4
      have bW := B.alloc (B.call (B.alloc (B.refl w) (.cells #[.int .i64 0, .int .i64 0] 27)) b1) (.cells #[.int .i64 0, .int .i64 0] 27)
      have sW := so.out.alloc (.cells #[.int .i64 0, .int .i64 0] 27)
      clear k1 k2 k3 k4 b1
      generalize w1.alloc (.cells #[.int .i64 0, .int .i64 0] 27) = W at *
      have SW := Lib.hid sW; clear sW
      go_region_held3 (fun w' => w'.cell? ⟨w1.heap.size, 0, none⟩ = some (.int .i64 0) ∧ w'.cell? ⟨w1.heap.size, 1, none⟩ = some (.int .i64 0)) (first | go_keep)
        ((go_at_call 40; refine (sum_any _ l _ (by first | exact SW.out.drew | exact SW.out) HP.out h5).mono ?_; rintro e w2 ⟨rfl, rfl⟩))
      go_wp2_with fail
      refine bodyPost_ret (v := tupU (Leb.val l, q, 0, 0)) (by simp [results, Tryd.results28, go_sem, r0, r1, tupU, IntWalk.u32_in _ (show 0 ≤ Leb.val l ∧ Leb.val l ≤ 4294967295 by omega)]) rfl ⟨rfl, ?_⟩
      exact ((bW.setCell (p := ⟨w.heap.size, 0, none⟩) (Nat.le_refl _) _).setCell (p := ⟨w.heap.size, 1, none⟩) (Nat.le_refl _) _).drew
  · have hnn : ¬ (l.length = 5 ∧ 15 < l.getLastD 0) := fun h => hl h.1
    have hvl := Leb.val_fits HP.out h5 h1 hnn
    rw [if_neg hnn]
    clear hnn
    simp only [Leb.tell]
    have hb5 : ((l.length : Int) == 5) = false := by rw [beq_eq_false_iff_ne]; omega
    go_enter Tryd.func28, Tryd.ntmps28
    go_wp2_with fail
    refine (HC.out _ (HV.out.alloc _)).mono ?_
    rintro e w1 ⟨b1, v1, rfl, o1⟩
    obtain ⟨k1, k2, k3, k4, k5⟩ := bcell2 b1
    obtain ⟨A1, c1, rfl, _, _⟩ := o1.sees.len
    go_wp2_with fail
    have so := Lib.hid o1.sees
    clear o1
    have neF : ¬ w.heap.size = w1.heap.size := by omega
    have neF' : ¬ w1.heap.size = w.heap.size := by omega
    have p0 := cellN0 w1 (.int .i64 0) (.int .i64 0) 27
    have p1 := cellN1 w1 (.int .i64 0) (.int .i64 0) 27
    have r0 := cellA k1 (.cells #[.int .i64 0, .int .i64 0] 27)
    have r1 := cellA k2 (.cells #[.int .i64 0, .int .i64 0] 27)
    have r2 : (w1.alloc (.cells #[.int .i64 0, .int .i64 0] 27)).frozen? ⟨w.heap.size, 0, none⟩ = false := (World.frozen?_alloc_past _ _ _ k5).trans k3
    have r3 : (w1.alloc (.cells #[.int .i64 0, .int .i64 0] 27)).frozen? ⟨w.heap.size, 1, none⟩ = false := (World.frozen?_alloc_past _ _ _ k5).trans k4
    have bW := B.alloc (B.call (B.alloc (B.refl w) (.cells #[.int .i64 0, .int .i64 0] 27)) b1) (.cells #[.int .i64 0, .int .i64 0] 27)
    have sW := so.out.alloc (.cells #[.int .i64 0, .int .i64 0] 27)
    clear k1 k2 k3 k4 b1
    generalize w1.alloc (.cells #[.int .i64 0, .int .i64 0] 27) = W at *
    have SW := Lib.hid sW; clear sW
    go_region_held3 (fun w' => w'.cell? ⟨w1.heap.size, 0, none⟩ = some (.int .i64 0) ∧ w'.cell? ⟨w1.heap.size, 1, none⟩ = some (.int .i64 0)) (first | go_keep)
      ((go_at_call 40; refine (sum_any _ l _ (by first | exact SW.out.drew | exact SW.out) HP.out h5).mono ?_; rintro e w2 ⟨rfl, rfl⟩))
    go_wp2_with fail
    refine bodyPost_ret (v := tupU (Leb.val l, q, 0, 0)) (by simp [results, Tryd.results28, go_sem, r0, r1, tupU, IntWalk.u32_in _ (show 0 ≤ Leb.val l ∧ Leb.val l ≤ 4294967295 by omega)]) rfl ⟨rfl, ?_⟩
    exact ((bW.setCell (p := ⟨w.heap.size, 0, none⟩) (Nat.le_refl _) _).setCell (p := ⟨w.heap.size, 1, none⟩) (Nat.le_refl _) _).drew

theorem refGetU (v : Value) (bs : List Int) (at_ : Int) (w : World) (hv : Sees .u8 w v bs) (hb : Byt bs) (hm : bs.length ≤ 140737488351232) :
    Calls Tryd.prog 28 #[v, .int .i64 at_] w fun e w' => e = .returned (tupU (Leb.getU bs at_)) ∧ Below w.heap.size w w' := by
  by_cases h : at_ < 0 ∨ (bs.length : Int) < at_
  · have hr : Leb.getU bs at_ = (0, 0, 5, 0) := by unfold Leb.getU; rw [if_pos h]
    rw [hr]
    exact refGetU_err v bs at_ w 5 0 (by decide) (fun w hv => parts_out at_ v bs w hv h) hv
  · obtain ⟨a, rfl⟩ := Int.eq_ofNat_of_zero_le (show 0 ≤ at_ by omega)
    have ha : a ≤ bs.length := by omega
    rw [Leb.getU_of bs a ha]
    have hp := fun (w : World) (hv : Sees .u8 w v bs) => parts_any v bs a w hv hb ha (by omega)
    have hfun : lastAny = fun _ => true := rfl
    rw [hfun] at hp
    generalize hr : Leb.rd (fun _ => true) 4 (bs.drop a) a = r at *
    obtain ⟨_ | l, q⟩ := r
    · exact refGetU_err v bs a w 4 q (by decide) (fun w hv => (hp w hv).mono fun e w' h => ⟨h.2, h.1⟩) hv
    · obtain ⟨i1, i2, i3, i4, i5, i6⟩ := Leb.rd_parts (fun c hc => hb c (List.mem_of_mem_drop hc)) hr
      rw [List.length_drop] at i5
      exact refGetU_some v bs a w l q i1 i3 i2 (by omega) (by omega) hp hv

end Go.Proofs.YtdlfmchpaohoaaaDoor
