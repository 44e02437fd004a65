/- gimletkit.CopyValue, Plain: contracts (printed by wip/gen_copy.py). -/
import Derived.Test.YtgohnekaolgblaaTrRow
import Derived.Test.YtgohnekaolgblaaWdLayAt
import Derived.Deep.RegionLaw
namespace Go.Proofs.Ytgohnekaolgblaa
open Go.RowKit

theorem frzA {w : World} {b o : Nat} {v : Value} (h : w.cell? ⟨b, o, none⟩ = some v) (ob : Obj) : (w.alloc ob).frozen? ⟨b, o, none⟩ = w.frozen? ⟨b, o, none⟩ :=
  World.frozen?_of_block (Below.heap_alloc w ob b (by simpa using World.block_lt_of_cell? w _ h))
theorem grFrz {w w' : World} {r : Option Nat} (hg : w.grownBy w' r) {b o : Nat} {v : Value} (h : w.cell? ⟨b, o, none⟩ = some v) (hne : some b ≠ r) : w'.frozen? ⟨b, o, none⟩ = w.frozen? ⟨b, o, none⟩ :=
  World.frozen?_of_block (hg.block b (by simpa using World.block_lt_of_cell? w _ h) hne)
theorem grCell {w w' : World} {r : Option Nat} (hg : w.grownBy w' r) {b o : Nat} {v : Value} (h : w.cell? ⟨b, o, none⟩ = some v) (hne : some b ≠ r) : w'.cell? ⟨b, o, none⟩ = some v := hg.cell h hne
theorem frzSet (w : World) (b o o' : Nat) {u : Value} : (w.setCell ⟨b, o, none⟩ u).frozen? ⟨b, o', none⟩ = w.frozen? ⟨b, o', none⟩ := by simp
theorem cellFar {w : World} {b b' o o' : Nat} (h : b ≠ b') (u : Value) : (w.setCell ⟨b', o', none⟩ u).cell? ⟨b, o, none⟩ = w.cell? ⟨b, o, none⟩ :=
  World.cell?_of_block (Below.heap_setCell w ⟨b', o', none⟩ u b h)
theorem Tr.length_le (l : List Tr) : l.length ≤ Tr.counts l := by
  induction l with
  | nil => simp [Tr.counts]
  | cons t l ih =>
    have : 1 ≤ t.count := by obtain ⟨k, n, s, l⟩ := t; simp [Tr.count]
    simp only [List.length_cons, Tr.counts]; omega
theorem Tr.count_get (l : List Tr) (i : Nat) (h : i < l.length) : l[i].count ≤ Tr.counts l := by
  have h1 := Tr.counts_take l i h
  have h2 := Tr.counts_le l (i + 1)
  omega

mutual
/-- A tree with numbers in the place of things without fields. -/
def Tr.plain : Tr → Tr
  | .mk k n s l => if k = 3 ∧ l.length = 0 then .mk 1 n ⟨#[]⟩ [] else .mk k n s (Tr.plains l)
def Tr.plains : List Tr → List Tr
  | [] => []
  | t :: l => t.plain :: Tr.plains l
end
theorem Tr.plains_map (l : List Tr) : Tr.plains l = l.map fun t => t.plain := by
  induction l with
  | nil => rfl
  | cons t l ih => simp only [Tr.plains, List.map_cons, ih]

/-- What CopyValue does of these trees. -/
def copyHyp (l : List Tr) : Prop := ∀ t ∈ l, ∀ (S : Nat → Nat → Prop) (w : World) (v : Value), Tr.at S w t v → (∀ b off, S b off → b < w.heap.size) → t.count ≤ 1048576 →
    Calls Try.prog 31 #[v] w fun e w' => ∃ v', e = .returned v' ∧ Tr.at (fun b off => w.heap.size ≤ b ∧ b < w'.heap.size ∧ Fresh w' b off) w' t v' ∧ Below w.heap.size w w'

set_option maxHeartbeats 4000000 in
set_option maxRecDepth 100000 in
theorem copy_list (k : Int) (n : Int) (s : ByteArray) (l : List Tr) (S : Nat → Nat → Prop) (w : World) (v : Value) (HI : Hid (copyHyp l)) (hv : Tr.at S w (.mk k n s l) v) (hS : ∀ b off, S b off → b < w.heap.size) (hcnt : Tr.counts l < 1048576) :
    Calls Try.prog 31 #[v] w fun e w' => ∃ v', e = .returned v' ∧ Tr.at (fun b off => w.heap.size ≤ b ∧ b < w'.heap.size ∧ Fresh w' b off) w' (.mk k n s (l.map fun t => t)) v' ∧ Below w.heap.size w w' := by
  obtain ⟨iV, hiV, hzV, hsV, hbV⟩ := info_parts (show (Try.prog.info? 58).map (fun i => (i.zero, i.size, i.bytes)) = some (some (.agg #[.int .i64 0, .int .i64 0, .string ⟨#[]⟩, .slice none 0 0]), 4, 56) by kernel_rfl)
  rw [Tr.at_mk] at hv
  obtain ⟨A, cap, rfl, hl1, hl2, hl3⟩ := hv
  replace hl3 := Lib.hid hl3
  replace hS := Lib.hid hS
  have hcm := Lib.hid hl2
  unfold maxLen at hl2
  go_enter Try.func31, Try.ntmps31
  go_wp2_with fail
  go_loopw [4] (fun q wr => ∃ (i : Nat) (vL : Value), q = .int .i64 (i : Int) ∧ i ≤ l.length ∧ VB wr w.heap.size 58 #[.int .i64 k, .int .i64 n, .string s, vL] ∧ RowT (w.heap.size + 2) wr vL ((l.take i).map fun t => t) ∧ VB wr (w.heap.size + 1) 58 #[.int .i64 0, .int .i64 0, .string ⟨#[]⟩, .slice none 0 0] ∧ Below w.heap.size w wr ∧ w.heap.size + 2 ≤ wr.heap.size)
    (fun q _ => l.length - (intOf q).toNat)
  case atStart =>
    refine ⟨0, _, rfl, by omega, ?_, RowT.nil _ _, ?_, B.alloc (B.alloc (B.refl w) _) _, by simp⟩
    · exact (VB.new w 58 #[.int .i64 k, .int .i64 n, .string s, .slice none 0 0]).alloc _
    · simpa using VB.new (w.alloc (.cells #[.int .i64 k, .int .i64 n, .string s, .slice none 0 0] 58)) 58 #[.int .i64 0, .int .i64 0, .string ⟨#[]⟩, .slice none 0 0]
  case round =>
    obtain ⟨i, vL, rfl, hi, v5, row5, x5, b5, hz5⟩ := hrel
    obtain ⟨AL, cL, rfl, hcL1, hcL2⟩ := row5.len
    have hlt : ((l.take i).map fun t => t).length = i := by simp; omega
    rw [hlt] at v5 row5 hcL1
    by_cases hil : i < l.length
    · have hne : l ≠ [] := by intro e; subst e; simp at hil
      obtain ⟨b, off, rfl, hsb, hats⟩ := hl3.out hne
      obtain ⟨A1, k1, d0, d1, d2, d3, q1, q2, t1⟩ := Tr.ats_cells hats i hil
      have hbw := hS.out _ _ hsb
      have kc : ∀ o, wr.cell? ⟨b, o, none⟩ = w.cell? ⟨b, o, none⟩ := fun o => b5.cell (p := ⟨b, o, none⟩) hbw
      rw [← kc] at d0 d1 d2 d3
      have t1' := Tr.at_below t1 b5.drew hS.out
      have hcall := HI.out l[i] (List.getElem_mem hil) S wr.drew _ t1' (fun b off h => Nat.lt_of_lt_of_le (hS.out b off h) b5.size) (by have := Tr.count_get l i hil; omega)
      have hlen := Tr.length_le l
      have hbne : b ≠ w.heap.size := by omega
      replace hcall := Lib.hid hcall
      have l3 := v5.cell 3
      have l3f := v5.free 3
      have l3l := v5.lt
      simp at l3
      have hrlt := row5.lt
      have V5 := Lib.hid v5
      have ROW := Lib.hid row5
      have X5 := Lib.hid x5
      have B5 := Lib.hid b5
      replace hrlt := Lib.hid hrlt
      replace hlt := Lib.hid hlt
      clear v5 row5 x5 b5 kc t1 t1' hats hsb
      have haft : ∀ w6, Below wr.drew.heap.size wr.drew w6 → w6.cell? ⟨w.heap.size, 3, none⟩ = some (.slice AL i cL) ∧ w6.frozen? ⟨w.heap.size, 3, none⟩ = false ∧ w.heap.size < w6.heap.size :=
        fun w6 b6 => ⟨(b6.cell (p := ⟨w.heap.size, 3, none⟩) l3l).trans l3, (b6.frozen (p := ⟨w.heap.size, 3, none⟩) l3l).trans l3f, Nat.lt_of_lt_of_le l3l b6.size⟩
      have haft7 : ∀ w6 ob w7, World.cell? w6 ⟨w.heap.size, 3, none⟩ = some (.slice AL i cL) → w6.frozen? ⟨w.heap.size, 3, none⟩ = false → (w6.alloc ob).grownBy w7 (Value.slice AL i cL).ownBlock → w7.cell? ⟨w.heap.size, 3, none⟩ = some (.slice AL i cL) ∧ w7.frozen? ⟨w.heap.size, 3, none⟩ = false :=
        fun w6 ob w7 h1 h2 g7 => ⟨grCell g7 (cellA h1 _) (fun e => by have := (hrlt.out _ e.symm).1; omega), (grFrz g7 (cellA h1 _) (fun e => by have := (hrlt.out _ e.symm).1; omega)).trans ((frzA h1 _).trans h2)⟩
      replace haft := Lib.hid haft
      replace haft7 := Lib.hid haft7
      go_wp2_with fail
      go_region_law
        (first
          | (go_simp; go_at_call 31; with_reducible refine hcall.out.mono ?_; rintro _ w6 ⟨v6, rfl, at6, b6⟩; obtain ⟨A6, k6, rfl, _, _, _⟩ := Tr.at_agg at6; obtain ⟨l36, l35, l37⟩ := haft.out w6 b6)
          | (refine step_app4 (lo := w.heap.size + 2) (lo' := wr.drew.heap.size) Try.underlying56 hiV hzV (by rfl) hsV hbV rfl (.tmp 15) (.tmp 21) rfl rfl rfl (ROW.out.keep b6.size (fun k hk1 hk2 => b6.block k hk2)) at6 hz5 (fun g hg => (hrlt.out g hg).2) (Nat.le_trans hz5 b6.size) (by rw [hlt.out]; omega) (by rw [hlt.out]; unfold maxLen; omega) ?_; intro v7 w7 row7 g7; obtain ⟨A7, k7, rfl, _, _⟩ := row7.len; rw [show (List.map (fun t => t) (List.take i l) ++ [l[i]]).length = i + 1 by (simp; omega)] at row7 ⊢; obtain ⟨l38, l39⟩ := haft7.out w6 _ w7 l36 l35 g7))
      all_goals go_wp2_with fail
      all_goals go_roundw
      all_goals first
        | (simp only [intOf]; omega)
        | (refine ⟨i + 1, .slice A7 (i + 1) k7, rfl, by omega, ?_, ?_, ?_, ?_, ?_⟩
           · have := (((V5.out.call (w := wr.drew) b6).alloc _).grownAny g7 (fun g hg => by have := (hrlt.out g hg).1; omega)).set 3 (.slice A7 (i + 1) k7)
             simpa using this
           · have e : (l.take (i + 1)).map (fun t => t) = (l.take i).map (fun t => t) ++ [l[i]] := by
               rw [List.take_add_one, List.getElem?_eq_getElem hil, List.map_append]; rfl
             rw [e]
             exact row7.keep (by simp [World.setCell]) (fun k hk _ => Below.heap_setCell w7 ⟨w.heap.size, 3, none⟩ _ k (by simp only; omega))
           · exact (((X5.out.call (w := wr.drew) b6).alloc _).grownAny g7 (fun g hg => by have := (hrlt.out g hg).1; omega)).far _ _ (by omega) _
           · exact ((((B5.out.drew.trans (b6.mono B5.out.size)).alloc (by omega) _).grown g7 (by simp; omega) (fun g hg => by have := (hrlt.out g hg).1; omega)).setCell (p := ⟨w.heap.size, 3, none⟩) (by simp) _)
           · have := g7.size; simp [World.setCell] at this ⊢; omega)
    · have hie : i = l.length := by omega
      subst hie
      rw [List.take_length] at row5
      have w0 := v5.cell 0
      have w1 := v5.cell 1
      have w2 := v5.cell 2
      have w3 := v5.cell 3
      have wl := v5.lt
      have x0 := x5.cell 0
      have x1 := x5.cell 1
      have x2 := x5.cell 2
      have x3 := x5.cell 3
      have fx0 := x5.free 0
      have fx1 := x5.free 1
      have fx2 := x5.free 2
      have fx3 := x5.free 3
      have lx := x5.lt
      simp at w0 w1 w2 w3 x0 x1 x2 x3
      have ROW := Lib.hid row5
      have B5 := Lib.hid b5
      clear v5 row5 x5 b5
      go_wp2_with fail
      refine bodyPost_ret (v := .agg #[.int .i64 k, .int .i64 n, .string s, .slice AL l.length cL]) (by simp [results, Try.results31, go_sem, x0, x1, x2, x3]) rfl ⟨_, rfl, ?_, ?_⟩
      · have hrow := ROW.out.keep (w' := (((wr.setCell ⟨w.heap.size + 1, 0, none⟩ (.int .i64 k)).setCell ⟨w.heap.size + 1, 1, none⟩ (.int .i64 n)).setCell ⟨w.heap.size + 1, 2, none⟩ (.string s)).setCell ⟨w.heap.size + 1, 3, none⟩ (.slice AL l.length cL)) (by simp [World.setCell]) (fun k hk _ => (Below.heap_setCell _ _ _ k (by simp only; omega)).trans ((Below.heap_setCell _ _ _ k (by simp only; omega)).trans ((Below.heap_setCell _ _ _ k (by simp only; omega)).trans (Below.heap_setCell _ _ _ k (by simp only; omega)))))
        exact Tr.at_mono (hrow.tree k n s) (fun b off h => ⟨by omega, h.2⟩)
      · exact ((((B5.out.setCell (p := ⟨w.heap.size + 1, 0, none⟩) (by simp) _).setCell (p := ⟨w.heap.size + 1, 1, none⟩) (by simp) _).setCell (p := ⟨w.heap.size + 1, 2, none⟩) (by simp) _).setCell (p := ⟨w.heap.size + 1, 3, none⟩) (by simp) _)

theorem copyValue (t : Tr) : copyHyp [t] := by
  induction t using Tr.ind
  rename_i k n s l ih
  intro t ht S w v hv hS hc
  obtain rfl := List.mem_singleton.1 ht
  have h := copy_list k n s l S w v (Lib.hid fun t ht => ih t ht t (List.mem_singleton.2 rfl)) hv hS (by simp only [Tr.count] at hc; omega)
  rw [List.map_id'] at h
  exact h

/-- What Plain does of these trees. -/
def plainHyp (l : List Tr) : Prop := ∀ t ∈ l, ∀ (S : Nat → Nat → Prop) (w : World) (v : Value), Tr.at S w t v → (∀ b off, S b off → b < w.heap.size) → t.count ≤ 1048576 →
    Calls Try.prog 41 #[v] w fun e w' => ∃ v', e = .returned v' ∧ Tr.at (fun b off => w.heap.size ≤ b ∧ b < w'.heap.size ∧ Fresh w' b off) w' t.plain v' ∧ Below w.heap.size w w'

set_option maxHeartbeats 4000000 in
set_option maxRecDepth 100000 in
theorem plain_list (k : Int) (n : Int) (s : ByteArray) (l : List Tr) (S : Nat → Nat → Prop) (w : World) (v : Value) (HI : Hid (plainHyp l)) (hv : Tr.at S w (.mk k n s l) v) (hS : ∀ b off, S b off → b < w.heap.size) (hcnt : Tr.counts l < 1048576) (_hk : (k == 3) = false) :
    Calls Try.prog 41 #[v] w fun e w' => ∃ v', e = .returned v' ∧ Tr.at (fun b off => w.heap.size ≤ b ∧ b < w'.heap.size ∧ Fresh w' b off) w' (.mk k n s (l.map fun t => t.plain)) v' ∧ Below w.heap.size w w' := by
  obtain ⟨iV, hiV, hzV, hsV, hbV⟩ := info_parts (show (Try.prog.info? 58).map (fun i => (i.zero, i.size, i.bytes)) = some (some (.agg #[.int .i64 0, .int .i64 0, .string ⟨#[]⟩, .slice none 0 0]), 4, 56) by kernel_rfl)
  rw [Tr.at_mk] at hv
  obtain ⟨A, cap, rfl, hl1, hl2, hl3⟩ := hv
  replace hl3 := Lib.hid hl3
  replace hS := Lib.hid hS
  have hcm := Lib.hid hl2
  unfold maxLen at hl2
  go_enter Try.func41, Try.ntmps41
  go_wp2_with fail
  go_loopw [4] (fun q wr => ∃ (i : Nat) (vL : Value), q = .int .i64 (i : Int) ∧ i ≤ l.length ∧ VB wr w.heap.size 58 #[.int .i64 k, .int .i64 n, .string s, vL] ∧ RowT (w.heap.size + 2) wr vL ((l.take i).map fun t => t.plain) ∧ VB wr (w.heap.size + 1) 58 #[.int .i64 0, .int .i64 0, .string ⟨#[]⟩, .slice none 0 0] ∧ Below w.heap.size w wr ∧ w.heap.size + 2 ≤ wr.heap.size)
    (fun q _ => l.length - (intOf q).toNat)
  case atStart =>
    refine ⟨0, _, rfl, by omega, ?_, RowT.nil _ _, ?_, B.alloc (B.alloc (B.refl w) _) _, by simp⟩
    · exact (VB.new w 58 #[.int .i64 k, .int .i64 n, .string s, .slice none 0 0]).alloc _
    · simpa using VB.new (w.alloc (.cells #[.int .i64 k, .int .i64 n, .string s, .slice none 0 0] 58)) 58 #[.int .i64 0, .int .i64 0, .string ⟨#[]⟩, .slice none 0 0]
  case round =>
    obtain ⟨i, vL, rfl, hi, v5, row5, x5, b5, hz5⟩ := hrel
    obtain ⟨AL, cL, rfl, hcL1, hcL2⟩ := row5.len
    have hlt : ((l.take i).map fun t => t.plain).length = i := by simp; omega
    rw [hlt] at v5 row5 hcL1
    by_cases hil : i < l.length
    · have hne : l ≠ [] := by intro e; subst e; simp at hil
      obtain ⟨b, off, rfl, hsb, hats⟩ := hl3.out hne
      obtain ⟨A1, k1, d0, d1, d2, d3, q1, q2, t1⟩ := Tr.ats_cells hats i hil
      have hbw := hS.out _ _ hsb
      have kc : ∀ o, wr.cell? ⟨b, o, none⟩ = w.cell? ⟨b, o, none⟩ := fun o => b5.cell (p := ⟨b, o, none⟩) hbw
      rw [← kc] at d0 d1 d2 d3
      have t1' := Tr.at_below t1 b5.drew hS.out
      have hcall := HI.out l[i] (List.getElem_mem hil) S wr.drew _ t1' (fun b off h => Nat.lt_of_lt_of_le (hS.out b off h) b5.size) (by have := Tr.count_get l i hil; omega)
      have hlen := Tr.length_le l
      have hbne : b ≠ w.heap.size := by omega
      replace hcall := Lib.hid hcall
      have l3 := v5.cell 3
      have l3f := v5.free 3
      have l3l := v5.lt
      simp at l3
      have hrlt := row5.lt
      have V5 := Lib.hid v5
      have ROW := Lib.hid row5
      have X5 := Lib.hid x5
      have B5 := Lib.hid b5
      replace hrlt := Lib.hid hrlt
      replace hlt := Lib.hid hlt
      clear v5 row5 x5 b5 kc t1 t1' hats hsb
      have haft : ∀ w6, Below wr.drew.heap.size wr.drew w6 → w6.cell? ⟨w.heap.size, 3, none⟩ = some (.slice AL i cL) ∧ w6.frozen? ⟨w.heap.size, 3, none⟩ = false ∧ w.heap.size < w6.heap.size :=
        fun w6 b6 => ⟨(b6.cell (p := ⟨w.heap.size, 3, none⟩) l3l).trans l3, (b6.frozen (p := ⟨w.heap.size, 3, none⟩) l3l).trans l3f, Nat.lt_of_lt_of_le l3l b6.size⟩
      have haft7 : ∀ w6 ob w7, World.cell? w6 ⟨w.heap.size, 3, none⟩ = some (.slice AL i cL) → w6.frozen? ⟨w.heap.size, 3, none⟩ = false → (w6.alloc ob).grownBy w7 (Value.slice AL i cL).ownBlock → w7.cell? ⟨w.heap.size, 3, none⟩ = some (.slice AL i cL) ∧ w7.frozen? ⟨w.heap.size, 3, none⟩ = false :=
        fun w6 ob w7 h1 h2 g7 => ⟨grCell g7 (cellA h1 _) (fun e => by have := (hrlt.out _ e.symm).1; omega), (grFrz g7 (cellA h1 _) (fun e => by have := (hrlt.out _ e.symm).1; omega)).trans ((frzA h1 _).trans h2)⟩
      replace haft := Lib.hid haft
      replace haft7 := Lib.hid haft7
      go_wp2_with fail
      go_region_law
        (first
          | (go_simp; go_at_call 41; with_reducible refine hcall.out.mono ?_; rintro _ w6 ⟨v6, rfl, at6, b6⟩; obtain ⟨A6, k6, rfl, _, _, _⟩ := Tr.at_agg at6; obtain ⟨l36, l35, l37⟩ := haft.out w6 b6)
          | (refine step_app4 (lo := w.heap.size + 2) (lo' := wr.drew.heap.size) Try.underlying56 hiV hzV (by rfl) hsV hbV rfl (.tmp 27) (.tmp 33) rfl rfl rfl (ROW.out.keep b6.size (fun k hk1 hk2 => b6.block k hk2)) at6 hz5 (fun g hg => (hrlt.out g hg).2) (Nat.le_trans hz5 b6.size) (by rw [hlt.out]; omega) (by rw [hlt.out]; unfold maxLen; omega) ?_; intro v7 w7 row7 g7; obtain ⟨A7, k7, rfl, _, _⟩ := row7.len; rw [show (List.map (fun t => t.plain) (List.take i l) ++ [(l[i]).plain]).length = i + 1 by (simp; omega)] at row7 ⊢; obtain ⟨l38, l39⟩ := haft7.out w6 _ w7 l36 l35 g7))
      all_goals go_wp2_with fail
      all_goals go_roundw
      all_goals first
        | (simp only [intOf]; omega)
        | (refine ⟨i + 1, .slice A7 (i + 1) k7, rfl, by omega, ?_, ?_, ?_, ?_, ?_⟩
           · have := (((V5.out.call (w := wr.drew) b6).alloc _).grownAny g7 (fun g hg => by have := (hrlt.out g hg).1; omega)).set 3 (.slice A7 (i + 1) k7)
             simpa using this
           · have e : (l.take (i + 1)).map (fun t => t.plain) = (l.take i).map (fun t => t.plain) ++ [(l[i]).plain] := by
               rw [List.take_add_one, List.getElem?_eq_getElem hil, List.map_append]; rfl
             rw [e]
             exact row7.keep (by simp [World.setCell]) (fun k hk _ => Below.heap_setCell w7 ⟨w.heap.size, 3, none⟩ _ k (by simp only; omega))
           · exact (((X5.out.call (w := wr.drew) b6).alloc _).grownAny g7 (fun g hg => by have := (hrlt.out g hg).1; omega)).far _ _ (by omega) _
           · exact ((((B5.out.drew.trans (b6.mono B5.out.size)).alloc (by omega) _).grown g7 (by simp; omega) (fun g hg => by have := (hrlt.out g hg).1; omega)).setCell (p := ⟨w.heap.size, 3, none⟩) (by simp) _)
           · have := g7.size; simp [World.setCell] at this ⊢; omega)
    · have hie : i = l.length := by omega
      subst hie
      rw [List.take_length] at row5
      have w0 := v5.cell 0
      have w1 := v5.cell 1
      have w2 := v5.cell 2
      have w3 := v5.cell 3
      have wl := v5.lt
      have x0 := x5.cell 0
      have x1 := x5.cell 1
      have x2 := x5.cell 2
      have x3 := x5.cell 3
      have fx0 := x5.free 0
      have fx1 := x5.free 1
      have fx2 := x5.free 2
      have fx3 := x5.free 3
      have lx := x5.lt
      simp at w0 w1 w2 w3 x0 x1 x2 x3
      have ROW := Lib.hid row5
      have B5 := Lib.hid b5
      clear v5 row5 x5 b5
      go_wp2_with fail
      refine bodyPost_ret (v := .agg #[.int .i64 k, .int .i64 n, .string s, .slice AL l.length cL]) (by simp [results, Try.results41, go_sem, x0, x1, x2, x3]) rfl ⟨_, rfl, ?_, ?_⟩
      · have hrow := ROW.out.keep (w' := (((wr.setCell ⟨w.heap.size + 1, 0, none⟩ (.int .i64 k)).setCell ⟨w.heap.size + 1, 1, none⟩ (.int .i64 n)).setCell ⟨w.heap.size + 1, 2, none⟩ (.string s)).setCell ⟨w.heap.size + 1, 3, none⟩ (.slice AL l.length cL)) (by simp [World.setCell]) (fun k hk _ => (Below.heap_setCell _ _ _ k (by simp only; omega)).trans ((Below.heap_setCell _ _ _ k (by simp only; omega)).trans ((Below.heap_setCell _ _ _ k (by simp only; omega)).trans (Below.heap_setCell _ _ _ k (by simp only; omega)))))
        exact Tr.at_mono (hrow.tree k n s) (fun b off h => ⟨by omega, h.2⟩)
      · exact ((((B5.out.setCell (p := ⟨w.heap.size + 1, 0, none⟩) (by simp) _).setCell (p := ⟨w.heap.size + 1, 1, none⟩) (by simp) _).setCell (p := ⟨w.heap.size + 1, 2, none⟩) (by simp) _).setCell (p := ⟨w.heap.size + 1, 3, none⟩) (by simp) _)

set_option maxHeartbeats 4000000 in
set_option maxRecDepth 100000 in
theorem plain3_list (n : Int) (s : ByteArray) (l : List Tr) (S : Nat → Nat → Prop) (w : World) (v : Value) (HI : Hid (plainHyp l)) (hv : Tr.at S w (.mk 3 n s l) v) (hS : ∀ b off, S b off → b < w.heap.size) (hcnt : Tr.counts l < 1048576) (_hk : ((l.length : Int) == 0) = false) :
    Calls Try.prog 41 #[v] w fun e w' => ∃ v', e = .returned v' ∧ Tr.at (fun b off => w.heap.size ≤ b ∧ b < w'.heap.size ∧ Fresh w' b off) w' (.mk 3 n s (l.map fun t => t.plain)) v' ∧ Below w.heap.size w w' := by
  obtain ⟨iV, hiV, hzV, hsV, hbV⟩ := info_parts (show (Try.prog.info? 58).map (fun i => (i.zero, i.size, i.bytes)) = some (some (.agg #[.int .i64 0, .int .i64 0, .string ⟨#[]⟩, .slice none 0 0]), 4, 56) by kernel_rfl)
  rw [Tr.at_mk] at hv
  obtain ⟨A, cap, rfl, hl1, hl2, hl3⟩ := hv
  replace hl3 := Lib.hid hl3
  replace hS := Lib.hid hS
  have hcm := Lib.hid hl2
  unfold maxLen at hl2
  go_enter Try.func41, Try.ntmps41
  go_wp2_with fail
  go_loopw [4] (fun q wr => ∃ (i : Nat) (vL : Value), q = .int .i64 (i : Int) ∧ i ≤ l.length ∧ VB wr w.heap.size 58 #[.int .i64 3, .int .i64 n, .string s, vL] ∧ RowT (w.heap.size + 2) wr vL ((l.take i).map fun t => t.plain) ∧ VB wr (w.heap.size + 1) 58 #[.int .i64 0, .int .i64 0, .string ⟨#[]⟩, .slice none 0 0] ∧ Below w.heap.size w wr ∧ w.heap.size + 2 ≤ wr.heap.size)
    (fun q _ => l.length - (intOf q).toNat)
  case atStart =>
    refine ⟨0, _, rfl, by omega, ?_, RowT.nil _ _, ?_, B.alloc (B.alloc (B.refl w) _) _, by simp⟩
    · exact (VB.new w 58 #[.int .i64 3, .int .i64 n, .string s, .slice none 0 0]).alloc _
    · simpa using VB.new (w.alloc (.cells #[.int .i64 3, .int .i64 n, .string s, .slice none 0 0] 58)) 58 #[.int .i64 0, .int .i64 0, .string ⟨#[]⟩, .slice none 0 0]
  case round =>
    obtain ⟨i, vL, rfl, hi, v5, row5, x5, b5, hz5⟩ := hrel
    obtain ⟨AL, cL, rfl, hcL1, hcL2⟩ := row5.len
    have hlt : ((l.take i).map fun t => t.plain).length = i := by simp; omega
    rw [hlt] at v5 row5 hcL1
    by_cases hil : i < l.length
    · have hne : l ≠ [] := by intro e; subst e; simp at hil
      obtain ⟨b, off, rfl, hsb, hats⟩ := hl3.out hne
      obtain ⟨A1, k1, d0, d1, d2, d3, q1, q2, t1⟩ := Tr.ats_cells hats i hil
      have hbw := hS.out _ _ hsb
      have kc : ∀ o, wr.cell? ⟨b, o, none⟩ = w.cell? ⟨b, o, none⟩ := fun o => b5.cell (p := ⟨b, o, none⟩) hbw
      rw [← kc] at d0 d1 d2 d3
      have t1' := Tr.at_below t1 b5.drew hS.out
      have hcall := HI.out l[i] (List.getElem_mem hil) S wr.drew _ t1' (fun b off h => Nat.lt_of_lt_of_le (hS.out b off h) b5.size) (by have := Tr.count_get l i hil; omega)
      have hlen := Tr.length_le l
      have hbne : b ≠ w.heap.size := by omega
      replace hcall := Lib.hid hcall
      have l3 := v5.cell 3
      have l3f := v5.free 3
      have l3l := v5.lt
      simp at l3
      have hrlt := row5.lt
      have V5 := Lib.hid v5
      have ROW := Lib.hid row5
      have X5 := Lib.hid x5
      have B5 := Lib.hid b5
      replace hrlt := Lib.hid hrlt
      replace hlt := Lib.hid hlt
      clear v5 row5 x5 b5 kc t1 t1' hats hsb
      have haft : ∀ w6, Below wr.drew.heap.size wr.drew w6 → w6.cell? ⟨w.heap.size, 3, none⟩ = some (.slice AL i cL) ∧ w6.frozen? ⟨w.heap.size, 3, none⟩ = false ∧ w.heap.size < w6.heap.size :=
        fun w6 b6 => ⟨(b6.cell (p := ⟨w.heap.size, 3, none⟩) l3l).trans l3, (b6.frozen (p := ⟨w.heap.size, 3, none⟩) l3l).trans l3f, Nat.lt_of_lt_of_le l3l b6.size⟩
      have haft7 : ∀ w6 ob w7, World.cell? w6 ⟨w.heap.size, 3, none⟩ = some (.slice AL i cL) → w6.frozen? ⟨w.heap.size, 3, none⟩ = false → (w6.alloc ob).grownBy w7 (Value.slice AL i cL).ownBlock → w7.cell? ⟨w.heap.size, 3, none⟩ = some (.slice AL i cL) ∧ w7.frozen? ⟨w.heap.size, 3, none⟩ = false :=
        fun w6 ob w7 h1 h2 g7 => ⟨grCell g7 (cellA h1 _) (fun e => by have := (hrlt.out _ e.symm).1; omega), (grFrz g7 (cellA h1 _) (fun e => by have := (hrlt.out _ e.symm).1; omega)).trans ((frzA h1 _).trans h2)⟩
      replace haft := Lib.hid haft
      replace haft7 := Lib.hid haft7
      go_wp2_with fail
      go_region_law
        (first
          | (go_simp; go_at_call 41; with_reducible refine hcall.out.mono ?_; rintro _ w6 ⟨v6, rfl, at6, b6⟩; obtain ⟨A6, k6, rfl, _, _, _⟩ := Tr.at_agg at6; obtain ⟨l36, l35, l37⟩ := haft.out w6 b6)
          | (refine step_app4 (lo := w.heap.size + 2) (lo' := wr.drew.heap.size) Try.underlying56 hiV hzV (by rfl) hsV hbV rfl (.tmp 27) (.tmp 33) rfl rfl rfl (ROW.out.keep b6.size (fun k hk1 hk2 => b6.block k hk2)) at6 hz5 (fun g hg => (hrlt.out g hg).2) (Nat.le_trans hz5 b6.size) (by rw [hlt.out]; omega) (by rw [hlt.out]; unfold maxLen; omega) ?_; intro v7 w7 row7 g7; obtain ⟨A7, k7, rfl, _, _⟩ := row7.len; rw [show (List.map (fun t => t.plain) (List.take i l) ++ [(l[i]).plain]).length = i + 1 by (simp; omega)] at row7 ⊢; obtain ⟨l38, l39⟩ := haft7.out w6 _ w7 l36 l35 g7))
      all_goals go_wp2_with fail
      all_goals go_roundw
      all_goals first
        | (simp only [intOf]; omega)
        | (refine ⟨i + 1, .slice A7 (i + 1) k7, rfl, by omega, ?_, ?_, ?_, ?_, ?_⟩
           · have := (((V5.out.call (w := wr.drew) b6).alloc _).grownAny g7 (fun g hg => by have := (hrlt.out g hg).1; omega)).set 3 (.slice A7 (i + 1) k7)
             simpa using this
           · have e : (l.take (i + 1)).map (fun t => t.plain) = (l.take i).map (fun t => t.plain) ++ [(l[i]).plain] := by
               rw [List.take_add_one, List.getElem?_eq_getElem hil, List.map_append]; rfl
             rw [e]
             exact row7.keep (by simp [World.setCell]) (fun k hk _ => Below.heap_setCell w7 ⟨w.heap.size, 3, none⟩ _ k (by simp only; omega))
           · exact (((X5.out.call (w := wr.drew) b6).alloc _).grownAny g7 (fun g hg => by have := (hrlt.out g hg).1; omega)).far _ _ (by omega) _
           · exact ((((B5.out.drew.trans (b6.mono B5.out.size)).alloc (by omega) _).grown g7 (by simp; omega) (fun g hg => by have := (hrlt.out g hg).1; omega)).setCell (p := ⟨w.heap.size, 3, none⟩) (by simp) _)
           · have := g7.size; simp [World.setCell] at this ⊢; omega)
    · have hie : i = l.length := by omega
      subst hie
      rw [List.take_length] at row5
      have w0 := v5.cell 0
      have w1 := v5.cell 1
      have w2 := v5.cell 2
      have w3 := v5.cell 3
      have wl := v5.lt
      have x0 := x5.cell 0
      have x1 := x5.cell 1
      have x2 := x5.cell 2
      have x3 := x5.cell 3
      have fx0 := x5.free 0
      have fx1 := x5.free 1
      have fx2 := x5.free 2
      have fx3 := x5.free 3
      have lx := x5.lt
      simp at w0 w1 w2 w3 x0 x1 x2 x3
      have ROW := Lib.hid row5
      have B5 := Lib.hid b5
      clear v5 row5 x5 b5
      go_wp2_with fail
      refine bodyPost_ret (v := .agg #[.int .i64 3, .int .i64 n, .string s, .slice AL l.length cL]) (by simp [results, Try.results41, go_sem, x0, x1, x2, x3]) rfl ⟨_, rfl, ?_, ?_⟩
      · have hrow := ROW.out.keep (w' := (((wr.setCell ⟨w.heap.size + 1, 0, none⟩ (.int .i64 3)).setCell ⟨w.heap.size + 1, 1, none⟩ (.int .i64 n)).setCell ⟨w.heap.size + 1, 2, none⟩ (.string s)).setCell ⟨w.heap.size + 1, 3, none⟩ (.slice AL l.length cL)) (by simp [World.setCell]) (fun k hk _ => (Below.heap_setCell _ _ _ k (by simp only; omega)).trans ((Below.heap_setCell _ _ _ k (by simp only; omega)).trans ((Below.heap_setCell _ _ _ k (by simp only; omega)).trans (Below.heap_setCell _ _ _ k (by simp only; omega)))))
        exact Tr.at_mono (hrow.tree 3 n s) (fun b off h => ⟨by omega, h.2⟩)
      · exact ((((B5.out.setCell (p := ⟨w.heap.size + 1, 0, none⟩) (by simp) _).setCell (p := ⟨w.heap.size + 1, 1, none⟩) (by simp) _).setCell (p := ⟨w.heap.size + 1, 2, none⟩) (by simp) _).setCell (p := ⟨w.heap.size + 1, 3, none⟩) (by simp) _)

theorem plainValue (t : Tr) : plainHyp [t] := by
  induction t using Tr.ind
  rename_i k n s l ih
  intro t ht S w v hv hS hc
  obtain rfl := List.mem_singleton.1 ht
  by_cases hk : k = 3 ∧ l.length = 0
  · have hp : (Tr.mk k n s l).plain = .mk 1 n ⟨#[]⟩ [] := by rw [Tr.plain, if_pos hk]
    rw [hp]
    obtain ⟨rfl, hl⟩ := hk
    obtain rfl := List.length_eq_zero_iff.1 hl
    rw [Tr.at_mk] at hv
    obtain ⟨A, cap, rfl, hl1, hl2, -⟩ := hv
    clear ih hp
    unfold maxLen at hl2
    go_enter Try.func41, Try.ntmps41
    go_wp2_with fail
    refine bodyPost_ret (v := .agg #[.int .i64 1, .int .i64 n, .string ⟨#[]⟩, .slice none 0 0]) (by simp [results, Try.results41, go_sem]) rfl ⟨_, rfl, ?_, ?_⟩
    · rw [Tr.at_mk]
      exact ⟨none, 0, rfl, by simp, by unfold maxLen; omega, fun h => absurd rfl h⟩
    · exact B.alloc (B.alloc (B.refl w) _) _
  · have hp : (Tr.mk k n s l).plain = .mk k n s (l.map fun t => t.plain) := by rw [Tr.plain, if_neg hk, Tr.plains_map]
    rw [hp]
    by_cases h3 : k = 3
    · subst h3
      exact plain3_list n s l S w v (Lib.hid fun t ht => ih t ht t (List.mem_singleton.2 rfl)) hv hS (by simp only [Tr.count] at hc; omega) (by simp; intro e; exact hk ⟨rfl, by simp [e]⟩)
    · exact plain_list k n s l S w v (Lib.hid fun t ht => ih t ht t (List.mem_singleton.2 rfl)) hv hS (by simp only [Tr.count] at hc; omega) (by simpa using h3)

end Go.Proofs.Ytgohnekaolgblaa
