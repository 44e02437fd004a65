/- What is used by all walks: worlds behind calls, variables known whole. (For the seats without layer 4.) -/
import Derived.Test.YtgohnekaolgblaaSees
import Derived.BigRegion
import Derived.BigQuiet
import Derived.Deep.RegionHeld3
namespace Go.Proofs.Ytgohnekaolgblaa
open Go.RowKit

theorem Byt.of_wf {xs : List Int} (h : ∀ n ∈ xs, (Lit.int .u8 n).wf = true) : Byt xs := fun n hn => by
  have := bounds_u8 (h n hn); omega

theorem wf_u32 {n : Int} (h : (Lit.int .u32 n).wf = true) : 0 ≤ n ∧ n < 4294967296 := by
  have := bounds_u32 h; omega

theorem B.call {w W w' : World} (h : Below w.heap.size w W) (b : Below W.heap.size W w') : Below w.heap.size w w' := h.trans (b.mono h.size)
theorem B.alloc {w W : World} (h : Below w.heap.size w W) (o : Obj) : Below w.heap.size w (W.alloc o) := h.alloc h.size o
theorem B.refl (w : World) : Below w.heap.size w w := Below.refl _ _

/-- A cell that was there ahead of a call that leaves what was there. -/
theorem cellK {W w2 : World} (hb : Below W.heap.size W w2) {b o : Nat} {v : Value} (h : W.cell? ⟨b, o, none⟩ = some v) : w2.cell? ⟨b, o, none⟩ = some v :=
  (hb.cell (p := ⟨b, o, none⟩) (World.block_lt_of_cell? W _ h)).trans h

theorem cellA {w : World} {b o : Nat} {v : Value} (h : w.cell? ⟨b, o, none⟩ = some v) (ob : Obj) : (w.alloc ob).cell? ⟨b, o, none⟩ = some v :=
  (World.cell?_alloc_past _ _ _ (World.block_lt_of_cell? w _ h)).trans h
theorem cellN0 (w : World) (x y : Value) (T : TypeId) : (w.alloc (.cells #[x, y] T)).cell? ⟨w.heap.size, 0, none⟩ = some x := by
  rw [cell_of_row _ _ _ _ _ _ (heap_alloc_new w _)]; rfl
theorem cellN1 (w : World) (x y : Value) (T : TypeId) : (w.alloc (.cells #[x, y] T)).cell? ⟨w.heap.size, 1, none⟩ = some y := by
  rw [cell_of_row _ _ _ _ _ _ (heap_alloc_new w _)]; rfl

/-- A variable of a few cells in block t. -/
def VB (w : World) (t : Nat) (T : TypeId) (cs : Array Value) : Prop := w.heap[t]? = some (.cells cs T (0, 0))

theorem VB.cell {w : World} {t : Nat} {T : TypeId} {cs : Array Value} (h : VB w t T cs) (i : Nat) : w.cell? ⟨t, i, none⟩ = cs[i]? := cell_of_row w t i _ _ _ h
theorem VB.free {w : World} {t : Nat} {T : TypeId} {cs : Array Value} (h : VB w t T cs) (i : Nat) : w.frozen? ⟨t, i, none⟩ = false := by
  unfold VB at h; simp [World.frozen?, h]
theorem VB.lt {w : World} {t : Nat} {T : TypeId} {cs : Array Value} (h : VB w t T cs) : t < w.heap.size := by
  rcases Nat.lt_or_ge t w.heap.size with hlt | hge
  · exact hlt
  · unfold VB at h; rw [Array.getElem?_eq_none hge] at h; cases h
theorem VB.set {w : World} {t : Nat} {T : TypeId} {cs : Array Value} (h : VB w t T cs) (i : Nat) (u : Value) : VB (w.setCell ⟨t, i, none⟩ u) t T (cs.setIfInBounds i u) := by
  unfold VB at h ⊢
  simp [World.setCell, Array.getElem?_modify, h]
theorem VB.grown {w w' : World} {t : Nat} {T : TypeId} {cs : Array Value} (h : VB w t T cs) {g : Nat} (hg : w.grownBy w' (some g)) (hne : t ≠ g) : VB w' t T cs := (hg.block t h.lt (by simpa using hne)).trans h
theorem VB.alloc {w : World} {t : Nat} {T : TypeId} {cs : Array Value} (h : VB w t T cs) (o : Obj) : VB (w.alloc o) t T cs := (Below.heap_alloc w o t h.lt).trans h
theorem VB.below {w w' : World} {t : Nat} {T : TypeId} {cs : Array Value} (h : VB w t T cs) {B : Nat} (hb : Below B w w') (hB : t < B) : VB w' t T cs := (hb.block t hB).trans h
theorem VB.new (w : World) (T : TypeId) (cs : Array Value) : VB (w.alloc (.cells cs T)) w.heap.size T cs := heap_alloc_new w _
theorem VB.far {w : World} {t : Nat} {T : TypeId} {cs : Array Value} (h : VB w t T cs) (b i : Nat) (hne : t ≠ b) (u : Value) : VB (w.setCell ⟨b, i, none⟩ u) t T cs := (Below.heap_setCell w ⟨b, i, none⟩ u t hne).trans h
theorem VB.call {w w' : World} {t : Nat} {T : TypeId} {cs : Array Value} (h : VB w t T cs) (b : Below w.heap.size w w') : VB w' t T cs := h.below b h.lt

end Go.Proofs.Ytgohnekaolgblaa
