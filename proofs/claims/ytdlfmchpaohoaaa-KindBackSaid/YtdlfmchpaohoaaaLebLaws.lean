/- The laws of layer 1: what they do to the world. -/
import Derived.Test.YtdlfmchpaohoaaaLebGets
import Derived.Test.YtdlfmchpaohoaaaLebPuts
namespace Go.Proofs.Ytdlfmchpaohoaaa
open Go.RowKit

theorem Byt.of_wf {xs : List Int} (h : ∀ n ∈ xs, (Lit.int .u8 n).wf = true) : Byt xs := fun n hn => by
  have := bounds_u8 (h n hn); omega

theorem B.call {w W w' : World} (h : Below w.heap.size w W) (b : Below W.heap.size W w') : Below w.heap.size w w' := h.trans (b.mono h.size)
theorem B.alloc {w W : World} (h : Below w.heap.size w W) (o : Obj) : Below w.heap.size w (W.alloc o) := h.alloc h.size o
theorem B.refl (w : World) : Below w.heap.size w w := Below.refl _ _

/-- A cell that was there ahead of a call that leaves what was there. -/
theorem cellK {W w2 : World} (hb : Below W.heap.size W w2) {b o : Nat} {v : Value} (h : W.cell? ⟨b, o, none⟩ = some v) : w2.cell? ⟨b, o, none⟩ = some v :=
  (hb.cell (p := ⟨b, o, none⟩) (World.block_lt_of_cell? W _ h)).trans h

theorem cellA {w : World} {b o : Nat} {v : Value} (h : w.cell? ⟨b, o, none⟩ = some v) (ob : Obj) : (w.alloc ob).cell? ⟨b, o, none⟩ = some v :=
  (World.cell?_alloc_past _ _ _ (World.block_lt_of_cell? w _ h)).trans h
theorem cellN0 (w : World) (x y : Value) (T : TypeId) : (w.alloc (.cells #[x, y] T)).cell? ⟨w.heap.size, 0, none⟩ = some x := by
  rw [cell_of_row _ _ _ _ _ _ (heap_alloc_new w _)]; rfl
theorem cellN1 (w : World) (x y : Value) (T : TypeId) : (w.alloc (.cells #[x, y] T)).cell? ⟨w.heap.size, 1, none⟩ = some y := by
  rw [cell_of_row _ _ _ _ _ _ (heap_alloc_new w _)]; rfl

theorem awake01 (w : World) : Calls Try.prog 18 #[] w fun e w' => e = .returned (.bool true) ∧ Below w.heap.size w w' := by
  have r1 : Leb.getU [9, 128, 1] 1 = (128, 3, 0, 0) := by decide
  have r2 : Leb.getS [191, 127] 0 = (-65, 2, 0, 0) := by decide
  have R1 := Lib.hid r1; clear r1
  have R2 := Lib.hid r2; clear r2
  go_enter Try.func18, Try.ntmps18
  go_wp2_with fail
  have s1 : Sees .u8 (w.alloc (.cells #[.int .u8 9, .int .u8 128, .int .u8 1] 5)) (.slice (some ⟨w.heap.size, 0, none⟩) 3 3) [9, 128, 1] := Sees.lit .u8 w 5 [9, 128, 1] 3 (by decide) (by decide)
  refine (getU _ _ _ _ s1 (by intro n hn; simp at hn; omega) (by decide)).mono ?_
  rintro e w1 ⟨rfl, b1⟩
  rw [R1.out]
  simp only [tupU]
  go_wp2_with fail
  have s2 : ∀ (w : World) (g : Nat), g = w.heap.size → Sees .u8 (w.alloc (.cells #[.int .u8 191, .int .u8 127] 5)) (.slice (some ⟨g, 0, none⟩) 2 2) [191, 127] := by
    rintro w g rfl; exact Sees.lit .u8 w 5 [191, 127] 2 (by decide) (by decide)
  refine (getS _ _ _ _ (s2 _ _ (by simp)) (by intro n hn; simp at hn; omega) (by decide)).mono ?_
  rintro e w2 ⟨rfl, b2⟩
  rw [R2.out]
  simp only [tupS]
  have c1 : w2.cell? ⟨w1.heap.size, 0, none⟩ = some (.int .i64 0) := cellK b2 (by simp [go_sem])
  have c2 : w1.heap.size < w2.heap.size := by have := b2.size; simp only [World.size_alloc] at this; omega
  go_wp2_with fail
  go_ret
  exact ⟨rfl, B.alloc (B.call (B.alloc (B.alloc (B.call (B.alloc (B.refl _) _) b1) _) _) b2) _⟩

end Go.Proofs.Ytdlfmchpaohoaaa
