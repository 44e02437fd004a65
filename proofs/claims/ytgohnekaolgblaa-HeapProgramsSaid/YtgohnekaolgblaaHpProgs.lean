/- The functions of a program with a heap may be. -/
import Derived.Test.YtgohnekaolgblaaCkG
import Derived.Test.YtgohnekaolgblaaLfProg
namespace Go.Proofs.Ytgohnekaolgblaa
open Go.RowKit

theorem movingOk (s : Int) : (⟨1, 4, movingL⟩ : Fx).ok 5 ((heapFns s).map Fx.p) := by
  refine ⟨by decide, by decide, by decide, by decide, ?_, by decide, by decide, by decide, by decide⟩
  simp [movingL, heapFns, Lo.goods, Lo.good, loOk, Ex.goods, Ex.good, exOk, opsOf, bytesX, wordsX, sizeX, isTextX]
theorem takerOk (s : Int) : (⟨1, 1, takerL⟩ : Fx).ok 5 ((heapFns s).map Fx.p) := by
  refine ⟨by decide, by decide, by decide, by decide, ?_, by decide, by decide, by decide, by decide⟩
  simp [takerL, fewX, heapFns, Lo.goods, Lo.good, loOk, Ex.goods, Ex.good, exOk, opsOf]
theorem collectOk (s : Int) (h0 : 0 ≤ s) (h1 : s ≤ 4294967295) : (⟨0, 5, collectL s⟩ : Fx).ok 5 ((heapFns s).map Fx.p) := by
  refine ⟨show (0 : Int) ≤ 0 by decide, show (0 : Int) ≤ 20 by decide, show (0 : Int) ≤ 5 by decide, show (5 : Int) ≤ 1000 by decide, ?_, ?_, ?_, ?_, ?_⟩
  · simp [collectL, rootsL, scanL, wordsL, eachL, heapFns, Lo.goods, Lo.good, loOk, Ex.goods, Ex.good, exOk, opsOf, bytesX, wordsX, sizeX, isTextX]
    omega
  · show Lo.sizes (collectL 0) ≤ 32768
    decide
  · show Lo.deeps (collectL 0) ≤ 200
    decide
  · show Ex.nums (Lo.alls (collectL 0)) ≤ 32768
    decide
  · show Ex.deeps (Lo.alls (collectL 0)) ≤ 200
    decide
theorem heapFnsOk (s : Int) (h0 : 0 ≤ s) (h1 : s ≤ 4294967295) : ∀ f ∈ heapFns s, f.ok 5 ((heapFns s).map Fx.p) := by
  intro f hf
  have : f = ⟨0, 0, []⟩ ∨ f = ⟨0, 5, collectL s⟩ ∨ f = ⟨1, 1, takerL⟩ ∨ f = ⟨1, 4, movingL⟩ := by simpa [heapFns] using hf
  rcases this with rfl | rfl | rfl | rfl
  · exact ⟨by decide, by decide, by decide, by decide, by simp [Lo.goods], by decide, by decide, by decide, by decide⟩
  · exact collectOk s h0 h1
  · exact takerOk s
  · exact movingOk s

end Go.Proofs.Ytgohnekaolgblaa
