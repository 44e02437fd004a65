/- gimletlaw27.pair: contract. -/
import Derived.Test.YtgohnekaolgblaaTrNum
namespace Go.Proofs.Ytgohnekaolgblaa
open Go.RowKit

def Wd.pairT : Tr := .mk 3 1 ⟨#[]⟩ [.mk 1 5 ⟨#[]⟩ [], .mk 2 0 ⟨#[97, 98]⟩ []]

theorem wdPair (w : World) : Calls Try.prog 79 #[] w fun e w' => ∃ v, e = .returned v ∧ Tr.at (fun b _ => w.heap.size ≤ b ∧ b < w'.heap.size) w' Wd.pairT v ∧ Below w.heap.size w w' := by
  go_enter Try.func79, Try.ntmps79
  go_wp2
  refine bodyPost_ret (v := .agg #[.int .i64 3, .int .i64 1, .string ⟨#[]⟩, .slice (some ⟨w.heap.size + 1, 0, none⟩) 2 2]) (by simp [results, Try.results79, go_sem]) rfl ⟨_, rfl, ?_, B.alloc (B.alloc (B.refl w) _) _⟩
  have V := VB.new (w.alloc (.cells #[.int .i64 3, .int .i64 1, .string ⟨#[]⟩, .slice (some ⟨w.heap.size + 1, 0, none⟩) 2 2] 58)) 58 #[.int .i64 1, .int .i64 5, .string ⟨#[]⟩, .slice none 0 0, .int .i64 2, .int .i64 0, .string ⟨#[97, 98]⟩, .slice none 0 0]
  simp only [World.size_alloc] at V
  unfold Wd.pairT
  rw [Tr.at_mk]
  refine ⟨_, _, rfl, Nat.le_refl _, by unfold maxLen; decide, fun _ => ⟨_, _, rfl, ⟨by omega, by simp⟩, ?_⟩⟩
  simp only [Tr.ats, and_true]
  refine ⟨⟨_, _, _, _, V.cell 0, V.cell 1, V.cell 2, V.cell 3, ?_⟩, ⟨_, _, _, _, V.cell 4, V.cell 5, V.cell 6, V.cell 7, ?_⟩⟩
  · rw [Tr.at_mk]; exact ⟨none, 0, rfl, by simp, by unfold maxLen; omega, fun h => absurd rfl h⟩
  · rw [Tr.at_mk]; exact ⟨none, 0, rfl, by simp, by unfold maxLen; omega, fun h => absurd rfl h⟩

end Go.Proofs.Ytgohnekaolgblaa
