/- What a call owns of numbers: a slice of numbers of its own, that grows by append: the laws of the walk at one kind. -/
import Derived.WalkKit
import Derived.WalkLawsBesides
import Derived.Handy
import Derived.Lib.Hide
namespace Go.Proofs.Ytgohnekaolgblaa
open Go.RowKit

/-- The slice value v, among the blocks from B on, holds just the numbers xs. -/
def Owns (E : TypeId) (k : IntKind) (B : Nat) (w : World) (v : Value) (xs : List Int) : Prop := w.ownsRow B E 1 v xs.length (xs.map (Value.int k))

theorem Owns.nil (E : TypeId) (k : IntKind) (B : Nat) (w : World) : Owns E k B w (.slice none 0 0) [] := World.ownsRow_nil _ _ _ _

theorem Owns.alloc {E : TypeId} {k : IntKind} {B : Nat} {w : World} {v : Value} {xs : List Int} (h : Owns E k B w v xs) (o : Obj) : Owns E k B (w.alloc o) v xs := World.ownsRow.alloc h o

theorem Owns.lt {E : TypeId} {k : IntKind} {B : Nat} {w : World} {v : Value} {xs : List Int} (h : Owns E k B w v xs) : ∀ g, v.ownBlock = some g → B ≤ g ∧ g < w.heap.size := World.ownsRow.lt h

theorem Owns.mono {E : TypeId} {k : IntKind} {B B' : Nat} {w : World} {v : Value} {xs : List Int} (h : Owns E k B w v xs) (hB : B' ≤ B) : Owns E k B' w v xs := by
  obtain ⟨h1, h2⟩ := h
  refine ⟨h1, ?_⟩
  rcases h2 with h2 | ⟨g, cap, cur, hv, hg, r⟩
  · exact .inl h2
  · exact .inr ⟨g, cap, cur, hv, Nat.le_trans hB hg, r⟩

/-- What is owned stays owned while the world is kept below a later block. -/
theorem Owns.below {E : TypeId} {k : IntKind} {B C : Nat} {w w' : World} {v : Value} {xs : List Int} (h : Owns E k B w v xs) (hb : Below C w w') (hC : w.heap.size ≤ C) : Owns E k B w' v xs := by
  obtain ⟨h1, h2⟩ := h
  refine ⟨h1, ?_⟩
  rcases h2 with h2 | ⟨g, cap, cur, hv, hg, hh, r⟩
  · exact .inl h2
  · have hlt : g < w.heap.size := by
      by_cases hlt : g < w.heap.size
      · exact hlt
      · rw [Array.getElem?_eq_none (by omega)] at hh; cases hh
    exact .inr ⟨g, cap, cur, hv, hg, by rw [hb.block g (by omega)]; exact hh, r⟩

/-- The cells of what is owned, where there is anything. -/
theorem Owns.cells {E : TypeId} {k : IntKind} {B : Nat} {w : World} {v : Value} {xs : List Int} (h : Owns E k B w v xs) (hne : xs ≠ []) :
    ∃ g cap, v = .slice (some ⟨g, 0, none⟩) xs.length cap ∧ B ≤ g ∧ g < w.heap.size ∧ xs.length ≤ cap ∧ cap ≤ maxLen ∧ ∀ j, (hj : j < xs.length) → w.cell? ⟨g, j, none⟩ = some (.int k xs[j]) := by
  have hc : ∀ {g : Nat}, v.ownBlock = some g → ∀ j u, (xs.map (Value.int k))[j]? = some u → w.cell? ((⟨g, 0, none⟩ : Addr).add j) = some u := fun hg => World.ownsRow.cells h hg
  have hl := Owns.lt h
  obtain ⟨h1, h2⟩ := h
  rcases h2 with ⟨_, h0⟩ | ⟨g, cap, cur, rfl, hg, hh, hn, hm, hs, ht⟩
  · exact absurd (List.length_eq_zero_iff.1 h0) hne
  · refine ⟨g, cap, rfl, hg, (hl g rfl).2, hn, hm, fun j hj => ?_⟩
    have := hc (g := g) rfl j (.int k xs[j]) (by simp [hj])
    have e : (⟨g, 0, none⟩ : Addr).add j = ⟨g, j, none⟩ := by unfold Addr.add; split <;> simp_all
    rw [e] at this; exact this

/-- append(out, y): at the element type's table. -/
theorem app_own {P : Program} {T E : TypeId} {k : IntKind} {bytes : Nat} {i : TypeInfo} (hT : P.underlying T = some (.slice E)) (hi : P.info? E = some i) (hz : i.zero = some (.int k 0)) (hsz : i.size = 1) (hby : i.bytes = bytes)
    {ops : Array Oper} {rest : List Oper} {o : Oper} {a : Act} {Q : Exit → Act → World → Prop} (hgd : o.guard = none) (s x : Operand)
    (ho : o.op = .call { callee := .builtin .append, args := #[s, x], argTypes := #[T, T] })
    {B : Nat} {w0 w : World} {v : Value} {xs : List Int} {y : Int} (hs : a.eval s = v) (hx : a.eval x = .slice (some ⟨w.heap.size, 0, none⟩) 1 1)
    (hown : Owns E k B w v xs) (hbel : Below B w0 w) (hB : B ≤ w.heap.size) (hlen : (xs.length + 1) * bytes ≤ 140737488355328) (hml : xs.length + 1 ≤ maxLen)
    (h : ∀ v' w', Owns E k B w' v' (xs ++ [y]) → Below B w0 w' → B ≤ w'.heap.size → wpList P ops Q rest (a.put o.dst v') w') :
    wpList P ops Q (o :: rest) a (w.alloc (.cells #[.int k y] E)) := by
  refine wpList_append_own _ hgd s x T ho B E i (.int k 0) 1 bytes hT hi hz hsz hby rfl (by decide) v xs.length (xs.map (Value.int k)) hs (World.ownsRow.alloc hown _)
    ⟨w.heap.size, 0, none⟩ 1 1 [.int k y] hx rfl ?_ ?_ hml (by omega) (by simp; omega) ?_
  · intro j u hj
    match j, hj with
    | 0, hj => simp at hj; subst hj; simp [Addr.add]
  · intro u hu; simp at hu; subst hu; rfl
  · intro v' w' ho' hg _
    refine h v' w' ?_ ((hbel.alloc hB _).grown hg (by simp; omega) (fun j hj => (hown.lt j hj).1)) ?_
    · unfold Owns; simpa using ho'
    · have := hg.size; simp at this; omega

/-- Behind a call that leaves what was there: all cells, all marks, the size. -/
theorem bcell {W w1 : World} (hb : Below W.heap.size W w1) :
    (∀ b o, b < W.heap.size → w1.cell? ⟨b, o, none⟩ = W.cell? ⟨b, o, none⟩) ∧ (∀ b o, b < W.heap.size → w1.frozen? ⟨b, o, none⟩ = W.frozen? ⟨b, o, none⟩) ∧ W.heap.size ≤ w1.heap.size :=
  ⟨fun b o h => hb.cell (p := ⟨b, o, none⟩) h, fun b o h => hb.frozen (p := ⟨b, o, none⟩) h, hb.size⟩

/-- Behind a call that leaves what was there: a variable of two cells that was laid last ahead of it. -/
theorem bcell2 {w w1 : World} {x y : Value} {T : TypeId} (hb : Below (w.alloc (.cells #[x, y] T)).heap.size (w.alloc (.cells #[x, y] T)) w1) :
    w1.cell? ⟨w.heap.size, 0, none⟩ = some x ∧ w1.cell? ⟨w.heap.size, 1, none⟩ = some y ∧ w1.frozen? ⟨w.heap.size, 0, none⟩ = false ∧ w1.frozen? ⟨w.heap.size, 1, none⟩ = false ∧ w.heap.size < w1.heap.size := by
  have h0 := hb.cell (p := ⟨w.heap.size, 0, none⟩) (by simp)
  have h1 := hb.cell (p := ⟨w.heap.size, 1, none⟩) (by simp)
  have f0 := hb.frozen (p := ⟨w.heap.size, 0, none⟩) (by simp)
  have f1 := hb.frozen (p := ⟨w.heap.size, 1, none⟩) (by simp)
  have hs := hb.size
  simp only [World.size_alloc] at hs
  refine ⟨h0.trans ?_, h1.trans ?_, f0.trans ?_, f1.trans ?_, by omega⟩
  · rw [cell_of_row _ _ _ _ _ _ (heap_alloc_new w _)]; rfl
  · rw [cell_of_row _ _ _ _ _ _ (heap_alloc_new w _)]; rfl
  · simp only [World.frozen?, heap_alloc_new]; rfl
  · simp only [World.frozen?, heap_alloc_new]; rfl

end Go.Proofs.Ytgohnekaolgblaa
