/- Rows that a call makes: make with a length that is a variable, copy into such a row, what can be read of it. -/
import Derived.Test.YtgohnekaolgblaaSees
import Derived.Laws.CopyOwn
import Derived.Deep.OwnRows
namespace Go.Proofs.Ytgohnekaolgblaa
open Go.RowKit

/-- make([]T, n): the world behind it is a variable, of which the row is known. -/
theorem make_row {P : Program} {T E : TypeId} {z : Value} {i : TypeInfo} (hT : P.underlying T = some (.slice E)) (hi : P.info? E = some i) (hz : i.zero = some z) (hsz : i.size = 1) (hz1 : z.cells = #[z])
    {ops : Array Oper} {rest : List Oper} {o : Oper} {a : Act} {Q : Exit → Act → World → Prop} {w : World} (hg : o.guard = none) (l c : Operand) (hop : o.op = Op.makeSlice T l c)
    (n : Nat) (hl : a.eval l = .int .i64 (n : Int)) (hc : a.eval c = .int .i64 (n : Int)) (hbytes : i.bytes * n ≤ 281474976710656) (h63 : n ≤ 9223372036854775807)
    (h : ∀ w', Hid (w'.rowIs w.heap.size E n (fun _ => z)) → Below w.heap.size w w' → w'.heap.size = w.heap.size + 1 → wpList P ops Q rest (a.put o.dst (.slice (some ⟨w.heap.size, 0, none⟩) n n)) w') :
    wpList P ops Q (o :: rest) a w :=
  wpList_make_row w hg l c T hop E i z hT hi hz hsz hz1 .i64 .i64 n hl hc hbytes h63
    (h _ (Lib.hid (World.rowIs_made w z n E)) ((Below.refl _ _).alloc (Nat.le_refl _) _) (by simp))

theorem row_toList {w : World} {g : Nat} {t : TypeId} {n : Nat} {f : Nat → Value} (h : w.rowIs g t n f) : w.heap[g]? = some (.cells ((List.range n).map f).toArray t (0, 0)) := by
  obtain ⟨c, hb, hn, hc⟩ := h
  rw [hb]; congr 2
  apply Array.ext'
  apply List.ext_getElem?
  intro i
  by_cases hi : i < n
  · have := hc i hi
    rw [Array.getElem?_toList, this]; simp [hi]
  · rw [Array.getElem?_toList, Array.getElem?_eq_none (by omega)]
    rw [List.getElem?_eq_none (by simp; omega)]

theorem row_ofList {w : World} {g : Nat} {t : TypeId} {n : Nat} {f : Nat → Value} (l : List Value) (h : w.heap[g]? = some (.cells l.toArray t (0, 0))) (hn : l.length = n) (hf : ∀ i, i < n → l[i]? = some (f i)) : w.rowIs g t n f :=
  ⟨_, h, by simpa using hn, fun i hi => by simpa using hf i hi⟩

/-- copy(row, s), the row at least as long as s. -/
theorem copy_row {P : Program} {T E : TypeId} {k : IntKind} (hT : P.underlying T = some (.slice E)) (hsz : (P.info? E).map (·.size) = some 1)
    {ops : Array Oper} {rest : List Oper} {o : Oper} {a : Act} {Q : Exit → Act → World → Prop} {w w0 : World} {B : Nat} (hgd : o.guard = none) (d s : Operand)
    (ho : o.op = .call { callee := .builtin .copy, args := #[d, s], argTypes := #[T, T] })
    {g n cap : Nat} {v : Value} {xs : List Int} {f : Nat → Value} (hd : a.eval d = .slice (some ⟨g, 0, none⟩) n cap) (hs : a.eval s = v)
    (hrow : w.rowIs g E n f) (hv : Sees k w v xs) (hlen : xs.length ≤ n) (hb : Below B w0 w) (hBg : B ≤ g)
    (h : ∀ w', Hid (w'.rowIs g E n (fun j => if j < xs.length then .int k (xs.getD j 0) else f j)) → Below B w0 w' → wpList P ops Q rest (a.put o.dst (.int .i64 (xs.length : Int))) w') :
    wpList P ops Q (o :: rest) a w := by
  obtain ⟨A, c, rfl, hc, hm, hcells⟩ := hv
  refine wpList_copy_splice hgd d s T T ho E hT hsz (some ⟨g, 0, none⟩) A n cap xs.length c hd hs g 0 _ E (row_toList hrow) (xs.map (Value.int k)) ?_ ?_ ?_ ?_ B w0 hb hBg ?_
  · rw [List.length_map]; exact (Nat.min_eq_left hlen).symm
  · intro hp
    obtain ⟨b, off, rfl, hcell⟩ := hcells (by intro e; subst e; simp at hp)
    refine ⟨rfl, _, rfl, fun j u hj => ?_⟩
    rw [addr_add]
    simp only [List.getElem?_map] at hj
    obtain ⟨y, hy, rfl⟩ := Option.map_eq_some_iff.1 hj
    obtain ⟨hlt, rfl⟩ := List.getElem?_eq_some_iff.1 hy
    exact hcell j hlt
  · simp; omega
  · intro u hu
    obtain ⟨y, _, rfl⟩ := List.mem_map.1 hu
    rfl
  · intro w' HG hB
    have hg := HG.out
    simp only [List.length_map] at *
    refine h w' (Lib.hid (row_ofList _ hg (by rw [length_splice] <;> simp <;> omega) fun j hj => ?_)) hB
    simp only [splice, List.take_zero, List.nil_append, Nat.zero_add, List.length_map]
    by_cases hjx : j < xs.length
    · rw [List.getElem?_append_left (by simpa using hjx)]
      simp [hjx]
    · have e : xs.length + (j - xs.length) = j := by omega
      rw [List.getElem?_append_right (by simp; omega), List.length_map, List.getElem?_drop, e]
      simp [hj, hjx]

/-- What can be read of a row, from its head on. -/
theorem row_sees {k : IntKind} {w : World} {g : Nat} {t : TypeId} {n : Nat} {f : Nat → Value} (h : w.rowIs g t n f) (xs : List Int) (cap : Nat) (hx : xs.length ≤ n) (hc : xs.length ≤ cap) (hm : cap ≤ maxLen)
    (hf : ∀ j (hj : j < xs.length), f j = .int k xs[j]) : Sees k w (.slice (some ⟨g, 0, none⟩) xs.length cap) xs :=
  ⟨_, cap, rfl, hc, hm, fun _ => ⟨g, 0, rfl, fun j hj => by rw [Nat.zero_add, h.cell (by omega), hf j hj]⟩⟩

end Go.Proofs.Ytgohnekaolgblaa
