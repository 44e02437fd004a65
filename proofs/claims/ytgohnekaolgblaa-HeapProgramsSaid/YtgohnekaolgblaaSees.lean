/- A slice of numbers that can be read, nil or not; its text; two texts are the same just if the numbers are. -/
import Derived.Test.YtgohnekaolgblaaOwn
namespace Go.Proofs.Ytgohnekaolgblaa
open Go.RowKit

/-- The slice value v reads as the numbers xs. -/
def Sees (k : IntKind) (w : World) (v : Value) (xs : List Int) : Prop :=
  ∃ A cap, v = .slice A xs.length cap ∧ xs.length ≤ cap ∧ cap ≤ maxLen ∧ (xs ≠ [] → ∃ b off, A = some ⟨b, off, none⟩ ∧ ∀ j (hj : j < xs.length), w.cell? ⟨b, off + j, none⟩ = some (.int k xs[j]))

theorem addr_add (b off j : Nat) : (⟨b, off, none⟩ : Addr).add j = ⟨b, off + j, none⟩ := by unfold Addr.add; split <;> simp_all

theorem Sees.nil (k : IntKind) (w : World) : Sees k w (.slice none 0 0) [] := ⟨none, 0, rfl, by simp, by simp, fun h => absurd rfl h⟩

theorem Owns.sees {E : TypeId} {k : IntKind} {B : Nat} {w : World} {v : Value} {xs : List Int} (h : Owns E k B w v xs) : Sees k w v xs := by
  by_cases hne : xs = []
  · subst hne
    obtain ⟨_, h2⟩ := h
    rcases h2 with ⟨rfl, _⟩ | ⟨g, cap, cur, rfl, _, _, hn, hm, _⟩
    · exact Sees.nil _ _
    · exact ⟨_, cap, rfl, hn, hm, fun h => absurd rfl h⟩
  · obtain ⟨g, cap, rfl, _, _, hn, hm, hc⟩ := h.cells hne
    exact ⟨_, cap, rfl, hn, hm, fun _ => ⟨g, 0, rfl, fun j hj => by simpa using hc j hj⟩⟩

/-- What is read is read behind whatever leaves all that is there. -/
theorem Sees.below {k : IntKind} {w w' : World} {v : Value} {xs : List Int} (h : Sees k w v xs) {B : Nat} (hb : Below B w w') (hB : w.heap.size ≤ B) : Sees k w' v xs := by
  obtain ⟨A, cap, rfl, hc, hm, h⟩ := h
  refine ⟨A, cap, rfl, hc, hm, fun hne => ?_⟩
  obtain ⟨b, off, rfl, hcell⟩ := h hne
  refine ⟨b, off, rfl, fun j hj => ?_⟩
  have h1 := hcell j hj
  have hlt := World.block_lt_of_cell? w _ h1
  exact (hb.cell (p := ⟨b, off + j, none⟩) (by simp only at hlt ⊢; omega)).trans h1

theorem Sees.alloc {k : IntKind} {w : World} {v : Value} {xs : List Int} (h : Sees k w v xs) (o : Obj) : Sees k (w.alloc o) v xs :=
  h.below ((Below.refl w.heap.size w).alloc (Nat.le_refl _) o) (Nat.le_refl _)

theorem Sees.drew {k : IntKind} {w : World} {v : Value} {xs : List Int} (h : Sees k w v xs) : Sees k w.drew v xs := h
theorem Sees.drewN {k : IntKind} {w : World} {v : Value} {xs : List Int} (h : Sees k w v xs) (n : Nat) : Sees k (w.drewN n) v xs := h

theorem Sees.len {k : IntKind} {w : World} {v : Value} {xs : List Int} (h : Sees k w v xs) : ∃ A cap, v = .slice A xs.length cap ∧ xs.length ≤ cap ∧ cap ≤ maxLen := by
  obtain ⟨A, cap, rfl, hc, hm, _⟩ := h; exact ⟨A, cap, rfl, hc, hm⟩

/-- A piece of what is read, from a place on, to another one: as the walk makes it. -/
theorem Sees.at_ {k : IntKind} {w : World} {A : Option Addr} {n cap : Nat} {xs : List Int} (h : Sees k w (.slice A n cap) xs) (hne : 0 < n) :
    ∃ b off, A = some ⟨b, off, none⟩ ∧ ∀ j (hj : j < xs.length), w.cell? ⟨b, off + j, none⟩ = some (.int k xs[j]) := by
  obtain ⟨A', cap', he, _, _, h⟩ := h
  simp only [Value.slice.injEq] at he
  obtain ⟨rfl, rfl, rfl⟩ := he
  exact h (by intro e; subst e; simp at hne)

/-- The numbers are bytes. -/
def Byt (xs : List Int) : Prop := ∀ n ∈ xs, 0 ≤ n ∧ n ≤ 255

theorem Byt.append {xs ys : List Int} (h : Byt xs) (k : Byt ys) : Byt (xs ++ ys) := by
  intro n hn
  rcases List.mem_append.1 hn with hn | hn
  · exact h n hn
  · exact k n hn

/-- The text of bytes. -/
def str (xs : List Int) : ByteArray := ⟨(xs.map fun n => UInt8.ofNat n.toNat).toArray⟩

theorem str_foldl (xs : List Int) : ∀ s : ByteArray, xs.foldl (fun r n => r.push (UInt8.ofNat n.toNat)) s = ⟨s.data ++ (xs.map fun n => UInt8.ofNat n.toNat).toArray⟩ := by
  induction xs with
  | nil => intro s; simp
  | cons x xs ih =>
    intro s
    rw [List.foldl_cons, ih]
    show (⟨s.data.push _ ++ _⟩ : ByteArray) = _
    congr 1
    apply Array.ext'
    simp

theorem str_of_foldl (xs : List Int) : xs.foldl (fun r n => r.push (UInt8.ofNat n.toNat)) ByteArray.empty = str xs := by
  rw [str_foldl]
  show (⟨#[] ++ _⟩ : ByteArray) = _
  rw [Array.empty_append]; rfl

theorem str_toList (xs : List Int) : (str xs).toList = xs.map fun n => UInt8.ofNat n.toNat := by
  simp [str]

theorem str_size (xs : List Int) : (str xs).size = xs.length := by simp [str, ByteArray.size]

theorem byte_back {n : Int} (h : 0 ≤ n ∧ n ≤ 255) : (UInt8.ofNat n.toNat).toNat = n.toNat := by
  simp; omega

theorem str_inj {xs ys : List Int} (hx : Byt xs) (hy : Byt ys) (h : (str xs).toList = (str ys).toList) : xs = ys := by
  rw [str_toList, str_toList] at h
  induction xs generalizing ys with
  | nil => cases ys <;> simp_all
  | cons x xs ih =>
    cases ys with
    | nil => simp at h
    | cons y ys =>
      simp only [List.map_cons, List.cons.injEq] at h
      have h1 := congrArg UInt8.toNat h.1
      have bx := hx x (by simp)
      have bby := hy y (by simp)
      rw [byte_back bx, byte_back bby] at h1
      rw [ih (fun n hn => hx n (by simp [hn])) (fun n hn => hy n (by simp [hn])) h.2]
      congr 1; omega

theorem str_eq {xs ys : List Int} (hx : Byt xs) (hy : Byt ys) : ((str xs).toList == (str ys).toList) = decide (xs = ys) := by
  by_cases h : xs = ys
  · subst h; simp
  · simp only [h, decide_false, beq_eq_false_iff_ne, ne_eq]
    exact fun e => h (str_inj hx hy e)

/-- string(b). -/
theorem run_str {P : Program} {T E S : TypeId} (hT : P.underlying T = some (.slice E)) (hE : P.underlying E = some (.int .u8)) (hS : P.underlying S = some .string)
    {w : World} {v : Value} {xs : List Int} (h : Sees .u8 w v xs) : (convert T S v).run P w = .ok (.string (str xs)) w := by
  obtain ⟨A, cap, rfl, hc, hm, h⟩ := h
  rw [run_convert_bytes_string w T S E A _ cap hT hE hS]
  by_cases hne : xs = []
  · subst hne
    rcases A with _ | a
    · simp [Conv.bytesToString, Sem.run_pure]; rfl
    · show (Conv.bytesToString (.slice (some a) 0 cap)).run P w = _
      rw [run_bytesToString w a 0 cap [] (by simp [loadCells, loadCellsFrom, Sem.run_pure])]
      rfl
  · obtain ⟨b, off, rfl, hcell⟩ := h hne
    rw [run_bytesToString w ⟨b, off, none⟩ xs.length cap xs ?_, str_of_foldl]
    have := run_loadCells_list (P := P) (w := w) ⟨b, off, none⟩ (xs.map (Value.int .u8)) (by
      intro j u hj
      rw [addr_add]
      simp only [List.getElem?_map] at hj
      obtain ⟨y, hy, rfl⟩ := Option.map_eq_some_iff.1 hj
      obtain ⟨hlt, rfl⟩ := List.getElem?_eq_some_iff.1 hy
      exact hcell j hlt)
    simpa using this

/-- A literal, laid in a new block. -/
theorem Sees.lit (k : IntKind) (w : World) (E : TypeId) (xs : List Int) (cap : Nat) (hc : xs.length ≤ cap) (hm : cap ≤ maxLen) :
    Sees k (w.alloc (.cells (xs.map (Value.int k)).toArray E)) (.slice (some ⟨w.heap.size, 0, none⟩) xs.length cap) xs := by
  refine ⟨_, cap, rfl, hc, hm, fun _ => ⟨w.heap.size, 0, rfl, fun j hj => ?_⟩⟩
  rw [cell_of_row _ _ _ _ _ _ (heap_alloc_new w _)]
  simp [hj]

/-- What the frame tells of a slice of numbers that came in: nil; or a row of cells, of which the first are its elements. -/
def IsRow (k : IntKind) (w : World) (a : Option Addr) (len cap : Nat) (zs : List Int) : Prop :=
  (a = none ∧ len = 0 ∧ cap = 0 ∧ zs = []) ∨
  ∃ x, a = some x ∧ len ≤ cap ∧ cap ≤ maxLen ∧ zs.length = cap ∧ (∀ i, i < zs.length → w.cell? (x.add i) = some (.int k (zs.getD i 0))) ∧ ∀ n ∈ zs, (Lit.int k n).wf = true

theorem IsRow.sees {k : IntKind} {w : World} {a : Option Addr} {len cap : Nat} {zs : List Int} (h : IsRow k w a len cap zs) :
    Sees k w (.slice a len cap) (zs.take len) ∧ (zs.take len).length = len ∧ ∀ n ∈ zs.take len, (Lit.int k n).wf = true := by
  rcases h with ⟨rfl, rfl, rfl, rfl⟩ | ⟨x, rfl, hl, hm, hz, hc, hw⟩
  · exact ⟨Sees.nil _ _, rfl, by simp⟩
  · have hlen : (zs.take len).length = len := by simp; omega
    refine ⟨⟨some x, cap, by rw [hlen], by omega, hm, fun hne => ?_⟩, hlen, fun n hn => hw n (List.mem_of_mem_take hn)⟩
    have hpos : 0 < (zs.take len).length := List.length_pos_iff.2 hne
    have h0 := hc 0 (by omega)
    obtain ⟨b, off, spot⟩ := x
    have hs : spot = none := by simpa [Addr.add] using World.cell?_spot h0
    subst hs
    refine ⟨b, off, rfl, fun j hj => ?_⟩
    have := hc j (by omega)
    rw [addr_add] at this
    rw [this]
    simp [List.getD, List.getElem?_eq_getElem (show j < zs.length by omega)]

end Go.Proofs.Ytgohnekaolgblaa
