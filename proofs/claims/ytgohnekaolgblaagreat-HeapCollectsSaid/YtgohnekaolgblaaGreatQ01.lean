/- What a call owns of numbers: a slice of numbers of its own, that grows by append: the laws of the walk at one kind. -/
import Derived.WalkKit
import Derived.WalkLawsBesides
import Derived.Handy
import Derived.Lib.Hide
import Derived.Deep.RegionHeld3
import Derived.BigRegion
import Derived.BigQuiet
import Derived.Maps.AppendAt
import Derived.Test.YtgohnekaolgblaaGreatProg
namespace Go.Proofs.YtgohnekaolgblaaGreat
open Go.RowKit

/-- The slice value v, among the blocks from B on, holds just the numbers xs. -/
def Owns (E : TypeId) (k : IntKind) (B : Nat) (w : World) (v : Value) (xs : List Int) : Prop := w.ownsRow B E 1 v xs.length (xs.map (Value.int k))

theorem Owns.nil (E : TypeId) (k : IntKind) (B : Nat) (w : World) : Owns E k B w (.slice none 0 0) [] := World.ownsRow_nil _ _ _ _

theorem Owns.alloc {E : TypeId} {k : IntKind} {B : Nat} {w : World} {v : Value} {xs : List Int} (h : Owns E k B w v xs) (o : Obj) : Owns E k B (w.alloc o) v xs := World.ownsRow.alloc h o

theorem Owns.lt {E : TypeId} {k : IntKind} {B : Nat} {w : World} {v : Value} {xs : List Int} (h : Owns E k B w v xs) : ∀ g, v.ownBlock = some g → B ≤ g ∧ g < w.heap.size := World.ownsRow.lt h

theorem Owns.mono {E : TypeId} {k : IntKind} {B B' : Nat} {w : World} {v : Value} {xs : List Int} (h : Owns E k B w v xs) (hB : B' ≤ B) : Owns E k B' w v xs := by
  obtain ⟨h1, h2⟩ := h
  refine ⟨h1, ?_⟩
  rcases h2 with h2 | ⟨g, cap, cur, hv, hg, r⟩
  · exact .inl h2
  · exact .inr ⟨g, cap, cur, hv, Nat.le_trans hB hg, r⟩

/-- What is owned stays owned while the world is kept below a later block. -/
theorem Owns.below {E : TypeId} {k : IntKind} {B C : Nat} {w w' : World} {v : Value} {xs : List Int} (h : Owns E k B w v xs) (hb : Below C w w') (hC : w.heap.size ≤ C) : Owns E k B w' v xs := by
  obtain ⟨h1, h2⟩ := h
  refine ⟨h1, ?_⟩
  rcases h2 with h2 | ⟨g, cap, cur, hv, hg, hh, r⟩
  · exact .inl h2
  · have hlt : g < w.heap.size := by
      by_cases hlt : g < w.heap.size
      · exact hlt
      · rw [Array.getElem?_eq_none (by omega)] at hh; cases hh
    exact .inr ⟨g, cap, cur, hv, hg, by rw [hb.block g (by omega)]; exact hh, r⟩

/-- The cells of what is owned, where there is anything. -/
theorem Owns.cells {E : TypeId} {k : IntKind} {B : Nat} {w : World} {v : Value} {xs : List Int} (h : Owns E k B w v xs) (hne : xs ≠ []) :
    ∃ g cap, v = .slice (some ⟨g, 0, none⟩) xs.length cap ∧ B ≤ g ∧ g < w.heap.size ∧ xs.length ≤ cap ∧ cap ≤ maxLen ∧ ∀ j, (hj : j < xs.length) → w.cell? ⟨g, j, none⟩ = some (.int k xs[j]) := by
  have hc : ∀ {g : Nat}, v.ownBlock = some g → ∀ j u, (xs.map (Value.int k))[j]? = some u → w.cell? ((⟨g, 0, none⟩ : Addr).add j) = some u := fun hg => World.ownsRow.cells h hg
  have hl := Owns.lt h
  obtain ⟨h1, h2⟩ := h
  rcases h2 with ⟨_, h0⟩ | ⟨g, cap, cur, rfl, hg, hh, hn, hm, hs, ht⟩
  · exact absurd (List.length_eq_zero_iff.1 h0) hne
  · refine ⟨g, cap, rfl, hg, (hl g rfl).2, hn, hm, fun j hj => ?_⟩
    have := hc (g := g) rfl j (.int k xs[j]) (by simp [hj])
    have e : (⟨g, 0, none⟩ : Addr).add j = ⟨g, j, none⟩ := by unfold Addr.add; split <;> simp_all
    rw [e] at this; exact this

/-- append(out, y): at the element type's table. -/
theorem app_own {P : Program} {T E : TypeId} {k : IntKind} {bytes : Nat} {i : TypeInfo} (hT : P.underlying T = some (.slice E)) (hi : P.info? E = some i) (hz : i.zero = some (.int k 0)) (hsz : i.size = 1) (hby : i.bytes = bytes)
    {ops : Array Oper} {rest : List Oper} {o : Oper} {a : Act} {Q : Exit → Act → World → Prop} (hgd : o.guard = none) (s x : Operand)
    (ho : o.op = .call { callee := .builtin .append, args := #[s, x], argTypes := #[T, T] })
    {B : Nat} {w0 w : World} {v : Value} {xs : List Int} {y : Int} (hs : a.eval s = v) (hx : a.eval x = .slice (some ⟨w.heap.size, 0, none⟩) 1 1)
    (hown : Owns E k B w v xs) (hbel : Below B w0 w) (hB : B ≤ w.heap.size) (hlen : (xs.length + 1) * bytes ≤ 140737488355328) (hml : xs.length + 1 ≤ maxLen)
    (h : ∀ v' w', Owns E k B w' v' (xs ++ [y]) → Below B w0 w' → B ≤ w'.heap.size → wpList P ops Q rest (a.put o.dst v') w') :
    wpList P ops Q (o :: rest) a (w.alloc (.cells #[.int k y] E)) := by
  refine wpList_append_own _ hgd s x T ho B E i (.int k 0) 1 bytes hT hi hz hsz hby rfl (by decide) v xs.length (xs.map (Value.int k)) hs (World.ownsRow.alloc hown _)
    ⟨w.heap.size, 0, none⟩ 1 1 [.int k y] hx rfl ?_ ?_ hml (by omega) (by simp; omega) ?_
  · intro j u hj
    match j, hj with
    | 0, hj => simp at hj; subst hj; simp [Addr.add]
  · intro u hu; simp at hu; subst hu; rfl
  · intro v' w' ho' hg _
    refine h v' w' ?_ ((hbel.alloc hB _).grown hg (by simp; omega) (fun j hj => (hown.lt j hj).1)) ?_
    · unfold Owns; simpa using ho'
    · have := hg.size; simp at this; omega

/-- Behind a call that leaves what was there: all cells, all marks, the size. -/
theorem bcell {W w1 : World} (hb : Below W.heap.size W w1) :
    (∀ b o, b < W.heap.size → w1.cell? ⟨b, o, none⟩ = W.cell? ⟨b, o, none⟩) ∧ (∀ b o, b < W.heap.size → w1.frozen? ⟨b, o, none⟩ = W.frozen? ⟨b, o, none⟩) ∧ W.heap.size ≤ w1.heap.size :=
  ⟨fun b o h => hb.cell (p := ⟨b, o, none⟩) h, fun b o h => hb.frozen (p := ⟨b, o, none⟩) h, hb.size⟩

/-- Behind a call that leaves what was there: a variable of two cells that was laid last ahead of it. -/
theorem bcell2 {w w1 : World} {x y : Value} {T : TypeId} (hb : Below (w.alloc (.cells #[x, y] T)).heap.size (w.alloc (.cells #[x, y] T)) w1) :
    w1.cell? ⟨w.heap.size, 0, none⟩ = some x ∧ w1.cell? ⟨w.heap.size, 1, none⟩ = some y ∧ w1.frozen? ⟨w.heap.size, 0, none⟩ = false ∧ w1.frozen? ⟨w.heap.size, 1, none⟩ = false ∧ w.heap.size < w1.heap.size := by
  have h0 := hb.cell (p := ⟨w.heap.size, 0, none⟩) (by simp)
  have h1 := hb.cell (p := ⟨w.heap.size, 1, none⟩) (by simp)
  have f0 := hb.frozen (p := ⟨w.heap.size, 0, none⟩) (by simp)
  have f1 := hb.frozen (p := ⟨w.heap.size, 1, none⟩) (by simp)
  have hs := hb.size
  simp only [World.size_alloc] at hs
  refine ⟨h0.trans ?_, h1.trans ?_, f0.trans ?_, f1.trans ?_, by omega⟩
  · rw [cell_of_row _ _ _ _ _ _ (heap_alloc_new w _)]; rfl
  · rw [cell_of_row _ _ _ _ _ _ (heap_alloc_new w _)]; rfl
  · simp only [World.frozen?, heap_alloc_new]; rfl
  · simp only [World.frozen?, heap_alloc_new]; rfl

end Go.Proofs.YtgohnekaolgblaaGreat

/- A slice of numbers that can be read, nil or not; its text; two texts are the same just if the numbers are. -/
namespace Go.Proofs.YtgohnekaolgblaaGreat
open Go.RowKit

/-- The slice value v reads as the numbers xs. -/
def Sees (k : IntKind) (w : World) (v : Value) (xs : List Int) : Prop :=
  ∃ A cap, v = .slice A xs.length cap ∧ xs.length ≤ cap ∧ cap ≤ maxLen ∧ (xs ≠ [] → ∃ b off, A = some ⟨b, off, none⟩ ∧ ∀ j (hj : j < xs.length), w.cell? ⟨b, off + j, none⟩ = some (.int k xs[j]))

theorem addr_add (b off j : Nat) : (⟨b, off, none⟩ : Addr).add j = ⟨b, off + j, none⟩ := by unfold Addr.add; split <;> simp_all

theorem Sees.nil (k : IntKind) (w : World) : Sees k w (.slice none 0 0) [] := ⟨none, 0, rfl, by simp, by simp, fun h => absurd rfl h⟩

theorem Owns.sees {E : TypeId} {k : IntKind} {B : Nat} {w : World} {v : Value} {xs : List Int} (h : Owns E k B w v xs) : Sees k w v xs := by
  by_cases hne : xs = []
  · subst hne
    obtain ⟨_, h2⟩ := h
    rcases h2 with ⟨rfl, _⟩ | ⟨g, cap, cur, rfl, _, _, hn, hm, _⟩
    · exact Sees.nil _ _
    · exact ⟨_, cap, rfl, hn, hm, fun h => absurd rfl h⟩
  · obtain ⟨g, cap, rfl, _, _, hn, hm, hc⟩ := h.cells hne
    exact ⟨_, cap, rfl, hn, hm, fun _ => ⟨g, 0, rfl, fun j hj => by simpa using hc j hj⟩⟩

/-- What is read is read behind whatever leaves all that is there. -/
theorem Sees.below {k : IntKind} {w w' : World} {v : Value} {xs : List Int} (h : Sees k w v xs) {B : Nat} (hb : Below B w w') (hB : w.heap.size ≤ B) : Sees k w' v xs := by
  obtain ⟨A, cap, rfl, hc, hm, h⟩ := h
  refine ⟨A, cap, rfl, hc, hm, fun hne => ?_⟩
  obtain ⟨b, off, rfl, hcell⟩ := h hne
  refine ⟨b, off, rfl, fun j hj => ?_⟩
  have h1 := hcell j hj
  have hlt := World.block_lt_of_cell? w _ h1
  exact (hb.cell (p := ⟨b, off + j, none⟩) (by simp only at hlt ⊢; omega)).trans h1

theorem Sees.alloc {k : IntKind} {w : World} {v : Value} {xs : List Int} (h : Sees k w v xs) (o : Obj) : Sees k (w.alloc o) v xs :=
  h.below ((Below.refl w.heap.size w).alloc (Nat.le_refl _) o) (Nat.le_refl _)

theorem Sees.drew {k : IntKind} {w : World} {v : Value} {xs : List Int} (h : Sees k w v xs) : Sees k w.drew v xs := h
theorem Sees.drewN {k : IntKind} {w : World} {v : Value} {xs : List Int} (h : Sees k w v xs) (n : Nat) : Sees k (w.drewN n) v xs := h

theorem Sees.len {k : IntKind} {w : World} {v : Value} {xs : List Int} (h : Sees k w v xs) : ∃ A cap, v = .slice A xs.length cap ∧ xs.length ≤ cap ∧ cap ≤ maxLen := by
  obtain ⟨A, cap, rfl, hc, hm, _⟩ := h; exact ⟨A, cap, rfl, hc, hm⟩

/-- A piece of what is read, from a place on, to another one: as the walk makes it. -/
theorem Sees.at_ {k : IntKind} {w : World} {A : Option Addr} {n cap : Nat} {xs : List Int} (h : Sees k w (.slice A n cap) xs) (hne : 0 < n) :
    ∃ b off, A = some ⟨b, off, none⟩ ∧ ∀ j (hj : j < xs.length), w.cell? ⟨b, off + j, none⟩ = some (.int k xs[j]) := by
  obtain ⟨A', cap', he, _, _, h⟩ := h
  simp only [Value.slice.injEq] at he
  obtain ⟨rfl, rfl, rfl⟩ := he
  exact h (by intro e; subst e; simp at hne)

/-- The numbers are bytes. -/
def Byt (xs : List Int) : Prop := ∀ n ∈ xs, 0 ≤ n ∧ n ≤ 255

theorem Byt.append {xs ys : List Int} (h : Byt xs) (k : Byt ys) : Byt (xs ++ ys) := by
  intro n hn
  rcases List.mem_append.1 hn with hn | hn
  · exact h n hn
  · exact k n hn

/-- The text of bytes. -/
def str (xs : List Int) : ByteArray := ⟨(xs.map fun n => UInt8.ofNat n.toNat).toArray⟩

theorem str_foldl (xs : List Int) : ∀ s : ByteArray, xs.foldl (fun r n => r.push (UInt8.ofNat n.toNat)) s = ⟨s.data ++ (xs.map fun n => UInt8.ofNat n.toNat).toArray⟩ := by
  induction xs with
  | nil => intro s; simp
  | cons x xs ih =>
    intro s
    rw [List.foldl_cons, ih]
    show (⟨s.data.push _ ++ _⟩ : ByteArray) = _
    congr 1
    apply Array.ext'
    simp

theorem str_of_foldl (xs : List Int) : xs.foldl (fun r n => r.push (UInt8.ofNat n.toNat)) ByteArray.empty = str xs := by
  rw [str_foldl]
  show (⟨#[] ++ _⟩ : ByteArray) = _
  rw [Array.empty_append]; rfl

theorem str_toList (xs : List Int) : (str xs).toList = xs.map fun n => UInt8.ofNat n.toNat := by
  simp [str]

theorem str_size (xs : List Int) : (str xs).size = xs.length := by simp [str, ByteArray.size]

theorem byte_back {n : Int} (h : 0 ≤ n ∧ n ≤ 255) : (UInt8.ofNat n.toNat).toNat = n.toNat := by
  simp; omega

theorem str_inj {xs ys : List Int} (hx : Byt xs) (hy : Byt ys) (h : (str xs).toList = (str ys).toList) : xs = ys := by
  rw [str_toList, str_toList] at h
  induction xs generalizing ys with
  | nil => cases ys <;> simp_all
  | cons x xs ih =>
    cases ys with
    | nil => simp at h
    | cons y ys =>
      simp only [List.map_cons, List.cons.injEq] at h
      have h1 := congrArg UInt8.toNat h.1
      have bx := hx x (by simp)
      have bby := hy y (by simp)
      rw [byte_back bx, byte_back bby] at h1
      rw [ih (fun n hn => hx n (by simp [hn])) (fun n hn => hy n (by simp [hn])) h.2]
      congr 1; omega

theorem str_eq {xs ys : List Int} (hx : Byt xs) (hy : Byt ys) : ((str xs).toList == (str ys).toList) = decide (xs = ys) := by
  by_cases h : xs = ys
  · subst h; simp
  · simp only [h, decide_false, beq_eq_false_iff_ne, ne_eq]
    exact fun e => h (str_inj hx hy e)

/-- string(b). -/
theorem run_str {P : Program} {T E S : TypeId} (hT : P.underlying T = some (.slice E)) (hE : P.underlying E = some (.int .u8)) (hS : P.underlying S = some .string)
    {w : World} {v : Value} {xs : List Int} (h : Sees .u8 w v xs) : (convert T S v).run P w = .ok (.string (str xs)) w := by
  obtain ⟨A, cap, rfl, hc, hm, h⟩ := h
  rw [run_convert_bytes_string w T S E A _ cap hT hE hS]
  by_cases hne : xs = []
  · subst hne
    rcases A with _ | a
    · simp [Conv.bytesToString, Sem.run_pure]; rfl
    · show (Conv.bytesToString (.slice (some a) 0 cap)).run P w = _
      rw [run_bytesToString w a 0 cap [] (by simp [loadCells, loadCellsFrom, Sem.run_pure])]
      rfl
  · obtain ⟨b, off, rfl, hcell⟩ := h hne
    rw [run_bytesToString w ⟨b, off, none⟩ xs.length cap xs ?_, str_of_foldl]
    have := run_loadCells_list (P := P) (w := w) ⟨b, off, none⟩ (xs.map (Value.int .u8)) (by
      intro j u hj
      rw [addr_add]
      simp only [List.getElem?_map] at hj
      obtain ⟨y, hy, rfl⟩ := Option.map_eq_some_iff.1 hj
      obtain ⟨hlt, rfl⟩ := List.getElem?_eq_some_iff.1 hy
      exact hcell j hlt)
    simpa using this

/-- A literal, laid in a new block. -/
theorem Sees.lit (k : IntKind) (w : World) (E : TypeId) (xs : List Int) (cap : Nat) (hc : xs.length ≤ cap) (hm : cap ≤ maxLen) :
    Sees k (w.alloc (.cells (xs.map (Value.int k)).toArray E)) (.slice (some ⟨w.heap.size, 0, none⟩) xs.length cap) xs := by
  refine ⟨_, cap, rfl, hc, hm, fun _ => ⟨w.heap.size, 0, rfl, fun j hj => ?_⟩⟩
  rw [cell_of_row _ _ _ _ _ _ (heap_alloc_new w _)]
  simp [hj]

/-- What the frame tells of a slice of numbers that came in: nil; or a row of cells, of which the first are its elements. -/
def IsRow (k : IntKind) (w : World) (a : Option Addr) (len cap : Nat) (zs : List Int) : Prop :=
  (a = none ∧ len = 0 ∧ cap = 0 ∧ zs = []) ∨
  ∃ x, a = some x ∧ len ≤ cap ∧ cap ≤ maxLen ∧ zs.length = cap ∧ (∀ i, i < zs.length → w.cell? (x.add i) = some (.int k (zs.getD i 0))) ∧ ∀ n ∈ zs, (Lit.int k n).wf = true

theorem IsRow.sees {k : IntKind} {w : World} {a : Option Addr} {len cap : Nat} {zs : List Int} (h : IsRow k w a len cap zs) :
    Sees k w (.slice a len cap) (zs.take len) ∧ (zs.take len).length = len ∧ ∀ n ∈ zs.take len, (Lit.int k n).wf = true := by
  rcases h with ⟨rfl, rfl, rfl, rfl⟩ | ⟨x, rfl, hl, hm, hz, hc, hw⟩
  · exact ⟨Sees.nil _ _, rfl, by simp⟩
  · have hlen : (zs.take len).length = len := by simp; omega
    refine ⟨⟨some x, cap, by rw [hlen], by omega, hm, fun hne => ?_⟩, hlen, fun n hn => hw n (List.mem_of_mem_take hn)⟩
    have hpos : 0 < (zs.take len).length := List.length_pos_iff.2 hne
    have h0 := hc 0 (by omega)
    obtain ⟨b, off, spot⟩ := x
    have hs : spot = none := by simpa [Addr.add] using World.cell?_spot h0
    subst hs
    refine ⟨b, off, rfl, fun j hj => ?_⟩
    have := hc j (by omega)
    rw [addr_add] at this
    rw [this]
    simp [List.getD, List.getElem?_eq_getElem (show j < zs.length by omega)]

end Go.Proofs.YtgohnekaolgblaaGreat

/- append(out, xs...): out a slice of the call's own, xs any slice that can be read, nil or not. -/
namespace Go.Proofs.YtgohnekaolgblaaGreat
open Go.RowKit

theorem run_app_nil {P : Program} {w : World} {T ty E : TypeId} {i : TypeInfo} (hT : P.underlying T = some (.slice E)) (hi : P.info? E = some i)
    {B : Nat} {k : IntKind} {v : Value} {xs : List Int} (h : Owns E k B w v xs) (c : Nat) : (Builtin.append_ #[T, T] ty #[v, .slice none 0 c]).run P w = .ok v w := by
  rcases h.2 with ⟨rfl, hn⟩ | ⟨g, cap, cur, rfl, _, _, hnc, _⟩
  · simp [Builtin.append_, run_underlying hT, sizeOf, typeInfo, hi, Builtin.lenOf, Builtin.firstCells]
  · simp [Builtin.append_, run_underlying hT, sizeOf, typeInfo, hi, Builtin.lenOf, Builtin.firstCells, hnc, storeCells]

theorem app_nil {P : Program} {T E : TypeId} {i : TypeInfo} (hT : P.underlying T = some (.slice E)) (hi : P.info? E = some i) {w : World}
    {ops : Array Oper} {rest : List Oper} {o : Oper} {a : Act} {Q : Exit → Act → World → Prop} (hgd : o.guard = none) (s x : Operand)
    (ho : o.op = .call { callee := .builtin .append, args := #[s, x], argTypes := #[T, T] })
    {B : Nat} {k : IntKind} {v : Value} {xs : List Int} (hs : a.eval s = v) (hown : Owns E k B w v xs) {c : Nat} (hx : a.eval x = .slice none 0 c)
    (h : wpList P ops Q rest (a.put o.dst v) w) : wpList P ops Q (o :: rest) a w := by
  refine wpList_plain hgd fun K hK => ?_
  have hrun := run_app_nil (P := P) (w := w) (ty := o.type) hT hi hown c
  unfold Oper.wp execOp
  simp only [ho, resolve, invoke, builtin, Sem.run_bind, Sem.run_pure, Result.andThen_ok, List.map_toArray, List.map_cons, List.map_nil, hs, hx, hrun]
  exact hK _ _ h

/-- append(out, xs...). -/
theorem app_src {P : Program} {T E : TypeId} {k : IntKind} {bytes : Nat} {i : TypeInfo} (hT : P.underlying T = some (.slice E)) (hi : P.info? E = some i) (hz : i.zero = some (.int k 0)) (hsz : i.size = 1) (hby : i.bytes = bytes)
    {ops : Array Oper} {rest : List Oper} {o : Oper} {a : Act} {Q : Exit → Act → World → Prop} (hgd : o.guard = none) (s x : Operand)
    (ho : o.op = .call { callee := .builtin .append, args := #[s, x], argTypes := #[T, T] })
    {B : Nat} {w0 w : World} {v u : Value} {xs ys : List Int} (hs : a.eval s = v) (hx : a.eval x = u) (hu : Sees k w u ys)
    (hown : Owns E k B w v xs) (hbel : Below B w0 w) (hB : B ≤ w.heap.size) (hlen : (xs.length + ys.length) * bytes ≤ 140737488355328) (hml : xs.length + ys.length ≤ maxLen)
    (h : ∀ v' w', Owns E k B w' v' (xs ++ ys) → Below B w0 w' → B ≤ w'.heap.size → w.grownBy w' v.ownBlock → wpList P ops Q rest (a.put o.dst v') w') :
    wpList P ops Q (o :: rest) a w := by
  obtain ⟨A, cap, rfl, _, _, hc⟩ := hu
  rcases A with _ | ad
  · have hy : ys = [] := by
      by_cases hne : ys = []
      · exact hne
      · obtain ⟨b, off, he, _⟩ := hc hne; cases he
    subst hy
    exact app_nil hT hi hgd s x ho hs hown hx (h _ _ (by simpa using hown) hbel hB (World.grownBy.refl w _))
  · refine wpList_append_own _ hgd s x T ho B E i (.int k 0) 1 bytes hT hi hz hsz hby rfl (by decide) v xs.length (xs.map (Value.int k)) hs hown ad ys.length cap (ys.map (Value.int k)) hx (by simp) ?_ ?_ hml hlen hB ?_
    · intro j z hj
      have hlt : j < ys.length := by
        have := (List.getElem?_eq_some_iff.1 hj).1; simpa using this
      obtain ⟨b, off, he, hcell⟩ := hc (by intro e; subst e; simp at hlt)
      simp only [Option.some.injEq] at he
      subst he
      rw [addr_add, hcell j hlt]
      simp only [List.getElem?_map, List.getElem?_eq_getElem hlt, Option.map_some, Option.some.injEq] at hj
      rw [hj]
    · intro z hz
      obtain ⟨n, _, rfl⟩ := List.mem_map.1 hz
      rfl
    · intro v' w' ho' hg _
      refine h v' w' ?_ (hbel.grown hg hB (fun j hj => (hown.lt j hj).1)) (by have := hg.size; omega) hg
      unfold Owns; simpa using ho'

/-- A literal without elements. -/
theorem Owns.empty (E : TypeId) (k : IntKind) (w : World) : Owns E k w.heap.size (w.alloc (.cells #[] E)) (.slice (some ⟨w.heap.size, 0, none⟩) 0 0) [] :=
  World.ownsRow_made w #[] 0 (Nat.le_refl _) (by simp) (by simp)

/-- A literal, laid in a new block, is the call's own. -/
theorem Owns.lit (E : TypeId) (k : IntKind) (w : World) (xs : List Int) (B : Nat) (hB : B ≤ w.heap.size) (hm : xs.length ≤ maxLen) :
    Owns E k B (w.alloc (.cells (xs.map (Value.int k)).toArray E)) (.slice (some ⟨w.heap.size, 0, none⟩) xs.length xs.length) xs :=
  ⟨by simp, .inr ⟨w.heap.size, xs.length, _, rfl, hB, heap_alloc_new w _, Nat.le_refl _, hm, by simp, by simp only [Nat.mul_one]; exact List.take_of_length_le (by simp)⟩⟩

/-- What is owned stays owned where another row of the call's own may have grown. -/
theorem Owns.grown {E : TypeId} {k : IntKind} {B : Nat} {w w' : World} {v : Value} {xs : List Int} {row : Option Nat} (h : Owns E k B w v xs) (hg : w.grownBy w' row) (hne : v.ownBlock = none ∨ v.ownBlock ≠ row) : Owns E k B w' v xs :=
  World.ownsRow.kept h hg hne

end Go.Proofs.YtgohnekaolgblaaGreat

/- append(out, xs...) as one step of a region that draws its order. -/
namespace Go.Proofs.YtgohnekaolgblaaGreat
open Go.RowKit

theorem step_app {P : Program} {T E : TypeId} {k : IntKind} {bytes : Nat} {i : TypeInfo} (hT : P.underlying T = some (.slice E)) (hi : P.info? E = some i) (hz : i.zero = some (.int k 0)) (hsz : i.size = 1) (hby : i.bytes = bytes)
    {ops : Array Oper} {o : Oper} {a : Act} {K : Act → World → Prop} {Q : Exit → Act → World → Prop} {R : Prop} (hgd : o.guard = none) (s x : Operand)
    (ho : o.op = .call { callee := .builtin .append, args := #[s, x], argTypes := #[T, T] })
    {B : Nat} {w0 w : World} {v u : Value} {xs ys : List Int} (hs : a.eval s = v) (hx : a.eval x = u) (hu : Sees k w u ys)
    (hown : Owns E k B w v xs) (hbel : Below B w0 w) (hB : B ≤ w.heap.size) (hlen : (xs.length + ys.length) * bytes ≤ 140737488355328) (hml : xs.length + ys.length ≤ maxLen)
    (h : ∀ v' w', Owns E k B w' v' (xs ++ ys) → Below B w0 w' → B ≤ w'.heap.size → w.grownBy w' v.ownBlock → K (a.put o.dst v') w') :
    if Region.wanted o (yielded ops a.tmps) = true then Oper.wp P o a w K Q else R := by
  have hw : Region.wanted o (yielded ops a.tmps) = true := by simp [Region.wanted, hgd]
  rw [if_pos hw]
  obtain ⟨A, cap, rfl, _, _, hc⟩ := hu
  rcases A with _ | ad
  · have hy : ys = [] := by
      by_cases hne : ys = []
      · exact hne
      · obtain ⟨b, off, he, _⟩ := hc hne; cases he
    subst hy
    simp only [List.length_nil] at hx
    have hrun := run_app_nil (P := P) (w := w) (ty := o.type) hT hi hown cap
    unfold Oper.wp execOp
    simp only [ho, resolve, invoke, builtin, Sem.run_bind, Sem.run_pure, Result.andThen_ok, List.map_toArray, List.map_cons, List.map_nil, hs, hx, hrun]
    exact h _ _ (by simpa using hown) hbel hB (World.grownBy.refl w _)
  · refine wp_append_own w s x T ho B E i (.int k 0) 1 bytes hT hi hz hsz hby rfl (by decide) v xs.length (xs.map (Value.int k)) hs hown ad ys.length cap (ys.map (Value.int k)) hx (by simp) ?_ ?_ hml hlen hB ?_
    · intro j z hj
      have hlt : j < ys.length := by
        have := (List.getElem?_eq_some_iff.1 hj).1; simpa using this
      obtain ⟨b, off, he, hcell⟩ := hc (by intro e; subst e; simp at hlt)
      simp only [Option.some.injEq] at he
      subst he
      rw [addr_add, hcell j hlt]
      simp only [List.getElem?_map, List.getElem?_eq_getElem hlt, Option.map_some, Option.some.injEq] at hj
      rw [hj]
    · intro z hz
      obtain ⟨n, _, rfl⟩ := List.mem_map.1 hz
      rfl
    · intro v' w' ho' hg _
      refine h v' w' ?_ (hbel.grown hg hB (fun j hj => (hown.lt j hj).1)) (by have := hg.size; omega) hg
      unfold Owns; simpa using ho'

/-- What is seen, that lies not in the block that has grown, is seen behind the growth. -/
theorem Sees.grown {k : IntKind} {w w' : World} {v : Value} {xs : List Int} {r : Option Nat} (h : Sees k w v xs) (hg : w.grownBy w' r) (hr : ∀ g, r = some g → ∀ b off, (∃ n c, v = .slice (some ⟨b, off, none⟩) n c) → b ≠ g) : Sees k w' v xs := by
  obtain ⟨A, cap, rfl, hc, hm, h⟩ := h
  refine ⟨A, cap, rfl, hc, hm, fun hne => ?_⟩
  obtain ⟨b, off, rfl, hcell⟩ := h hne
  refine ⟨b, off, rfl, fun j hj => ?_⟩
  have h1 := hcell j hj
  have hlt := World.block_lt_of_cell? w _ h1
  have hb := hg.block b (by simpa using hlt) (fun e => hr b e.symm b off ⟨_, _, rfl⟩ rfl)
  rw [World.cell?_of_block (w := w) (by simpa using hb)]
  exact h1

end Go.Proofs.YtgohnekaolgblaaGreat

/- What is used by all walks: worlds behind calls, variables known whole. (For the seats without layer 4.) -/
namespace Go.Proofs.YtgohnekaolgblaaGreat
open Go.RowKit

theorem Byt.of_wf {xs : List Int} (h : ∀ n ∈ xs, (Lit.int .u8 n).wf = true) : Byt xs := fun n hn => by
  have := bounds_u8 (h n hn); omega

theorem wf_u32 {n : Int} (h : (Lit.int .u32 n).wf = true) : 0 ≤ n ∧ n < 4294967296 := by
  have := bounds_u32 h; omega

theorem B.call {w W w' : World} (h : Below w.heap.size w W) (b : Below W.heap.size W w') : Below w.heap.size w w' := h.trans (b.mono h.size)
theorem B.alloc {w W : World} (h : Below w.heap.size w W) (o : Obj) : Below w.heap.size w (W.alloc o) := h.alloc h.size o
theorem B.refl (w : World) : Below w.heap.size w w := Below.refl _ _

/-- A cell that was there ahead of a call that leaves what was there. -/
theorem cellK {W w2 : World} (hb : Below W.heap.size W w2) {b o : Nat} {v : Value} (h : W.cell? ⟨b, o, none⟩ = some v) : w2.cell? ⟨b, o, none⟩ = some v :=
  (hb.cell (p := ⟨b, o, none⟩) (World.block_lt_of_cell? W _ h)).trans h

theorem cellA {w : World} {b o : Nat} {v : Value} (h : w.cell? ⟨b, o, none⟩ = some v) (ob : Obj) : (w.alloc ob).cell? ⟨b, o, none⟩ = some v :=
  (World.cell?_alloc_past _ _ _ (World.block_lt_of_cell? w _ h)).trans h
theorem cellN0 (w : World) (x y : Value) (T : TypeId) : (w.alloc (.cells #[x, y] T)).cell? ⟨w.heap.size, 0, none⟩ = some x := by
  rw [cell_of_row _ _ _ _ _ _ (heap_alloc_new w _)]; rfl
theorem cellN1 (w : World) (x y : Value) (T : TypeId) : (w.alloc (.cells #[x, y] T)).cell? ⟨w.heap.size, 1, none⟩ = some y := by
  rw [cell_of_row _ _ _ _ _ _ (heap_alloc_new w _)]; rfl

/-- A variable of a few cells in block t. -/
def VB (w : World) (t : Nat) (T : TypeId) (cs : Array Value) : Prop := w.heap[t]? = some (.cells cs T (0, 0))

theorem VB.cell {w : World} {t : Nat} {T : TypeId} {cs : Array Value} (h : VB w t T cs) (i : Nat) : w.cell? ⟨t, i, none⟩ = cs[i]? := cell_of_row w t i _ _ _ h
theorem VB.free {w : World} {t : Nat} {T : TypeId} {cs : Array Value} (h : VB w t T cs) (i : Nat) : w.frozen? ⟨t, i, none⟩ = false := by
  unfold VB at h; simp [World.frozen?, h]
theorem VB.lt {w : World} {t : Nat} {T : TypeId} {cs : Array Value} (h : VB w t T cs) : t < w.heap.size := by
  rcases Nat.lt_or_ge t w.heap.size with hlt | hge
  · exact hlt
  · unfold VB at h; rw [Array.getElem?_eq_none hge] at h; cases h
theorem VB.set {w : World} {t : Nat} {T : TypeId} {cs : Array Value} (h : VB w t T cs) (i : Nat) (u : Value) : VB (w.setCell ⟨t, i, none⟩ u) t T (cs.setIfInBounds i u) := by
  unfold VB at h ⊢
  simp [World.setCell, Array.getElem?_modify, h]
theorem VB.grown {w w' : World} {t : Nat} {T : TypeId} {cs : Array Value} (h : VB w t T cs) {g : Nat} (hg : w.grownBy w' (some g)) (hne : t ≠ g) : VB w' t T cs := (hg.block t h.lt (by simpa using hne)).trans h
theorem VB.alloc {w : World} {t : Nat} {T : TypeId} {cs : Array Value} (h : VB w t T cs) (o : Obj) : VB (w.alloc o) t T cs := (Below.heap_alloc w o t h.lt).trans h
theorem VB.below {w w' : World} {t : Nat} {T : TypeId} {cs : Array Value} (h : VB w t T cs) {B : Nat} (hb : Below B w w') (hB : t < B) : VB w' t T cs := (hb.block t hB).trans h
theorem VB.new (w : World) (T : TypeId) (cs : Array Value) : VB (w.alloc (.cells cs T)) w.heap.size T cs := heap_alloc_new w _
theorem VB.far {w : World} {t : Nat} {T : TypeId} {cs : Array Value} (h : VB w t T cs) (b i : Nat) (hne : t ≠ b) (u : Value) : VB (w.setCell ⟨b, i, none⟩ u) t T cs := (Below.heap_setCell w ⟨b, i, none⟩ u t hne).trans h
theorem VB.call {w w' : World} {t : Nat} {T : TypeId} {cs : Array Value} (h : VB w t T cs) (b : Below w.heap.size w w') : VB w' t T cs := h.below b h.lt

end Go.Proofs.YtgohnekaolgblaaGreat

/- append, with where the new slice lies. -/
namespace Go.Proofs.YtgohnekaolgblaaGreat
open Go.RowKit

theorem run_app_at {P : Program} {T ty E : TypeId} {k : IntKind} {bytes : Nat} {i : TypeInfo} (hT : P.underlying T = some (.slice E)) (hi : P.info? E = some i) (hz : i.zero = some (.int k 0)) (hsz : i.size = 1) (hby : i.bytes = bytes)
    {B : Nat} {w : World} {v u : Value} {xs ys : List Int} (hu : Sees k w u ys) (hown : Owns E k B w v xs) (hB : B ≤ w.heap.size) (hlen : (xs.length + ys.length) * bytes ≤ 140737488355328) (hml : xs.length + ys.length ≤ maxLen) :
    ∃ v' w', (Builtin.append_ #[T, T] ty #[v, u]).run P w = .ok v' w' ∧ Owns E k B w' v' (xs ++ ys) ∧ w.grownBy w' v.ownBlock ∧ (v'.ownBlock = v.ownBlock ∨ v'.ownBlock = some w.heap.size) := by
  obtain ⟨A, cap, rfl, _, _, hc⟩ := hu
  rcases A with _ | ad
  · have hy : ys = [] := by
      by_cases hne : ys = []
      · exact hne
      · obtain ⟨b, off, he, _⟩ := hc hne; cases he
    subst hy
    have hrun := run_app_nil (P := P) (w := w) (ty := ty) hT hi hown cap
    exact ⟨v, w, hrun, by simpa using hown, World.grownBy.refl w _, .inl rfl⟩
  · obtain ⟨v', w', h1, h2, h3, _, h5⟩ := run_append_own_at (P := P) w B T ty E i (.int k 0) 1 bytes hT hi hz hsz hby rfl (by decide) v xs.length (xs.map (Value.int k)) hown ad ys.length cap (ys.map (Value.int k)) (by simp) (by
      intro j z hj
      have hlt : j < ys.length := by
        have := (List.getElem?_eq_some_iff.1 hj).1; simpa using this
      obtain ⟨b, off, he, hcell⟩ := hc (by intro e; subst e; simp at hlt)
      simp only [Option.some.injEq] at he
      subst he
      rw [addr_add, hcell j hlt]
      simp only [List.getElem?_map, List.getElem?_eq_getElem hlt, Option.map_some, Option.some.injEq] at hj
      rw [hj]) (by
      intro z hz
      obtain ⟨n, _, rfl⟩ := List.mem_map.1 hz
      rfl) hml hlen hB
    exact ⟨v', w', h1, by unfold Owns; simpa using h2, h3, h5⟩

/-- append at the walk. -/
theorem app_at {P : Program} {T E : TypeId} {k : IntKind} {bytes : Nat} {i : TypeInfo} (hT : P.underlying T = some (.slice E)) (hi : P.info? E = some i) (hz : i.zero = some (.int k 0)) (hsz : i.size = 1) (hby : i.bytes = bytes)
    {ops : Array Oper} {rest : List Oper} {o : Oper} {a : Act} {Q : Exit → Act → World → Prop} (hgd : o.guard = none) (s x : Operand)
    (ho : o.op = .call { callee := .builtin .append, args := #[s, x], argTypes := #[T, T] })
    {B : Nat} {w : World} {v u : Value} {xs ys : List Int} (hs : a.eval s = v) (hx : a.eval x = u) (hu : Sees k w u ys)
    (hown : Owns E k B w v xs) (hB : B ≤ w.heap.size) (hlen : (xs.length + ys.length) * bytes ≤ 140737488355328) (hml : xs.length + ys.length ≤ maxLen)
    (h : ∀ v' w', Owns E k B w' v' (xs ++ ys) → w.grownBy w' v.ownBlock → (v'.ownBlock = v.ownBlock ∨ v'.ownBlock = some w.heap.size) → wpList P ops Q rest (a.put o.dst v') w') :
    wpList P ops Q (o :: rest) a w := by
  refine wpList_plain hgd fun K' hK' => ?_
  obtain ⟨v', w', hrun, h1, h2, h3⟩ := run_app_at (P := P) (ty := o.type) hT hi hz hsz hby hu hown hB hlen hml
  unfold Oper.wp execOp
  simp only [ho, resolve, invoke, builtin, Sem.run_bind, Sem.run_pure, Result.andThen_ok, List.map_toArray, List.map_cons, List.map_nil, hs, hx, hrun]
  exact hK' _ _ (h v' w' h1 h2 h3)

/-- append as one step of a region that draws its order. -/
theorem step_app_at {P : Program} {T E : TypeId} {k : IntKind} {bytes : Nat} {i : TypeInfo} (hT : P.underlying T = some (.slice E)) (hi : P.info? E = some i) (hz : i.zero = some (.int k 0)) (hsz : i.size = 1) (hby : i.bytes = bytes)
    {ops : Array Oper} {o : Oper} {a : Act} {K : Act → World → Prop} {Q : Exit → Act → World → Prop} {R : Prop} (hgd : o.guard = none) (s x : Operand)
    (ho : o.op = .call { callee := .builtin .append, args := #[s, x], argTypes := #[T, T] })
    {B : Nat} {w : World} {v u : Value} {xs ys : List Int} (hs : a.eval s = v) (hx : a.eval x = u) (hu : Sees k w u ys)
    (hown : Owns E k B w v xs) (hB : B ≤ w.heap.size) (hlen : (xs.length + ys.length) * bytes ≤ 140737488355328) (hml : xs.length + ys.length ≤ maxLen)
    (h : ∀ v' w', Owns E k B w' v' (xs ++ ys) → w.grownBy w' v.ownBlock → (v'.ownBlock = v.ownBlock ∨ v'.ownBlock = some w.heap.size) → K (a.put o.dst v') w') :
    if Region.wanted o (yielded ops a.tmps) = true then Oper.wp P o a w K Q else R := by
  have hw : Region.wanted o (yielded ops a.tmps) = true := by simp [Region.wanted, hgd]
  rw [if_pos hw]
  obtain ⟨v', w', hrun, h1, h2, h3⟩ := run_app_at (P := P) (ty := o.type) hT hi hz hsz hby hu hown hB hlen hml
  unfold Oper.wp execOp
  simp only [ho, resolve, invoke, builtin, Sem.run_bind, Sem.run_pure, Result.andThen_ok, List.map_toArray, List.map_cons, List.map_nil, hs, hx, hrun]
  exact h v' w' h1 h2 h3

/-- One number in a new block is seen. -/
theorem Sees.one (k : IntKind) (w : World) (E : TypeId) (y : Int) (g : Nat) (hg : g = w.heap.size) : Sees k (w.alloc (.cells #[.int k y] E)) (.slice (some ⟨g, 0, none⟩) 1 1) [y] := by
  subst hg
  exact ⟨_, 1, rfl, by simp, by simp [maxLen], fun _ => ⟨w.heap.size, 0, rfl, fun j hj => by
    obtain rfl : j = 0 := by simp at hj; omega
    exact (VB.new w E #[.int k y]).cell 0⟩⟩
theorem Sees.grownRow {k : IntKind} {w w' : World} {v : Value} {xs : List Int} {r : Option Nat} (h : Sees k w v xs) (hg : w.grownBy w' r) (hr : ∀ b off c, v = .slice (some ⟨b, off, none⟩) xs.length c → xs ≠ [] → r ≠ some b) : Sees k w' v xs := by
  obtain ⟨A, cap, rfl, hc, hm, h⟩ := h
  refine ⟨A, cap, rfl, hc, hm, fun hne => ?_⟩
  obtain ⟨b, off, rfl, hcell⟩ := h hne
  refine ⟨b, off, rfl, fun j hj => ?_⟩
  exact hg.cell (hcell j hj) (fun e => hr b off cap rfl hne e.symm)

end Go.Proofs.YtgohnekaolgblaaGreat

/- Bits of numbers of any kind: a mask of the lowest bits is a remainder; bits that do not meet are a sum. -/
namespace Go.Proofs.YtgohnekaolgblaaGreat
open Go.RowKit

theorem wrap_small (k : IntKind) (n : Nat) (h : n < 2 ^ (k.bits - 1)) : k.wrap (n : Int) = n := by
  cases k <;> simp [IntKind.wrap, IntKind.bits, IntKind.signed] at * <;> omega

theorem ofInt_toNat (n : Nat) (y : Int) : ((BitVec.ofInt n y).toNat : Int) = y % 2 ^ n := by
  rw [BitVec.toNat_ofInt]
  have : (0 : Int) < 2 ^ n := Int.pow_pos (by decide)
  have := Int.emod_nonneg y (show (2 : Int) ^ n ≠ 0 by omega)
  simp; omega

theorem ofInt_natCast_toNat (n m : Nat) (h : m < 2 ^ n) : (BitVec.ofInt n (m : Int)).toNat = m := by
  rw [BitVec.ofInt_natCast, BitVec.toNat_ofNat]; exact Nat.mod_eq_of_lt h

theorem lt_bits (k : IntKind) {m : Nat} (h : m < 2 ^ (k.bits - 1)) : m < 2 ^ k.bits := by
  cases k <;> simp [IntKind.bits] at * <;> omega

/-- A mask of the lowest bits, of a number of any sign. -/
theorem bits_mask (k : IntKind) (y : Int) (j : Nat) (hj : j < k.bits) : bits .and k y (2 ^ j - 1) = y % 2 ^ j := by
  have hp : (1 : Nat) ≤ 2 ^ j := Nat.one_le_two_pow
  have hm : 2 ^ j - 1 < 2 ^ (k.bits - 1) := by
    have : 2 ^ j ≤ 2 ^ (k.bits - 1) := Nat.pow_le_pow_right (by omega) (by omega)
    omega
  have hc : ((2 : Int) ^ j - 1) = ((2 ^ j - 1 : Nat) : Int) := by rw [Int.ofNat_sub hp]; simp
  have hlt : (BitVec.ofInt k.bits y &&& BitVec.ofInt k.bits ((2 ^ j - 1 : Nat) : Int)).toNat = (BitVec.ofInt k.bits y).toNat % 2 ^ j := by
    rw [BitVec.toNat_and, ofInt_natCast_toNat _ _ (lt_bits k hm), Nat.and_two_pow_sub_one_eq_mod]
  show k.wrap ((BitVec.ofInt k.bits y &&& BitVec.ofInt k.bits ((2 : Int) ^ j - 1)).toNat : Int) = _
  rw [hc, hlt, wrap_small k _ (Nat.lt_of_lt_of_le (Nat.mod_lt _ (by omega)) (by omega))]
  rw [Int.natCast_emod, ofInt_toNat]
  have : ((2 ^ j : Nat) : Int) = 2 ^ j := by simp
  rw [this, Int.emod_emod_of_dvd]
  exact ⟨2 ^ (k.bits - j), by rw [← Int.pow_add]; congr 1; omega⟩

theorem and127_i64 (y : Int) : bits .and .i64 y 127 = y % 128 := bits_mask .i64 y 7 (by decide)
theorem and127_i32 (y : Int) : bits .and .i32 y 127 = y % 128 := bits_mask .i32 y 7 (by decide)
theorem and127_u32 (y : Int) : bits .and .u32 y 127 = y % 128 := bits_mask .u32 y 7 (by decide)
theorem and127_u8 (y : Int) : bits .and .u8 y 127 = y % 128 := bits_mask .u8 y 7 (by decide)

theorem and64_lo (p : Int) (h0 : 0 ≤ p) (h1 : p < 64) : bits .and .u8 p 64 = 0 := by
  rw [u8_and p 64 h0 (by omega) (by omega) (by omega), show (64 : Int).toNat = 2 ^ 6 from rfl, nat_bit]
  have : p.toNat / 2 ^ 6 = 0 := Nat.div_eq_of_lt (by omega)
  rw [this]; rfl
theorem and64_hi (p : Int) (h0 : 64 ≤ p) (h1 : p < 128) : bits .and .u8 p 64 = 64 := by
  rw [u8_and p 64 (by omega) (by omega) (by omega) (by omega), show (64 : Int).toNat = 2 ^ 6 from rfl, nat_bit]
  have : p.toNat / 2 ^ 6 = 1 := by omega
  rw [this]; rfl

/-- Bits that do not meet: the lower number is below 2^j, the upper one a multiple of it. -/
theorem bits_join (k : IntKind) (x y j : Nat) (hx : x % 2 ^ j = 0) (hy : y < 2 ^ j) (hs : x + y < 2 ^ k.bits) : bits .or k (x : Int) (y : Int) = k.wrap ((x + y : Nat) : Int) := by
  show k.wrap ((BitVec.ofInt k.bits (x : Int) ||| BitVec.ofInt k.bits (y : Int)).toNat : Int) = _
  rw [BitVec.toNat_or, ofInt_natCast_toNat _ _ (by omega), ofInt_natCast_toNat _ _ (by omega), nat_join j x y hx hy]

theorem bits_or_comm (k : IntKind) (x y : Int) : bits .or k x y = bits .or k y x := by
  show k.wrap _ = k.wrap _
  rw [BitVec.or_comm]

/-- 128 joined to seven bits. -/
theorem or128_u8 (y : Int) (h0 : 0 ≤ y) (h1 : y < 128) : bits .or .u8 y 128 = y + 128 := by
  obtain ⟨n, rfl⟩ := Int.eq_ofNat_of_zero_le h0
  rw [bits_or_comm, show (128 : Int) = ((128 : Nat) : Int) from rfl, bits_join .u8 128 n 7 (by decide) (by omega) (by simp [IntKind.bits]; omega)]
  rw [IntKind.wrap_u8']; omega

end Go.Proofs.YtgohnekaolgblaaGreat

/- word.odd, Int, Of, Head; gimletref27.Int, Of, most, Head: contracts. -/
namespace Go.Proofs.YtgohnekaolgblaaGreat
open Go.RowKit

def Wd.odd (n : Int) : Int := (2 * n + 1) % 4294967296

def Wd.int (n : Int) : Int × Int := if n < -1073741824 ∨ 1073741823 < n then (0, 5) else (Wd.odd n, 0)

def Wd.of (u : Int) : Int × Bool := if u % 2 = 0 then (0, false) else (if 1073741823 < u / 2 then u / 2 - 2147483648 else u / 2, true)

def Wd.most (kind : Int) : Int := if kind = 2 then 4096 else 1024

def Wd.headOk (kind n size : Int) : Prop := 0 ≤ kind ∧ kind ≤ 2 ∧ 0 ≤ n ∧ n ≤ 65535 ∧ (kind = 2 → n = 0) ∧ 0 ≤ size ∧ size ≤ Wd.most kind
instance (kind n size : Int) : Decidable (Wd.headOk kind n size) := inferInstanceAs (Decidable (_ ∧ _))

def Wd.head (kind n size : Int) : Int × Int := if Wd.headOk kind n size then (1 + 2 * kind + 8 * size + 65536 * n, 0) else (0, 2)

theorem refMost (kind : Int) (w : World) : Calls Tryz.prog 76 #[.int .i64 kind] w fun e w' => e = .returned (.int .i64 (Wd.most kind)) ∧ w' = w := by
  by_cases h : kind = 2
  · subst h
    go_enter Tryz.func76, Tryz.ntmps76
    go_wp2
    go_returns
    exact ⟨rfl, rfl⟩
  · have h' : (kind == 2) = false := by simpa using h
    have hr : Wd.most kind = 1024 := by unfold Wd.most; rw [if_neg h]
    rw [hr]
    go_enter Tryz.func76, Tryz.ntmps76
    go_wp2
    go_returns
    exact ⟨rfl, rfl⟩

end Go.Proofs.YtgohnekaolgblaaGreat

/- word.Head, gimletref27.Head: contracts (printed by wip/gen_wdhead.py). -/
namespace Go.Proofs.YtgohnekaolgblaaGreat
open Go.RowKit

theorem Wd.head_no {kind n size : Int} (h : ¬ Wd.headOk kind n size) : Wd.head kind n size = (0, 2) := by unfold Wd.head; rw [if_neg h]
theorem Wd.head_yes {kind n size : Int} (h : Wd.headOk kind n size) : Wd.head kind n size = (1 + 2 * kind + 8 * size + 65536 * n, 0) := by unfold Wd.head; rw [if_pos h]

/-- The bits of a head do not meet. -/
theorem head_bits (k s n : Nat) (hk : k ≤ 2) (hs : s ≤ 4096) (hn : n ≤ 65535) :
    bits .or .i64 1 ((k : Int) * 2) = 1 + 2 * (k : Int) ∧ bits .or .i64 (1 + 2 * (k : Int)) ((s : Int) * 8) = 1 + 2 * (k : Int) + 8 * (s : Int) ∧ bits .or .i64 (1 + 2 * (k : Int) + 8 * (s : Int)) ((n : Int) * 65536) = 1 + 2 * (k : Int) + 8 * (s : Int) + 65536 * (n : Int) := by
  refine ⟨?_, ?_, ?_⟩
  · rw [bits_or_comm, show (k : Int) * 2 = ((2 * k : Nat) : Int) by omega, show (1 : Int) = ((1 : Nat) : Int) from rfl, bits_join .i64 (2 * k) 1 1 (by omega) (by omega) (by simp [IntKind.bits]; omega), IntWalk.i64_in _ (by omega)]
    omega
  · rw [bits_or_comm, show (s : Int) * 8 = ((8 * s : Nat) : Int) by omega, show 1 + 2 * (k : Int) = ((1 + 2 * k : Nat) : Int) by omega, bits_join .i64 (8 * s) (1 + 2 * k) 3 (by omega) (by omega) (by simp [IntKind.bits]; omega), IntWalk.i64_in _ (by omega)]
    omega
  · rw [bits_or_comm, show (n : Int) * 65536 = ((65536 * n : Nat) : Int) by omega, show 1 + 2 * (k : Int) + 8 * (s : Int) = ((1 + 2 * k + 8 * s : Nat) : Int) by omega, bits_join .i64 (65536 * n) (1 + 2 * k + 8 * s) 16 (by omega) (by omega) (by simp [IntKind.bits]; omega), IntWalk.i64_in _ (by omega)]
    omega

set_option maxHeartbeats 1000000 in
theorem wdHead_ok (k : Int) (n s : Nat) (w : World) (hk : k = 0 ∨ k = 1 ∨ k = 2) (hn : n ≤ 65535) (hs : s ≤ 4096) (hok : Wd.headOk k n s) :
    Calls Tryz.prog 95 #[.int .i64 k, .int .i64 (n : Int), .int .i64 (s : Int)] w fun e w' => e = .returned (.tuple #[.int .u32 (Wd.head k n s).1, .int .i64 (Wd.head k n s).2]) ∧ w' = w := by
  rw [Wd.head_yes hok]
  have hm := hok.2.2.2.2.2.2
  have h2 := hok.2.2.2.2.1
  clear hok
  have hw : IntKind.u32.wrap (1 + 2 * k + 8 * (s : Int) + 65536 * (n : Int)) = 1 + 2 * k + 8 * (s : Int) + 65536 * (n : Int) := IntWalk.u32_in _ (by omega)
  rcases hk with rfl | rfl | rfl
  · obtain ⟨b1, b2, b3⟩ := head_bits 0 s n (by omega) hs hn
    simp only [Wd.most] at hm
    simp at b1 b2 b3 hw hm
    have hz : (1 + 2 * 0 + 8 * (s : Int) + 65536 * (n : Int)) = 1 + 8 * (s : Int) + 65536 * (n : Int) := by omega
    rw [hz]
    clear h2 hz
    go_enter Tryz.func95, Tryz.ntmps95
    go_wp2
    go_returns
    exact ⟨rfl, rfl⟩
  · obtain ⟨b1, b2, b3⟩ := head_bits 1 s n (by omega) hs hn
    simp only [Wd.most] at hm
    simp at b1 b2 b3 hw hm
    have hz : (1 + 2 * 1 + 8 * (s : Int) + 65536 * (n : Int)) = 3 + 8 * (s : Int) + 65536 * (n : Int) := by omega
    rw [hz]
    clear h2 hz
    go_enter Tryz.func95, Tryz.ntmps95
    go_wp2
    go_returns
    exact ⟨rfl, rfl⟩
  · obtain ⟨b1, b2, b3⟩ := head_bits 2 s n (by omega) hs hn
    have hn0 : n = 0 := by have := h2 rfl; omega
    subst hn0
    simp only [Wd.most] at hm
    simp at b1 b2 b3 hw hm
    have hz : (1 + 2 * 2 + 8 * (s : Int) + 65536 * ((0 : Nat) : Int)) = 5 + 8 * (s : Int) := by omega
    rw [hz]
    clear h2 hz
    go_enter Tryz.func95, Tryz.ntmps95
    go_wp2
    go_returns
    exact ⟨rfl, rfl⟩

set_option maxHeartbeats 1000000 in
theorem wdHead_no0a (k n s : Int) (hk : k = 0) (h : n < 0) (w : World) :
    Calls Tryz.prog 95 #[.int .i64 k, .int .i64 n, .int .i64 s] w fun e w' => e = .returned (.tuple #[.int .u32 (Wd.head k n s).1, .int .i64 (Wd.head k n s).2]) ∧ w' = w := by
  subst hk
  rw [Wd.head_no (by unfold Wd.headOk Wd.most; intro hh; simp at hh; omega)]
  go_enter Tryz.func95, Tryz.ntmps95
  go_wp2
  go_returns
  exact ⟨rfl, rfl⟩

set_option maxHeartbeats 1000000 in
theorem wdHead_no0b (k n s : Int) (hk : k = 0) (h : 65535 < n) (w : World) :
    Calls Tryz.prog 95 #[.int .i64 k, .int .i64 n, .int .i64 s] w fun e w' => e = .returned (.tuple #[.int .u32 (Wd.head k n s).1, .int .i64 (Wd.head k n s).2]) ∧ w' = w := by
  subst hk
  rw [Wd.head_no (by unfold Wd.headOk Wd.most; intro hh; simp at hh; omega)]
  have h1 : ¬ n < 0 := by omega
  go_enter Tryz.func95, Tryz.ntmps95
  go_wp2
  go_returns
  exact ⟨rfl, rfl⟩

set_option maxHeartbeats 1000000 in
theorem wdHead_no0c (k n s : Int) (hk : k = 0) (h : s < 0) (w : World) :
    Calls Tryz.prog 95 #[.int .i64 k, .int .i64 n, .int .i64 s] w fun e w' => e = .returned (.tuple #[.int .u32 (Wd.head k n s).1, .int .i64 (Wd.head k n s).2]) ∧ w' = w := by
  subst hk
  rw [Wd.head_no (by unfold Wd.headOk Wd.most; intro hh; simp at hh; omega)]
  by_cases h1 : n < 0
  · go_enter Tryz.func95, Tryz.ntmps95
    go_wp2
    go_returns
    exact ⟨rfl, rfl⟩
  by_cases h2 : 65535 < n
  · go_enter Tryz.func95, Tryz.ntmps95
    go_wp2
    go_returns
    exact ⟨rfl, rfl⟩
  go_enter Tryz.func95, Tryz.ntmps95
  go_wp2
  go_returns
  exact ⟨rfl, rfl⟩

set_option maxHeartbeats 1000000 in
theorem wdHead_no0d (k n s : Int) (hk : k = 0) (h : 1024 < s) (w : World) :
    Calls Tryz.prog 95 #[.int .i64 k, .int .i64 n, .int .i64 s] w fun e w' => e = .returned (.tuple #[.int .u32 (Wd.head k n s).1, .int .i64 (Wd.head k n s).2]) ∧ w' = w := by
  subst hk
  rw [Wd.head_no (by unfold Wd.headOk Wd.most; intro hh; simp at hh; omega)]
  by_cases h1 : n < 0
  · go_enter Tryz.func95, Tryz.ntmps95
    go_wp2
    go_returns
    exact ⟨rfl, rfl⟩
  by_cases h2 : 65535 < n
  · go_enter Tryz.func95, Tryz.ntmps95
    go_wp2
    go_returns
    exact ⟨rfl, rfl⟩
  have h3 : ¬ s < 0 := by omega
  go_enter Tryz.func95, Tryz.ntmps95
  go_wp2
  go_returns
  exact ⟨rfl, rfl⟩

set_option maxHeartbeats 1000000 in
theorem wdHead_no1a (k n s : Int) (hk : k = 1) (h : n < 0) (w : World) :
    Calls Tryz.prog 95 #[.int .i64 k, .int .i64 n, .int .i64 s] w fun e w' => e = .returned (.tuple #[.int .u32 (Wd.head k n s).1, .int .i64 (Wd.head k n s).2]) ∧ w' = w := by
  subst hk
  rw [Wd.head_no (by unfold Wd.headOk Wd.most; intro hh; simp at hh; omega)]
  go_enter Tryz.func95, Tryz.ntmps95
  go_wp2
  go_returns
  exact ⟨rfl, rfl⟩

set_option maxHeartbeats 1000000 in
theorem wdHead_no1b (k n s : Int) (hk : k = 1) (h : 65535 < n) (w : World) :
    Calls Tryz.prog 95 #[.int .i64 k, .int .i64 n, .int .i64 s] w fun e w' => e = .returned (.tuple #[.int .u32 (Wd.head k n s).1, .int .i64 (Wd.head k n s).2]) ∧ w' = w := by
  subst hk
  rw [Wd.head_no (by unfold Wd.headOk Wd.most; intro hh; simp at hh; omega)]
  have h1 : ¬ n < 0 := by omega
  go_enter Tryz.func95, Tryz.ntmps95
  go_wp2
  go_returns
  exact ⟨rfl, rfl⟩

set_option maxHeartbeats 1000000 in
theorem wdHead_no1c (k n s : Int) (hk : k = 1) (h : s < 0) (w : World) :
    Calls Tryz.prog 95 #[.int .i64 k, .int .i64 n, .int .i64 s] w fun e w' => e = .returned (.tuple #[.int .u32 (Wd.head k n s).1, .int .i64 (Wd.head k n s).2]) ∧ w' = w := by
  subst hk
  rw [Wd.head_no (by unfold Wd.headOk Wd.most; intro hh; simp at hh; omega)]
  by_cases h1 : n < 0
  · go_enter Tryz.func95, Tryz.ntmps95
    go_wp2
    go_returns
    exact ⟨rfl, rfl⟩
  by_cases h2 : 65535 < n
  · go_enter Tryz.func95, Tryz.ntmps95
    go_wp2
    go_returns
    exact ⟨rfl, rfl⟩
  go_enter Tryz.func95, Tryz.ntmps95
  go_wp2
  go_returns
  exact ⟨rfl, rfl⟩

set_option maxHeartbeats 1000000 in
theorem wdHead_no1d (k n s : Int) (hk : k = 1) (h : 1024 < s) (w : World) :
    Calls Tryz.prog 95 #[.int .i64 k, .int .i64 n, .int .i64 s] w fun e w' => e = .returned (.tuple #[.int .u32 (Wd.head k n s).1, .int .i64 (Wd.head k n s).2]) ∧ w' = w := by
  subst hk
  rw [Wd.head_no (by unfold Wd.headOk Wd.most; intro hh; simp at hh; omega)]
  by_cases h1 : n < 0
  · go_enter Tryz.func95, Tryz.ntmps95
    go_wp2
    go_returns
    exact ⟨rfl, rfl⟩
  by_cases h2 : 65535 < n
  · go_enter Tryz.func95, Tryz.ntmps95
    go_wp2
    go_returns
    exact ⟨rfl, rfl⟩
  have h3 : ¬ s < 0 := by omega
  go_enter Tryz.func95, Tryz.ntmps95
  go_wp2
  go_returns
  exact ⟨rfl, rfl⟩

set_option maxHeartbeats 1000000 in
theorem wdHead_no2n (k n s : Int) (hk : k = 2) (h : n ≠ 0) (w : World) :
    Calls Tryz.prog 95 #[.int .i64 k, .int .i64 n, .int .i64 s] w fun e w' => e = .returned (.tuple #[.int .u32 (Wd.head k n s).1, .int .i64 (Wd.head k n s).2]) ∧ w' = w := by
  subst hk
  rw [Wd.head_no (by unfold Wd.headOk Wd.most; intro hh; simp at hh; omega)]
  have h' : (n == 0) = false := by simpa using h
  go_enter Tryz.func95, Tryz.ntmps95
  go_wp2
  go_returns
  exact ⟨rfl, rfl⟩

set_option maxHeartbeats 1000000 in
theorem wdHead_no2c (k n s : Int) (hk : k = 2) (h : s < 0) (w : World) :
    Calls Tryz.prog 95 #[.int .i64 k, .int .i64 n, .int .i64 s] w fun e w' => e = .returned (.tuple #[.int .u32 (Wd.head k n s).1, .int .i64 (Wd.head k n s).2]) ∧ w' = w := by
  subst hk
  rw [Wd.head_no (by unfold Wd.headOk Wd.most; intro hh; simp at hh; omega)]
  by_cases hn : n = 0
  · subst hn
    go_enter Tryz.func95, Tryz.ntmps95
    go_wp2
    go_returns
    exact ⟨rfl, rfl⟩
  have hn' : (n == 0) = false := by simpa using hn
  go_enter Tryz.func95, Tryz.ntmps95
  go_wp2
  go_returns
  exact ⟨rfl, rfl⟩

set_option maxHeartbeats 1000000 in
theorem wdHead_no2d (k n s : Int) (hk : k = 2) (h : 4096 < s) (w : World) :
    Calls Tryz.prog 95 #[.int .i64 k, .int .i64 n, .int .i64 s] w fun e w' => e = .returned (.tuple #[.int .u32 (Wd.head k n s).1, .int .i64 (Wd.head k n s).2]) ∧ w' = w := by
  subst hk
  rw [Wd.head_no (by unfold Wd.headOk Wd.most; intro hh; simp at hh; omega)]
  by_cases hn : n = 0
  · subst hn
    have h3 : ¬ s < 0 := by omega
    go_enter Tryz.func95, Tryz.ntmps95
    go_wp2
    go_returns
    exact ⟨rfl, rfl⟩
  have hn' : (n == 0) = false := by simpa using hn
  go_enter Tryz.func95, Tryz.ntmps95
  go_wp2
  go_returns
  exact ⟨rfl, rfl⟩

set_option maxHeartbeats 1000000 in
theorem wdHead_other (k n s : Int) (h0 : k ≠ 0) (h1 : k ≠ 1) (h2 : k ≠ 2) (w : World) :
    Calls Tryz.prog 95 #[.int .i64 k, .int .i64 n, .int .i64 s] w fun e w' => e = .returned (.tuple #[.int .u32 (Wd.head k n s).1, .int .i64 (Wd.head k n s).2]) ∧ w' = w := by
  rw [Wd.head_no (by unfold Wd.headOk Wd.most; intro hh; omega)]
  have h0' : (k == 0) = false := by simpa using h0
  have h1' : (k == 1) = false := by simpa using h1
  have h2' : (k == 2) = false := by simpa using h2
  go_enter Tryz.func95, Tryz.ntmps95
  go_wp2
  go_returns
  exact ⟨rfl, rfl⟩

set_option maxHeartbeats 1000000 in
theorem wdHead (k n s : Int) (w : World) :
    Calls Tryz.prog 95 #[.int .i64 k, .int .i64 n, .int .i64 s] w fun e w' => e = .returned (.tuple #[.int .u32 (Wd.head k n s).1, .int .i64 (Wd.head k n s).2]) ∧ w' = w := by
  by_cases h0 : k = 0
  · by_cases a1 : n < 0
    · exact wdHead_no0a k n s h0 a1 w
    by_cases a2 : 65535 < n
    · exact wdHead_no0b k n s h0 a2 w
    by_cases a3 : s < 0
    · exact wdHead_no0c k n s h0 a3 w
    by_cases a4 : 1024 < s
    · exact wdHead_no0d k n s h0 a4 w
    obtain ⟨n, rfl⟩ := Int.eq_ofNat_of_zero_le (by omega : 0 ≤ n)
    obtain ⟨s, rfl⟩ := Int.eq_ofNat_of_zero_le (by omega : 0 ≤ s)
    exact wdHead_ok k n s w (by omega) (by omega) (by omega) (by subst h0; unfold Wd.headOk Wd.most; simp; omega)
  by_cases h1 : k = 1
  · by_cases a1 : n < 0
    · exact wdHead_no1a k n s h1 a1 w
    by_cases a2 : 65535 < n
    · exact wdHead_no1b k n s h1 a2 w
    by_cases a3 : s < 0
    · exact wdHead_no1c k n s h1 a3 w
    by_cases a4 : 1024 < s
    · exact wdHead_no1d k n s h1 a4 w
    obtain ⟨n, rfl⟩ := Int.eq_ofNat_of_zero_le (by omega : 0 ≤ n)
    obtain ⟨s, rfl⟩ := Int.eq_ofNat_of_zero_le (by omega : 0 ≤ s)
    exact wdHead_ok k n s w (by omega) (by omega) (by omega) (by subst h1; unfold Wd.headOk Wd.most; simp; omega)
  by_cases h2 : k = 2
  · by_cases a1 : n ≠ 0
    · exact wdHead_no2n k n s h2 a1 w
    by_cases a3 : s < 0
    · exact wdHead_no2c k n s h2 a3 w
    by_cases a4 : 4096 < s
    · exact wdHead_no2d k n s h2 a4 w
    obtain ⟨n, rfl⟩ := Int.eq_ofNat_of_zero_le (by omega : 0 ≤ n)
    obtain ⟨s, rfl⟩ := Int.eq_ofNat_of_zero_le (by omega : 0 ≤ s)
    exact wdHead_ok k n s w (by omega) (by omega) (by omega) (by subst h2; unfold Wd.headOk Wd.most; simp; omega)
  exact wdHead_other k n s h0 h1 h2 w

set_option maxHeartbeats 1000000 in
theorem refHead_a (k n s : Int) (h : k < 0) (w : World) :
    Calls Tryz.prog 42 #[.int .i64 k, .int .i64 n, .int .i64 s] w fun e w' => e = .returned (.tuple #[.int .u32 (Wd.head k n s).1, .int .i64 (Wd.head k n s).2]) ∧ w' = w := by
  rw [Wd.head_no (by unfold Wd.headOk Wd.most; intro hh; omega)]
  go_enter Tryz.func42, Tryz.ntmps42
  go_wp2
  go_returns
  exact ⟨rfl, rfl⟩

set_option maxHeartbeats 1000000 in
theorem refHead_b (k n s : Int) (h : 2 < k) (w : World) :
    Calls Tryz.prog 42 #[.int .i64 k, .int .i64 n, .int .i64 s] w fun e w' => e = .returned (.tuple #[.int .u32 (Wd.head k n s).1, .int .i64 (Wd.head k n s).2]) ∧ w' = w := by
  rw [Wd.head_no (by unfold Wd.headOk Wd.most; intro hh; omega)]
  have h1 : ¬ k < 0 := by omega
  go_enter Tryz.func42, Tryz.ntmps42
  go_wp2
  go_returns
  exact ⟨rfl, rfl⟩

set_option maxHeartbeats 1000000 in
theorem refHead (k n s : Int) (w : World) :
    Calls Tryz.prog 42 #[.int .i64 k, .int .i64 n, .int .i64 s] w fun e w' => e = .returned (.tuple #[.int .u32 (Wd.head k n s).1, .int .i64 (Wd.head k n s).2]) ∧ w' = w := by
  by_cases h1 : k < 0
  · exact refHead_a k n s h1 w
  by_cases h2 : 2 < k
  · exact refHead_b k n s h2 w
  by_cases h3 : n < 0
  · rw [Wd.head_no (by unfold Wd.headOk Wd.most; intro hh; omega)]
    go_enter Tryz.func42, Tryz.ntmps42
    go_wp2
    go_returns
    exact ⟨rfl, rfl⟩
  by_cases h4 : 65535 < n
  · rw [Wd.head_no (by unfold Wd.headOk Wd.most; intro hh; omega)]
    go_enter Tryz.func42, Tryz.ntmps42
    go_wp2
    go_returns
    exact ⟨rfl, rfl⟩
  by_cases h5 : k = 2 ∧ 0 < n
  · obtain ⟨hk, h5⟩ := h5
    rw [Wd.head_no (by unfold Wd.headOk Wd.most; intro hh; omega)]
    subst hk
    go_enter Tryz.func42, Tryz.ntmps42
    go_wp2
    go_returns
    exact ⟨rfl, rfl⟩
  by_cases h6 : s < 0
  · rw [Wd.head_no (by unfold Wd.headOk Wd.most; intro hh; omega)]
    by_cases hk : k = 2
    · subst hk
      have h7 : ¬ 0 < n := by omega
      go_enter Tryz.func42, Tryz.ntmps42
      go_wp2
      go_returns
      exact ⟨rfl, rfl⟩
    have hk' : (k == 2) = false := by simpa using hk
    go_enter Tryz.func42, Tryz.ntmps42
    go_wp2
    go_returns
    exact ⟨rfl, rfl⟩
  by_cases h8 : Wd.most k < s
  · rw [Wd.head_no (by unfold Wd.headOk; intro hh; omega)]
    by_cases hk : k = 2
    · have h7 : ¬ 0 < n := by omega
      subst hk
      go_enter Tryz.func42, Tryz.ntmps42
      go_wp2_with fail
      refine (refMost 2 _).mono ?_
      rintro _ w1 ⟨rfl, hw1⟩
      obtain rfl := hw1.symm
      go_wp2_with fail
      go_returns
      exact ⟨rfl, rfl⟩
    have hk' : (k == 2) = false := by simpa using hk
    go_enter Tryz.func42, Tryz.ntmps42
    go_wp2_with fail
    refine (refMost k _).mono ?_
    rintro _ w1 ⟨rfl, hw1⟩
    obtain rfl := hw1.symm
    go_wp2_with fail
    go_returns
    exact ⟨rfl, rfl⟩
  have hm : Wd.most k ≤ 4096 := by unfold Wd.most; split <;> omega
  rw [Wd.head_yes (by unfold Wd.headOk; omega)]
  have hw : IntKind.u32.wrap (1 + 2 * k + 8 * s + 65536 * n) = 1 + 2 * k + 8 * s + 65536 * n := IntWalk.u32_in _ (by omega)
  by_cases hk : k = 2
  · have h7 : ¬ 0 < n := by omega
    subst hk
    go_enter Tryz.func42, Tryz.ntmps42
    go_wp2_with fail
    refine (refMost 2 _).mono ?_
    rintro _ w1 ⟨rfl, hw1⟩
    obtain rfl := hw1.symm
    go_wp2_with fail
    go_returns
    exact ⟨rfl, rfl⟩
  have hk' : (k == 2) = false := by simpa using hk
  go_enter Tryz.func42, Tryz.ntmps42
  go_wp2_with fail
  refine (refMost k _).mono ?_
  rintro _ w1 ⟨rfl, hw1⟩
  obtain rfl := hw1.symm
  go_wp2_with fail
  go_returns
  exact ⟨rfl, rfl⟩

end Go.Proofs.YtgohnekaolgblaaGreat

/- word.Unhead, word.Words; gimletref27.Unhead, gimletref27.Words: contracts (printed by wip/gen_wdun.py). -/
namespace Go.Proofs.YtgohnekaolgblaaGreat
open Go.RowKit

def Wd.unhead (u : Int) : Int × Int × Int × Bool := if Wd.head (u / 2 % 4) (u / 65536) (u / 8 % 8192) = (u, 0) then (u / 2 % 4, u / 65536, u / 8 % 8192, true) else (0, 0, 0, false)
def Wd.words (u : Int) : Int × Bool := if (Wd.unhead u).2.2.2 = true then (if (Wd.unhead u).1 = 2 then (1 + ((Wd.unhead u).2.2.1 + 3) / 4, true) else (1 + (Wd.unhead u).2.2.1, true)) else (0, false)
theorem Wd.unhead_yes {u : Int} (h : Wd.head (u / 2 % 4) (u / 65536) (u / 8 % 8192) = (u, 0)) : Wd.unhead u = (u / 2 % 4, u / 65536, u / 8 % 8192, true) := by unfold Wd.unhead; rw [if_pos h]
theorem Wd.unhead_no {u : Int} (h : Wd.head (u / 2 % 4) (u / 65536) (u / 8 % 8192) ≠ (u, 0)) : Wd.unhead u = (0, 0, 0, false) := by unfold Wd.unhead; rw [if_neg h]
theorem Wd.unhead_size (u : Int) : 0 ≤ (Wd.unhead u).2.2.1 ∧ (Wd.unhead u).2.2.1 ≤ 4096 := by
  by_cases h : Wd.head (u / 2 % 4) (u / 65536) (u / 8 % 8192) = (u, 0)
  · rw [Wd.unhead_yes h]
    simp only
    by_cases hk : Wd.headOk (u / 2 % 4) (u / 65536) (u / 8 % 8192)
    · have h6 := hk.2.2.2.2.2.1
      have h7 := hk.2.2.2.2.2.2
      unfold Wd.most at h7
      split at h7 <;> omega
    · rw [Wd.head_no hk] at h
      simp only [Prod.mk.injEq] at h
      omega
  · rw [Wd.unhead_no h]; simp

set_option maxHeartbeats 1000000 in
theorem wdUnhead (u : Int) (w : World) (h0 : 0 ≤ u) (h1 : u < 4294967296) : Calls Tryz.prog 86 #[.int .u32 u] w fun e w' => e = .returned (.tuple #[.int .i64 (Wd.unhead u).1, .int .i64 (Wd.unhead u).2.1, .int .i64 (Wd.unhead u).2.2.1, .bool (Wd.unhead u).2.2.2]) ∧ w' = w := by
  have hm1 : bits .and .i64 (u / 2) 3 = u / 2 % 4 := bits_mask .i64 (u / 2) 2 (by decide)
  have hm2 : bits .and .i64 (u / 8) 8191 = u / 8 % 8192 := bits_mask .i64 (u / 8) 13 (by decide)
  generalize hp : Wd.head (u / 2 % 4) (u / 65536) (u / 8 % 8192) = p
  obtain ⟨x, e⟩ := p
  by_cases he : e = 0
  · subst he
    by_cases hx : x = u
    · subst hx
      rw [Wd.unhead_yes hp]
      go_enter Tryz.func86, Tryz.ntmps86
      go_wp2_with fail
      refine (wdHead (x / 2 % 4) (x / 65536) (x / 8 % 8192) _).mono ?_
      rintro _ w1 ⟨rfl, hw1⟩
      obtain rfl := hw1.symm
      rw [hp]
      go_wp2_with fail
      go_returns
      exact ⟨rfl, rfl⟩
    have hx' : (x == u) = false := by simpa using hx
    rw [Wd.unhead_no (by rw [hp]; simpa using hx)]
    go_enter Tryz.func86, Tryz.ntmps86
    go_wp2_with fail
    refine (wdHead (u / 2 % 4) (u / 65536) (u / 8 % 8192) _).mono ?_
    rintro _ w1 ⟨rfl, hw1⟩
    obtain rfl := hw1.symm
    rw [hp]
    go_wp2_with fail
    go_returns
    exact ⟨rfl, rfl⟩
  have he' : (e == 0) = false := by simpa using he
  rw [Wd.unhead_no (by rw [hp]; simp [he])]
  go_enter Tryz.func86, Tryz.ntmps86
  go_wp2_with fail
  refine (wdHead (u / 2 % 4) (u / 65536) (u / 8 % 8192) _).mono ?_
  rintro _ w1 ⟨rfl, hw1⟩
  obtain rfl := hw1.symm
  rw [hp]
  go_wp2_with fail
  go_returns
  exact ⟨rfl, rfl⟩

set_option maxHeartbeats 1000000 in
theorem refUnhead (u : Int) (w : World) (h0 : 0 ≤ u) (h1 : u < 4294967296) : Calls Tryz.prog 27 #[.int .u32 u] w fun e w' => e = .returned (.tuple #[.int .i64 (Wd.unhead u).1, .int .i64 (Wd.unhead u).2.1, .int .i64 (Wd.unhead u).2.2.1, .bool (Wd.unhead u).2.2.2]) ∧ w' = w := by
  generalize hp : Wd.head (u / 2 % 4) (u / 65536) (u / 8 % 8192) = p
  obtain ⟨x, e⟩ := p
  by_cases he : e = 0
  · subst he
    by_cases hx : x = u
    · subst hx
      rw [Wd.unhead_yes hp]
      go_enter Tryz.func27, Tryz.ntmps27
      go_wp2_with fail
      refine (refHead (x / 2 % 4) (x / 65536) (x / 8 % 8192) _).mono ?_
      rintro _ w1 ⟨rfl, hw1⟩
      obtain rfl := hw1.symm
      rw [hp]
      go_wp2_with fail
      go_returns
      exact ⟨rfl, rfl⟩
    have hx' : (x == u) = false := by simpa using hx
    rw [Wd.unhead_no (by rw [hp]; simpa using hx)]
    go_enter Tryz.func27, Tryz.ntmps27
    go_wp2_with fail
    refine (refHead (u / 2 % 4) (u / 65536) (u / 8 % 8192) _).mono ?_
    rintro _ w1 ⟨rfl, hw1⟩
    obtain rfl := hw1.symm
    rw [hp]
    go_wp2_with fail
    go_returns
    exact ⟨rfl, rfl⟩
  have he' : (e == 0) = false := by simpa using he
  rw [Wd.unhead_no (by rw [hp]; simp [he])]
  go_enter Tryz.func27, Tryz.ntmps27
  go_wp2_with fail
  refine (refHead (u / 2 % 4) (u / 65536) (u / 8 % 8192) _).mono ?_
  rintro _ w1 ⟨rfl, hw1⟩
  obtain rfl := hw1.symm
  rw [hp]
  go_wp2_with fail
  go_returns
  exact ⟨rfl, rfl⟩

set_option maxHeartbeats 1000000 in
theorem wdWords (u : Int) (w : World) (h0 : 0 ≤ u) (h1 : u < 4294967296) : Calls Tryz.prog 85 #[.int .u32 u] w fun e w' => e = .returned (.tuple #[.int .i64 (Wd.words u).1, .bool (Wd.words u).2]) ∧ w' = w := by
  have hs := Wd.unhead_size u
  have hd : Wd.words u = if (Wd.unhead u).2.2.2 = true then (if (Wd.unhead u).1 = 2 then (1 + ((Wd.unhead u).2.2.1 + 3) / 4, true) else (1 + (Wd.unhead u).2.2.1, true)) else (0, false) := rfl
  generalize hp : Wd.unhead u = p at hs hd
  obtain ⟨k, n, s, b⟩ := p
  simp only at hs hd
  cases b
  · rw [hd, if_neg (by simp)]
    go_enter Tryz.func85, Tryz.ntmps85
    go_wp2_with fail
    refine (wdUnhead u _ h0 h1).mono ?_
    rintro _ w1 ⟨rfl, hw1⟩
    obtain rfl := hw1.symm
    rw [hp]
    go_wp2_with fail
    go_returns
    exact ⟨rfl, rfl⟩
  by_cases hk : k = 2
  · subst hk
    rw [hd, if_pos rfl, if_pos rfl]
    go_enter Tryz.func85, Tryz.ntmps85
    go_wp2_with fail
    refine (wdUnhead u _ h0 h1).mono ?_
    rintro _ w1 ⟨rfl, hw1⟩
    obtain rfl := hw1.symm
    rw [hp]
    go_wp2_with fail
    go_returns
    exact ⟨rfl, rfl⟩
  have hk' : (k == 2) = false := by simpa using hk
  rw [hd, if_pos rfl, if_neg hk]
  go_enter Tryz.func85, Tryz.ntmps85
  go_wp2_with fail
  refine (wdUnhead u _ h0 h1).mono ?_
  rintro _ w1 ⟨rfl, hw1⟩
  obtain rfl := hw1.symm
  rw [hp]
  go_wp2_with fail
  go_returns
  exact ⟨rfl, rfl⟩

set_option maxHeartbeats 1000000 in
theorem refWords (u : Int) (w : World) (h0 : 0 ≤ u) (h1 : u < 4294967296) : Calls Tryz.prog 28 #[.int .u32 u] w fun e w' => e = .returned (.tuple #[.int .i64 (Wd.words u).1, .bool (Wd.words u).2]) ∧ w' = w := by
  have hs := Wd.unhead_size u
  have hd : Wd.words u = if (Wd.unhead u).2.2.2 = true then (if (Wd.unhead u).1 = 2 then (1 + ((Wd.unhead u).2.2.1 + 3) / 4, true) else (1 + (Wd.unhead u).2.2.1, true)) else (0, false) := rfl
  generalize hp : Wd.unhead u = p at hs hd
  obtain ⟨k, n, s, b⟩ := p
  simp only at hs hd
  cases b
  · rw [hd, if_neg (by simp)]
    go_enter Tryz.func28, Tryz.ntmps28
    go_wp2_with fail
    refine (refUnhead u _ h0 h1).mono ?_
    rintro _ w1 ⟨rfl, hw1⟩
    obtain rfl := hw1.symm
    rw [hp]
    go_wp2_with fail
    go_returns
    exact ⟨rfl, rfl⟩
  by_cases hk : k = 2
  · subst hk
    rw [hd, if_pos rfl, if_pos rfl]
    go_enter Tryz.func28, Tryz.ntmps28
    go_wp2_with fail
    refine (refUnhead u _ h0 h1).mono ?_
    rintro _ w1 ⟨rfl, hw1⟩
    obtain rfl := hw1.symm
    rw [hp]
    go_wp2_with fail
    go_returns
    exact ⟨rfl, rfl⟩
  have hk' : (k == 2) = false := by simpa using hk
  rw [hd, if_pos rfl, if_neg hk]
  go_enter Tryz.func28, Tryz.ntmps28
  go_wp2_with fail
  refine (refUnhead u _ h0 h1).mono ?_
  rintro _ w1 ⟨rfl, hw1⟩
  obtain rfl := hw1.symm
  rw [hp]
  go_wp2_with fail
  go_returns
  exact ⟨rfl, rfl⟩

end Go.Proofs.YtgohnekaolgblaaGreat

/- Heaps: where things lie, what may stand in a heap, what is moved: plain. -/
namespace Go.Proofs.YtgohnekaolgblaaGreat

def Hp.wn (h : Int) : Nat := (Wd.words h).1.toNat
def Hp.sz (h : Int) : Nat := (Wd.unhead h).2.2.1.toNat
/-- Where things lie, from the word i on; none: they are no things, one behind the other. -/
def Hp.starts (ls : List Int) : Nat → Nat → Option (List Nat)
  | 0, i => if i < ls.length then none else some []
  | g + 1, i => match ls[i]? with
    | none => some []
    | some h => if (Wd.words h).2 = false ∨ ls.length < i + Hp.wn h then none else (Hp.starts ls g (i + Hp.wn h)).map (i :: ·)
def Hp.heads (ls : List Int) : Option (List Nat) := Hp.starts ls ls.length 0
/-- The words of a thing that may be addresses. -/
def Hp.fields (ls : List Int) (i : Nat) : List Int :=
  match ls[i]? with
  | none => []
  | some h => if (Wd.unhead h).1 = 2 then [] else (ls.drop (i + 1)).take (Hp.sz h)
def Hp.place (a : Int) : Prop := 8 ≤ a ∧ a % 8 = 0 ∧ a ≤ 2147483648
instance Hp.decPlace (a : Int) : Decidable (Hp.place a) := inferInstanceAs (Decidable (_ ∧ _))
/-- Is a word an address, and where does it lead? -/
def Hp.isAdr (at_ w : Int) : Bool := w % 2 == 0 && decide (at_ ≤ w)
def Hp.idx (at_ w : Int) : Nat := ((w - at_) / 4).toNat
def Hp.whole (at_ w : Int) : Bool := (w - at_) % 4 == 0
/-- May a word stand in a heap? -/
def Hp.okw (S : Nat → Bool) (at_ w : Int) : Bool := !Hp.isAdr at_ w || (Hp.whole at_ w && S (Hp.idx at_ w))
def Hp.okws (S : Nat → Bool) (at_ : Int) (ws : List Int) : Bool := ws.all (Hp.okw S at_)
def Hp.mem (hs : List Nat) (k : Nat) : Bool := decide (k ∈ hs)
def Hp.chk (ls : List Int) (at_ : Int) (roots : List Int) : Int :=
  if 65536 < ls.length ∨ 4096 < roots.length then 141 else match Hp.heads ls with
  | none => 2
  | some hs => if Hp.place at_ ∧ Hp.okws (Hp.mem hs) at_ roots = true ∧ ∀ i ∈ hs, Hp.okws (Hp.mem hs) at_ (Hp.fields ls i) = true then 0 else 2

theorem Wd.words_pos {h : Int} (hw : (Wd.words h).2 = true) : 1 ≤ Hp.wn h ∧ (Wd.unhead h).2.2.2 = true ∧ ((Wd.unhead h).1 ≠ 2 → Hp.wn h = 1 + Hp.sz h) ∧ Hp.wn h ≤ 5000 := by
  have hs := Wd.unhead_size h
  unfold Wd.words at hw
  unfold Hp.wn Hp.sz Wd.words
  by_cases hu : (Wd.unhead h).2.2.2 = true
  · rw [if_pos hu] at hw ⊢
    refine ⟨?_, hu, fun hk => ?_, ?_⟩
    · split <;> simp only <;> omega
    · rw [if_neg hk]; simp only; omega
    · split <;> simp only <;> omega
  · rw [if_neg hu] at hw; cases hw

/-- The measure of what is left pays. -/
theorem Hp.starts_more (ls : List Int) : ∀ (g i : Nat), ls.length ≤ i + g → Hp.starts ls g i = Hp.starts ls (g + 1) i := by
  intro g
  induction g with
  | zero =>
    intro i hi
    rw [Hp.starts, if_neg (by omega), Hp.starts, List.getElem?_eq_none (by omega)]
  | succ g ih =>
    intro i hi
    rw [Hp.starts, Hp.starts]
    cases hq : ls[i]? with
    | none => rfl
    | some h =>
      simp only
      by_cases hc : (Wd.words h).2 = false ∨ ls.length < i + Hp.wn h
      · rw [if_pos hc, if_pos hc]
      · rw [if_neg hc, if_neg hc]
        have hp := (Wd.words_pos (h := h) (by simpa using (not_or.1 hc).1)).1
        rw [ih _ (by omega)]
theorem Hp.starts_any (ls : List Int) (i : Nat) : ∀ (g : Nat), ls.length ≤ i + g → Hp.starts ls g i = Hp.starts ls (ls.length - i) i := by
  intro g
  induction g with
  | zero => intro h; rw [show ls.length - i = 0 by omega]
  | succ g ih =>
    intro h
    by_cases h2 : ls.length ≤ i + g
    · rw [← Hp.starts_more ls g i h2]; exact ih h2
    · rw [show ls.length - i = g + 1 by omega]
/-- From a place on. -/
def Hp.from (ls : List Int) (i : Nat) : Option (List Nat) := Hp.starts ls (ls.length - i) i
theorem Hp.from_end (ls : List Int) (i : Nat) (h : ls.length ≤ i) : Hp.from ls i = some [] := by
  unfold Hp.from
  rw [show ls.length - i = 0 by omega, Hp.starts, if_neg (by omega)]
theorem Hp.from_bad (ls : List Int) (i : Nat) (h : i < ls.length) (hb : (Wd.words ls[i]).2 = false ∨ ls.length < i + Hp.wn ls[i]) : Hp.from ls i = none := by
  unfold Hp.from
  rw [show ls.length - i = (ls.length - i - 1) + 1 by omega, Hp.starts, List.getElem?_eq_getElem h]
  simp only
  rw [if_pos hb]
theorem Hp.from_next (ls : List Int) (i : Nat) (h : i < ls.length) (hw : (Wd.words ls[i]).2 = true) (hl : i + Hp.wn ls[i] ≤ ls.length) : Hp.from ls i = (Hp.from ls (i + Hp.wn ls[i])).map (i :: ·) := by
  have hp := (Wd.words_pos hw).1
  unfold Hp.from
  rw [show ls.length - i = (ls.length - i - 1) + 1 by omega, Hp.starts, List.getElem?_eq_getElem h]
  simp only
  rw [if_neg (by rw [hw]; simp; omega), Hp.starts_any ls (i + Hp.wn ls[i]) (ls.length - i - 1) (by omega)]

/-- What is known of a place that is a head's. -/
structure Hp.Head (ls : List Int) (i : Nat) : Prop where
  lt : i < ls.length
  yes : (Wd.words ls[i]).2 = true
  fits : i + Hp.wn ls[i] ≤ ls.length
theorem Hp.from_head (ls : List Int) : ∀ (m i : Nat) (hs : List Nat), ls.length - i ≤ m → Hp.from ls i = some hs → ∀ k ∈ hs, i ≤ k ∧ Hp.Head ls k := by
  intro m
  induction m with
  | zero =>
    intro i hs hm h
    rw [Hp.from_end ls i (by omega)] at h
    cases h
    intro k hk; cases hk
  | succ m ih =>
    intro i hs hm h k hk
    by_cases hi : i < ls.length
    · by_cases hb : (Wd.words ls[i]).2 = false ∨ ls.length < i + Hp.wn ls[i]
      · rw [Hp.from_bad ls i hi hb] at h; cases h
      · simp only [not_or] at hb
        have hw : (Wd.words ls[i]).2 = true := by simpa using hb.1
        have hp := (Wd.words_pos hw).1
        rw [Hp.from_next ls i hi hw (by omega)] at h
        obtain ⟨hs', h1, rfl⟩ := Option.map_eq_some_iff.1 h
        rcases List.mem_cons.1 hk with rfl | hk
        · exact ⟨Nat.le_refl _, hi, hw, by omega⟩
        · have := ih _ _ (by omega) h1 k hk
          exact ⟨by omega, this.2⟩
    · rw [Hp.from_end ls i (by omega)] at h
      cases h
      cases hk
theorem Hp.heads_head {ls : List Int} {hs : List Nat} (h : Hp.heads ls = some hs) {k : Nat} (hk : k ∈ hs) : Hp.Head ls k := by
  have h' : Hp.from ls 0 = some hs := by unfold Hp.from; exact h
  exact (Hp.from_head ls _ _ _ (Nat.le_refl _) h' k hk).2
theorem Hp.fields_head {ls : List Int} {i : Nat} (h : Hp.Head ls i) : (Hp.fields ls i).length = (if (Wd.unhead ls[i]!).1 = 2 then 0 else Hp.sz ls[i]!) ∧ 1 + (Hp.fields ls i).length ≤ Hp.wn ls[i]! := by
  have hlt := h.lt
  have hy := h.yes
  have hf := h.fits
  have e : ls[i]! = ls[i] := by rw [getElem!_def, List.getElem?_eq_getElem hlt]
  rw [e]
  have hp := Wd.words_pos hy
  unfold Hp.fields
  rw [List.getElem?_eq_getElem hlt]
  simp only
  by_cases hk : (Wd.unhead ls[i]).1 = 2
  · simp only [hk, if_true, List.length_nil]
    exact ⟨trivial, by omega⟩
  · rw [if_neg hk, if_neg hk]
    have := hp.2.2.1 hk
    simp only [List.length_take, List.length_drop]
    omega

/-! ### what is moved -/
def Hp.wnAt (ls : List Int) (i : Nat) : Nat := match ls[i]? with | none => 0 | some h => Hp.wn h
def Hp.thing (ls : List Int) (i : Nat) : List Int := (ls.drop i).take (Hp.wnAt ls i)
/-- Where each thing stands, of those that were moved, in order. -/
def Hp.pos (ls : List Int) : List Nat → Nat → Nat → Option Nat
  | [], _, _ => none
  | j :: r, acc, i => if j = i then some acc else Hp.pos ls r (acc + Hp.wnAt ls j) i
def Hp.sum (ls : List Int) : List Nat → Nat
  | [] => 0
  | j :: r => Hp.wnAt ls j + Hp.sum ls r
/-- A word, behind the move; what was moved, in order; the new words. -/
def Hp.word (ls : List Int) (at_ to : Int) (o : List Nat) (out : List Int) (w : Int) : Int × List Nat × List Int :=
  if Hp.isAdr at_ w = true ∧ Hp.whole at_ w = true then
    match Hp.pos ls o 0 (Hp.idx at_ w) with
    | some n => (to + 4 * n, o, out)
    | none => (to + 4 * out.length, o ++ [Hp.idx at_ w], out ++ Hp.thing ls (Hp.idx at_ w))
  else (w, o, out)
def Hp.roots (ls : List Int) (at_ to : Int) : List Int → List Nat → List Int → List Int × List Nat × List Int
  | [], o, out => ([], o, out)
  | w :: ws, o, out => let p := Hp.word ls at_ to o out w; let q := Hp.roots ls at_ to ws p.2.1 p.2.2; (p.1 :: q.1, q.2)
/-- The words of a thing, which stands at p - 1. -/
def Hp.fill (ls : List Int) (at_ to : Int) : List Int → Nat → List Nat → List Int → List Nat × List Int
  | [], _, o, out => (o, out)
  | w :: ws, p, o, out => let q := Hp.word ls at_ to o out w; Hp.fill ls at_ to ws (p + 1) q.2.1 (q.2.2.set p q.1)
def Hp.scan (ls : List Int) (at_ to : Int) : Nat → Nat → List Nat → List Int → List Nat × List Int
  | 0, _, o, out => (o, out)
  | g + 1, k, o, out => match o[k]? with
    | none => (o, out)
    | some i => let q := Hp.fill ls at_ to (Hp.fields ls i) (((Hp.pos ls o 0 i).getD 0) + 1) o out; Hp.scan ls at_ to g (k + 1) q.1 q.2
def Hp.move (ls : List Int) (at_ : Int) (roots : List Int) (to : Int) : List Int × List Int :=
  let p := Hp.roots ls at_ to roots [] []
  ((Hp.scan ls at_ to (ls.length + 1) 0 p.2.1 p.2.2).2, p.1)

end Go.Proofs.YtgohnekaolgblaaGreat
