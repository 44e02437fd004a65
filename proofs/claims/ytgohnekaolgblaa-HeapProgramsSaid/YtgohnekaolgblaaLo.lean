/- Programs on words as trees: how they lie in memory. -/
import Derived.Test.YtgohnekaolgblaaBase
import Derived.Test.YtgohnekaolgblaaProg
namespace Go.Proofs.Ytgohnekaolgblaa
open Go.RowKit

/-- An expression. -/
inductive Ex where
  | mk (k n : Int) (l : List Ex)
/-- A thing that is done, without other cases. -/
inductive Lo where
  | mk (k x n : Int) (a : List Ex) (l : List Lo)

theorem Ex.ind {P : Ex → Prop} (h : ∀ k n l, (∀ t ∈ l, P t) → P (.mk k n l)) (t : Ex) : P t :=
  Ex.rec (motive_1 := P) (motive_2 := fun l => ∀ t ∈ l, P t) (fun k n l hl => h k n l hl) (fun t ht => by cases ht)
    (fun x l hx hl t ht => by
      rcases List.mem_cons.1 ht with rfl | ht
      · exact hx
      · exact hl t ht) t
theorem Lo.ind {P : Lo → Prop} (h : ∀ k x n a l, (∀ t ∈ l, P t) → P (.mk k x n a l)) (t : Lo) : P t :=
  Lo.rec (motive_1 := P) (motive_2 := fun l => ∀ t ∈ l, P t) (fun k x n a l hl => h k x n a l hl) (fun t ht => by cases ht)
    (fun x l hx hl t ht => by
      rcases List.mem_cons.1 ht with rfl | ht
      · exact hx
      · exact hl t ht) t

mutual
/-- The value v is the expression. -/
def Ex.at (S : Nat → Prop) (w : World) : Ex → Value → Prop
  | .mk k n l, v => ∃ A cap, v = .agg #[.int .i64 k, .int .i64 n, .slice A l.length cap] ∧ l.length ≤ cap ∧ cap ≤ maxLen ∧ (l ≠ [] → ∃ b off, A = some ⟨b, off, none⟩ ∧ b < w.heap.size ∧ S b ∧ Ex.ats S w l b off)
def Ex.ats (S : Nat → Prop) (w : World) : List Ex → Nat → Nat → Prop
  | [], _, _ => True
  | t :: l, b, off => (∃ v0 v1 v2, w.cell? ⟨b, off, none⟩ = some v0 ∧ w.cell? ⟨b, off + 1, none⟩ = some v1 ∧ w.cell? ⟨b, off + 2, none⟩ = some v2 ∧ Ex.at S w t (.agg #[v0, v1, v2])) ∧ Ex.ats S w l b (off + 3)
end
/-- The slice holds the expressions. -/
def ExL (S : Nat → Prop) (w : World) (l : List Ex) (v : Value) : Prop := ∃ A cap, v = .slice A l.length cap ∧ l.length ≤ cap ∧ cap ≤ maxLen ∧ (l ≠ [] → ∃ b off, A = some ⟨b, off, none⟩ ∧ b < w.heap.size ∧ S b ∧ Ex.ats S w l b off)

theorem Ex.at_mk {S : Nat → Prop} {w : World} {k n : Int} {l : List Ex} {v : Value} : Ex.at S w (.mk k n l) v ↔ ∃ u, v = .agg #[.int .i64 k, .int .i64 n, u] ∧ ExL S w l u := by
  rw [Ex.at]
  constructor
  · rintro ⟨A, cap, rfl, h⟩; exact ⟨_, rfl, A, cap, rfl, h⟩
  · rintro ⟨_, rfl, A, cap, rfl, h⟩; exact ⟨A, cap, rfl, h⟩

theorem Ex.ats_get {S : Nat → Prop} {w : World} {b : Nat} : ∀ {l : List Ex} {off : Nat}, Ex.ats S w l b off → ∀ i, (hi : i < l.length) →
    ∃ v0 v1 v2, w.cell? ⟨b, off + i * 3, none⟩ = some v0 ∧ w.cell? ⟨b, off + i * 3 + 1, none⟩ = some v1 ∧ w.cell? ⟨b, off + i * 3 + 2, none⟩ = some v2 ∧ Ex.at S w l[i] (.agg #[v0, v1, v2])
  | [], _, _, i, hi => absurd hi (by simp)
  | t :: l, off, h, 0, _ => by
    rw [Ex.ats] at h
    exact h.1
  | t :: l, off, h, i + 1, hi => by
    rw [Ex.ats] at h
    obtain ⟨v0, v1, v2, h0, h1, h2, ha⟩ := Ex.ats_get h.2 i (by simpa using hi)
    have e : off + 3 + i * 3 = off + (i + 1) * 3 := by omega
    rw [e] at h0 h1 h2
    exact ⟨v0, v1, v2, h0, h1, h2, ha⟩
theorem Ex.ats_of {S : Nat → Prop} {w : World} {b : Nat} : ∀ {l : List Ex} {off : Nat}, (∀ i, (hi : i < l.length) →
    ∃ v0 v1 v2, w.cell? ⟨b, off + i * 3, none⟩ = some v0 ∧ w.cell? ⟨b, off + i * 3 + 1, none⟩ = some v1 ∧ w.cell? ⟨b, off + i * 3 + 2, none⟩ = some v2 ∧ Ex.at S w l[i] (.agg #[v0, v1, v2])) → Ex.ats S w l b off
  | [], _, _ => by rw [Ex.ats]; trivial
  | t :: l, off, h => by
    rw [Ex.ats]
    refine ⟨h 0 (by simp), Ex.ats_of fun i hi => ?_⟩
    obtain ⟨v0, v1, v2, h0, h1, h2, ha⟩ := h (i + 1) (by simpa using hi)
    have e : off + (i + 1) * 3 = off + 3 + i * 3 := by omega
    rw [e] at h0 h1 h2
    exact ⟨v0, v1, v2, h0, h1, h2, ha⟩

theorem Ex.at_keep {S S' : Nat → Prop} {w w' : World} (hs : w.heap.size ≤ w'.heap.size) (hS : ∀ b, b < w.heap.size → S b → S' b) (hc : ∀ b o u, b < w.heap.size → S b → w.cell? ⟨b, o, none⟩ = some u → w'.cell? ⟨b, o, none⟩ = some u) : ∀ t v, Ex.at S w t v → Ex.at S' w' t v := by
  intro t
  refine Ex.ind (P := fun t => ∀ v, Ex.at S w t v → Ex.at S' w' t v) ?_ t
  intro k n l ih v h
  rw [Ex.at_mk] at h ⊢
  obtain ⟨_, rfl, A, cap, rfl, h1, h2, h3⟩ := h
  refine ⟨_, rfl, A, cap, rfl, h1, h2, fun hne => ?_⟩
  obtain ⟨b, off, rfl, hb, hb', ha⟩ := h3 hne
  refine ⟨b, off, rfl, Nat.lt_of_lt_of_le hb hs, hS b hb hb', Ex.ats_of fun i hi => ?_⟩
  obtain ⟨v0, v1, v2, c0, c1, c2, ha⟩ := Ex.ats_get ha i hi
  exact ⟨v0, v1, v2, hc _ _ _ hb hb' c0, hc _ _ _ hb hb' c1, hc _ _ _ hb hb' c2, ih _ (List.getElem_mem hi) _ ha⟩
theorem ExL.keep {S S' : Nat → Prop} {w w' : World} (hs : w.heap.size ≤ w'.heap.size) (hS : ∀ b, b < w.heap.size → S b → S' b) (hc : ∀ b o u, b < w.heap.size → S b → w.cell? ⟨b, o, none⟩ = some u → w'.cell? ⟨b, o, none⟩ = some u) {l : List Ex} {v : Value} (h : ExL S w l v) : ExL S' w' l v := by
  have h1 : Ex.at S w (.mk 0 0 l) (.agg #[.int .i64 0, .int .i64 0, v]) := Ex.at_mk.2 ⟨_, rfl, h⟩
  obtain ⟨u, he, h2⟩ := Ex.at_mk.1 (Ex.at_keep hs hS hc _ _ h1)
  simp only [Value.agg.injEq, Array.mk.injEq, List.cons.injEq, and_true, true_and] at he
  rw [he]; exact h2

mutual
/-- The value v is the thing. -/
def Lo.at (S : Nat → Prop) (w : World) : Lo → Value → Prop
  | .mk k x n a l, v => ∃ va A cap, v = .agg #[.int .i64 k, .int .i64 x, .int .i64 n, va, .slice A l.length cap, .slice none 0 0] ∧ ExL S w a va ∧ l.length ≤ cap ∧ cap ≤ maxLen ∧ (l ≠ [] → ∃ b off, A = some ⟨b, off, none⟩ ∧ b < w.heap.size ∧ S b ∧ Lo.ats S w l b off)
def Lo.ats (S : Nat → Prop) (w : World) : List Lo → Nat → Nat → Prop
  | [], _, _ => True
  | t :: l, b, off => (∃ v0 v1 v2 v3 v4 v5, w.cell? ⟨b, off, none⟩ = some v0 ∧ w.cell? ⟨b, off + 1, none⟩ = some v1 ∧ w.cell? ⟨b, off + 2, none⟩ = some v2 ∧ w.cell? ⟨b, off + 3, none⟩ = some v3 ∧ w.cell? ⟨b, off + 4, none⟩ = some v4 ∧ w.cell? ⟨b, off + 5, none⟩ = some v5 ∧ Lo.at S w t (.agg #[v0, v1, v2, v3, v4, v5])) ∧ Lo.ats S w l b (off + 6)
end
/-- The slice holds the things. -/
def LoL (S : Nat → Prop) (w : World) (l : List Lo) (v : Value) : Prop := ∃ A cap, v = .slice A l.length cap ∧ l.length ≤ cap ∧ cap ≤ maxLen ∧ (l ≠ [] → ∃ b off, A = some ⟨b, off, none⟩ ∧ b < w.heap.size ∧ S b ∧ Lo.ats S w l b off)

theorem Lo.at_mk {S : Nat → Prop} {w : World} {k x n : Int} {a : List Ex} {l : List Lo} {v : Value} : Lo.at S w (.mk k x n a l) v ↔ ∃ va u, v = .agg #[.int .i64 k, .int .i64 x, .int .i64 n, va, u, .slice none 0 0] ∧ ExL S w a va ∧ LoL S w l u := by
  rw [Lo.at]
  constructor
  · rintro ⟨va, A, cap, rfl, h0, h⟩; exact ⟨va, _, rfl, h0, A, cap, rfl, h⟩
  · rintro ⟨va, _, rfl, h0, A, cap, rfl, h⟩; exact ⟨va, A, cap, rfl, h0, h⟩
theorem Lo.ats_get {S : Nat → Prop} {w : World} {b : Nat} : ∀ {l : List Lo} {off : Nat}, Lo.ats S w l b off → ∀ i, (hi : i < l.length) →
    ∃ v0 v1 v2 v3 v4 v5, w.cell? ⟨b, off + i * 6, none⟩ = some v0 ∧ w.cell? ⟨b, off + i * 6 + 1, none⟩ = some v1 ∧ w.cell? ⟨b, off + i * 6 + 2, none⟩ = some v2 ∧ w.cell? ⟨b, off + i * 6 + 3, none⟩ = some v3 ∧ w.cell? ⟨b, off + i * 6 + 4, none⟩ = some v4 ∧ w.cell? ⟨b, off + i * 6 + 5, none⟩ = some v5 ∧ Lo.at S w l[i] (.agg #[v0, v1, v2, v3, v4, v5])
  | [], _, _, i, hi => absurd hi (by simp)
  | t :: l, off, h, 0, _ => by
    rw [Lo.ats] at h
    exact h.1
  | t :: l, off, h, i + 1, hi => by
    rw [Lo.ats] at h
    obtain ⟨v0, v1, v2, v3, v4, v5, h0, h1, h2, h3, h4, h5, ha⟩ := Lo.ats_get h.2 i (by simpa using hi)
    have e : off + 6 + i * 6 = off + (i + 1) * 6 := by omega
    rw [e] at h0 h1 h2 h3 h4 h5
    exact ⟨v0, v1, v2, v3, v4, v5, h0, h1, h2, h3, h4, h5, ha⟩
theorem Lo.ats_of {S : Nat → Prop} {w : World} {b : Nat} : ∀ {l : List Lo} {off : Nat}, (∀ i, (hi : i < l.length) →
    ∃ v0 v1 v2 v3 v4 v5, w.cell? ⟨b, off + i * 6, none⟩ = some v0 ∧ w.cell? ⟨b, off + i * 6 + 1, none⟩ = some v1 ∧ w.cell? ⟨b, off + i * 6 + 2, none⟩ = some v2 ∧ w.cell? ⟨b, off + i * 6 + 3, none⟩ = some v3 ∧ w.cell? ⟨b, off + i * 6 + 4, none⟩ = some v4 ∧ w.cell? ⟨b, off + i * 6 + 5, none⟩ = some v5 ∧ Lo.at S w l[i] (.agg #[v0, v1, v2, v3, v4, v5])) → Lo.ats S w l b off
  | [], _, _ => by rw [Lo.ats]; trivial
  | t :: l, off, h => by
    rw [Lo.ats]
    refine ⟨h 0 (by simp), Lo.ats_of fun i hi => ?_⟩
    obtain ⟨v0, v1, v2, v3, v4, v5, h0, h1, h2, h3, h4, h5, ha⟩ := h (i + 1) (by simpa using hi)
    have e : off + (i + 1) * 6 = off + 6 + i * 6 := by omega
    rw [e] at h0 h1 h2 h3 h4 h5
    exact ⟨v0, v1, v2, v3, v4, v5, h0, h1, h2, h3, h4, h5, ha⟩
theorem Lo.at_keep {S S' : Nat → Prop} {w w' : World} (hs : w.heap.size ≤ w'.heap.size) (hS : ∀ b, b < w.heap.size → S b → S' b) (hc : ∀ b o u, b < w.heap.size → S b → w.cell? ⟨b, o, none⟩ = some u → w'.cell? ⟨b, o, none⟩ = some u) : ∀ t v, Lo.at S w t v → Lo.at S' w' t v := by
  intro t
  refine Lo.ind (P := fun t => ∀ v, Lo.at S w t v → Lo.at S' w' t v) ?_ t
  intro k x n a l ih v h
  rw [Lo.at_mk] at h ⊢
  obtain ⟨va, _, rfl, h0, A, cap, rfl, h1, h2, h3⟩ := h
  refine ⟨va, _, rfl, h0.keep hs hS hc, A, cap, rfl, h1, h2, fun hne => ?_⟩
  obtain ⟨b, off, rfl, hb, hb', ha⟩ := h3 hne
  refine ⟨b, off, rfl, Nat.lt_of_lt_of_le hb hs, hS b hb hb', Lo.ats_of fun i hi => ?_⟩
  obtain ⟨v0, v1, v2, v3, v4, v5, c0, c1, c2, c3, c4, c5, ha⟩ := Lo.ats_get ha i hi
  exact ⟨v0, v1, v2, v3, v4, v5, hc _ _ _ hb hb' c0, hc _ _ _ hb hb' c1, hc _ _ _ hb hb' c2, hc _ _ _ hb hb' c3, hc _ _ _ hb hb' c4, hc _ _ _ hb hb' c5, ih _ (List.getElem_mem hi) _ ha⟩
theorem LoL.keep {S S' : Nat → Prop} {w w' : World} (hs : w.heap.size ≤ w'.heap.size) (hS : ∀ b, b < w.heap.size → S b → S' b) (hc : ∀ b o u, b < w.heap.size → S b → w.cell? ⟨b, o, none⟩ = some u → w'.cell? ⟨b, o, none⟩ = some u) {l : List Lo} {v : Value} (h : LoL S w l v) : LoL S' w' l v := by
  have h1 : Lo.at S w (.mk 0 0 0 [] l) (.agg #[.int .i64 0, .int .i64 0, .int .i64 0, .slice none 0 0, v, .slice none 0 0]) := Lo.at_mk.2 ⟨_, _, rfl, ⟨none, 0, rfl, by simp, by simp [maxLen], fun h => absurd rfl h⟩, h⟩
  obtain ⟨va, u, he, _, h2⟩ := Lo.at_mk.1 (Lo.at_keep hs hS hc _ _ h1)
  simp only [Value.agg.injEq, Array.mk.injEq, List.cons.injEq, and_true, true_and] at he
  rw [he.2]; exact h2

theorem keepB {w w' : World} (hb : Below w.heap.size w w') : ∀ b o u, b < w.heap.size → w.cell? ⟨b, o, none⟩ = some u → w'.cell? ⟨b, o, none⟩ = some u :=
  fun b o _ hlt hc => (hb.cell (p := ⟨b, o, none⟩) hlt).trans hc
theorem Ex.at.below {S : Nat → Prop} {w w' : World} {t : Ex} {v : Value} (h : Ex.at S w t v) (hb : Below w.heap.size w w') : Ex.at S w' t v := Ex.at_keep hb.size (fun _ _ h => h) (fun b o u h1 _ => keepB hb b o u h1) t v h
theorem ExL.below {S : Nat → Prop} {w w' : World} {t : List Ex} {v : Value} (h : ExL S w t v) (hb : Below w.heap.size w w') : ExL S w' t v := ExL.keep hb.size (fun _ _ h => h) (fun b o u h1 _ => keepB hb b o u h1) h
theorem Lo.at.below {S : Nat → Prop} {w w' : World} {t : Lo} {v : Value} (h : Lo.at S w t v) (hb : Below w.heap.size w w') : Lo.at S w' t v := Lo.at_keep hb.size (fun _ _ h => h) (fun b o u h1 _ => keepB hb b o u h1) t v h
theorem LoL.below {S : Nat → Prop} {w w' : World} {t : List Lo} {v : Value} (h : LoL S w t v) (hb : Below w.heap.size w w') : LoL S w' t v := LoL.keep hb.size (fun _ _ h => h) (fun b o u h1 _ => keepB hb b o u h1) h
theorem Ex.at.alloc {S : Nat → Prop} {w : World} {t : Ex} {v : Value} (h : Ex.at S w t v) (o : Obj) : Ex.at S (w.alloc o) t v := h.below (B.alloc (B.refl w) o)
theorem ExL.alloc {S : Nat → Prop} {w : World} {t : List Ex} {v : Value} (h : ExL S w t v) (o : Obj) : ExL S (w.alloc o) t v := h.below (B.alloc (B.refl w) o)
theorem Lo.at.alloc {S : Nat → Prop} {w : World} {t : Lo} {v : Value} (h : Lo.at S w t v) (o : Obj) : Lo.at S (w.alloc o) t v := h.below (B.alloc (B.refl w) o)
theorem LoL.alloc {S : Nat → Prop} {w : World} {t : List Lo} {v : Value} (h : LoL S w t v) (o : Obj) : LoL S (w.alloc o) t v := h.below (B.alloc (B.refl w) o)

/-- What a value is: its fields. -/
theorem Ex.agg {S : Nat → Prop} {w : World} {k n : Int} {l : List Ex} {v : Value} (h : Ex.at S w (.mk k n l) v) : ∃ A cap, v = .agg #[.int .i64 k, .int .i64 n, .slice A l.length cap] := by
  obtain ⟨_, rfl, A, cap, rfl, _⟩ := Ex.at_mk.1 h; exact ⟨A, cap, rfl⟩
theorem Lo.agg {S : Nat → Prop} {w : World} {k x n : Int} {a : List Ex} {l : List Lo} {v : Value} (h : Lo.at S w (.mk k x n a l) v) : ∃ A c A' c', v = .agg #[.int .i64 k, .int .i64 x, .int .i64 n, .slice A a.length c, .slice A' l.length c', .slice none 0 0] := by
  obtain ⟨_, _, rfl, ⟨A, c, rfl, _⟩, A', c', rfl, _⟩ := Lo.at_mk.1 h; exact ⟨A, c, A', c', rfl⟩
theorem ExL.nil (S : Nat → Prop) (w : World) : ExL S w [] (.slice none 0 0) := ⟨none, 0, rfl, by simp, by simp [maxLen], fun h => absurd rfl h⟩
theorem LoL.nil (S : Nat → Prop) (w : World) : LoL S w [] (.slice none 0 0) := ⟨none, 0, rfl, by simp, by simp [maxLen], fun h => absurd rfl h⟩

/-- A literal list of expressions: the block is laid. -/
theorem ExL.lit {S : Nat → Prop} {w : World} (ts : List Ex) (vs : List (Value × Value × Value)) (T : TypeId) (hl : ts.length = vs.length) (h : ∀ i (hi : i < ts.length), Ex.at S w ts[i] (.agg #[vs[i].1, vs[i].2.1, vs[i].2.2])) (cells : Array Value) (hc : cells = (vs.flatMap fun v => [v.1, v.2.1, v.2.2]).toArray) (hm : ts.length ≤ maxLen) (g : Nat) (hg : g = w.heap.size) (hS : S g) :
    ExL S (w.alloc (.cells cells T)) ts (.slice (some ⟨g, 0, none⟩) ts.length ts.length) := by
  subst hg hc
  have hget : ∀ (vs : List (Value × Value × Value)) (i : Nat) (hi : i < vs.length), (vs.flatMap fun v => [v.1, v.2.1, v.2.2])[i * 3]? = some vs[i].1 ∧ (vs.flatMap fun v => [v.1, v.2.1, v.2.2])[i * 3 + 1]? = some vs[i].2.1 ∧ (vs.flatMap fun v => [v.1, v.2.1, v.2.2])[i * 3 + 2]? = some vs[i].2.2 := by
    intro vs
    induction vs with
    | nil => intro i hi; simp at hi
    | cons v vs ih =>
      intro i hi
      cases i with
      | zero => simp
      | succ i =>
        have := ih i (by simpa using hi)
        rw [show (i + 1) * 3 = i * 3 + 3 by omega]
        simpa using this
  refine ⟨_, _, rfl, Nat.le_refl _, hm, fun _ => ⟨_, _, rfl, by simp, hS, Ex.ats_of fun i hi => ?_⟩⟩
  obtain ⟨h0, h1, h2⟩ := hget vs i (by omega)
  have cell : ∀ j u, (vs.flatMap fun v => [v.1, v.2.1, v.2.2])[j]? = some u → (w.alloc (.cells (vs.flatMap fun v => [v.1, v.2.1, v.2.2]).toArray T)).cell? ⟨w.heap.size, j, none⟩ = some u := by
    intro j u hj
    have h0 := (VB.new w T (vs.flatMap fun v => [v.1, v.2.1, v.2.2]).toArray).cell j
    rw [h0, List.getElem?_toArray, hj]
  refine ⟨_, _, _, cell _ _ (by rw [Nat.zero_add]; exact h0), cell _ _ (by rw [Nat.zero_add]; exact h1), cell _ _ (by rw [Nat.zero_add]; exact h2), (h i hi).alloc _⟩
/-- A literal list of things: the block is laid. -/
theorem LoL.lit {S : Nat → Prop} {w : World} (ts : List Lo) (vs : List (Value × Value × Value × Value × Value × Value)) (T : TypeId) (hl : ts.length = vs.length) (h : ∀ i (hi : i < ts.length), Lo.at S w ts[i] (.agg #[vs[i].1, vs[i].2.1, vs[i].2.2.1, vs[i].2.2.2.1, vs[i].2.2.2.2.1, vs[i].2.2.2.2.2])) (cells : Array Value) (hc : cells = (vs.flatMap fun v => [v.1, v.2.1, v.2.2.1, v.2.2.2.1, v.2.2.2.2.1, v.2.2.2.2.2]).toArray) (hm : ts.length ≤ maxLen) (g : Nat) (hg : g = w.heap.size) (hS : S g) :
    LoL S (w.alloc (.cells cells T)) ts (.slice (some ⟨g, 0, none⟩) ts.length ts.length) := by
  subst hg hc
  have hget : ∀ (vs : List (Value × Value × Value × Value × Value × Value)) (i : Nat) (hi : i < vs.length), (vs.flatMap fun v => [v.1, v.2.1, v.2.2.1, v.2.2.2.1, v.2.2.2.2.1, v.2.2.2.2.2])[i * 6]? = some vs[i].1 ∧ (vs.flatMap fun v => [v.1, v.2.1, v.2.2.1, v.2.2.2.1, v.2.2.2.2.1, v.2.2.2.2.2])[i * 6 + 1]? = some vs[i].2.1 ∧ (vs.flatMap fun v => [v.1, v.2.1, v.2.2.1, v.2.2.2.1, v.2.2.2.2.1, v.2.2.2.2.2])[i * 6 + 2]? = some vs[i].2.2.1 ∧ (vs.flatMap fun v => [v.1, v.2.1, v.2.2.1, v.2.2.2.1, v.2.2.2.2.1, v.2.2.2.2.2])[i * 6 + 3]? = some vs[i].2.2.2.1 ∧ (vs.flatMap fun v => [v.1, v.2.1, v.2.2.1, v.2.2.2.1, v.2.2.2.2.1, v.2.2.2.2.2])[i * 6 + 4]? = some vs[i].2.2.2.2.1 ∧ (vs.flatMap fun v => [v.1, v.2.1, v.2.2.1, v.2.2.2.1, v.2.2.2.2.1, v.2.2.2.2.2])[i * 6 + 5]? = some vs[i].2.2.2.2.2 := by
    intro vs
    induction vs with
    | nil => intro i hi; simp at hi
    | cons v vs ih =>
      intro i hi
      cases i with
      | zero => simp
      | succ i =>
        have := ih i (by simpa using hi)
        rw [show (i + 1) * 6 = i * 6 + 6 by omega]
        simpa using this
  refine ⟨_, _, rfl, Nat.le_refl _, hm, fun _ => ⟨_, _, rfl, by simp, hS, Lo.ats_of fun i hi => ?_⟩⟩
  obtain ⟨h0, h1, h2, h3, h4, h5⟩ := hget vs i (by omega)
  have cell : ∀ j u, (vs.flatMap fun v => [v.1, v.2.1, v.2.2.1, v.2.2.2.1, v.2.2.2.2.1, v.2.2.2.2.2])[j]? = some u → (w.alloc (.cells (vs.flatMap fun v => [v.1, v.2.1, v.2.2.1, v.2.2.2.1, v.2.2.2.2.1, v.2.2.2.2.2]).toArray T)).cell? ⟨w.heap.size, j, none⟩ = some u := by
    intro j u hj
    have h0 := (VB.new w T (vs.flatMap fun v => [v.1, v.2.1, v.2.2.1, v.2.2.2.1, v.2.2.2.2.1, v.2.2.2.2.2]).toArray).cell j
    rw [h0, List.getElem?_toArray, hj]
  refine ⟨_, _, _, _, _, _, cell _ _ (by rw [Nat.zero_add]; exact h0), cell _ _ (by rw [Nat.zero_add]; exact h1), cell _ _ (by rw [Nat.zero_add]; exact h2), cell _ _ (by rw [Nat.zero_add]; exact h3), cell _ _ (by rw [Nat.zero_add]; exact h4), cell _ _ (by rw [Nat.zero_add]; exact h5), (h i hi).alloc _⟩

def ExV (S : Nat → Prop) (w : World) : List Ex → List (Value × Value × Value) → Prop
  | [], [] => True
  | t :: ts, v :: vs => Ex.at S w t (.agg #[v.1, v.2.1, v.2.2]) ∧ ExV S w ts vs
  | _, _ => False
theorem ExV.get {S : Nat → Prop} {w : World} : ∀ {ts : List Ex} {vs : List (Value × Value × Value)}, ExV S w ts vs → ∃ h : ts.length = vs.length, ∀ i (hi : i < ts.length), Ex.at S w ts[i] (.agg #[(vs[i]'(h ▸ hi)).1, (vs[i]'(h ▸ hi)).2.1, (vs[i]'(h ▸ hi)).2.2])
  | [], [], _ => ⟨rfl, fun i hi => absurd hi (by simp)⟩
  | t :: ts, v :: vs, h => by
    obtain ⟨h1, h2⟩ := h
    obtain ⟨e, h3⟩ := ExV.get h2
    refine ⟨by simp [e], fun i hi => ?_⟩
    cases i with
    | zero => exact h1
    | succ i => exact h3 i (by simpa using hi)
theorem ExL.of {S : Nat → Prop} {w : World} {ts : List Ex} (vs : List (Value × Value × Value)) (h : ExV S w ts vs) (T : TypeId) (cells : Array Value) (hc : cells = (vs.flatMap fun v => [v.1, v.2.1, v.2.2]).toArray) (hm : ts.length ≤ maxLen) (g : Nat) (hg : g = w.heap.size) (hS : S g) :
    ExL S (w.alloc (.cells cells T)) ts (.slice (some ⟨g, 0, none⟩) ts.length ts.length) := by
  obtain ⟨e, h1⟩ := ExV.get h
  exact ExL.lit ts vs T e h1 cells hc hm g hg hS
def LoV (S : Nat → Prop) (w : World) : List Lo → List (Value × Value × Value × Value × Value × Value) → Prop
  | [], [] => True
  | t :: ts, v :: vs => Lo.at S w t (.agg #[v.1, v.2.1, v.2.2.1, v.2.2.2.1, v.2.2.2.2.1, v.2.2.2.2.2]) ∧ LoV S w ts vs
  | _, _ => False
theorem LoV.get {S : Nat → Prop} {w : World} : ∀ {ts : List Lo} {vs : List (Value × Value × Value × Value × Value × Value)}, LoV S w ts vs → ∃ h : ts.length = vs.length, ∀ i (hi : i < ts.length), Lo.at S w ts[i] (.agg #[(vs[i]'(h ▸ hi)).1, (vs[i]'(h ▸ hi)).2.1, (vs[i]'(h ▸ hi)).2.2.1, (vs[i]'(h ▸ hi)).2.2.2.1, (vs[i]'(h ▸ hi)).2.2.2.2.1, (vs[i]'(h ▸ hi)).2.2.2.2.2])
  | [], [], _ => ⟨rfl, fun i hi => absurd hi (by simp)⟩
  | t :: ts, v :: vs, h => by
    obtain ⟨h1, h2⟩ := h
    obtain ⟨e, h3⟩ := LoV.get h2
    refine ⟨by simp [e], fun i hi => ?_⟩
    cases i with
    | zero => exact h1
    | succ i => exact h3 i (by simpa using hi)
theorem LoL.of {S : Nat → Prop} {w : World} {ts : List Lo} (vs : List (Value × Value × Value × Value × Value × Value)) (h : LoV S w ts vs) (T : TypeId) (cells : Array Value) (hc : cells = (vs.flatMap fun v => [v.1, v.2.1, v.2.2.1, v.2.2.2.1, v.2.2.2.2.1, v.2.2.2.2.2]).toArray) (hm : ts.length ≤ maxLen) (g : Nat) (hg : g = w.heap.size) (hS : S g) :
    LoL S (w.alloc (.cells cells T)) ts (.slice (some ⟨g, 0, none⟩) ts.length ts.length) := by
  obtain ⟨e, h1⟩ := LoV.get h
  exact LoL.lit ts vs T e h1 cells hc hm g hg hS

theorem ExV.nil (S : Nat → Prop) (w : World) : ExV S w [] [] := trivial
theorem ExV.cons {S : Nat → Prop} {w : World} {t : Ex} {v0 v1 v2 : Value} {ts : List Ex} {vs : List (Value × Value × Value)} (h : Ex.at S w t (.agg #[v0, v1, v2])) (hs : ExV S w ts vs) : ExV S w (t :: ts) ((v0, v1, v2) :: vs) := ⟨h, hs⟩
theorem LoV.nil (S : Nat → Prop) (w : World) : LoV S w [] [] := trivial
theorem LoV.cons {S : Nat → Prop} {w : World} {t : Lo} {v0 v1 v2 v3 v4 v5 : Value} {ts : List Lo} {vs : List (Value × Value × Value × Value × Value × Value)} (h : Lo.at S w t (.agg #[v0, v1, v2, v3, v4, v5])) (hs : LoV S w ts vs) : LoV S w (t :: ts) ((v0, v1, v2, v3, v4, v5) :: vs) := ⟨h, hs⟩
theorem Ex.at.mono {S S' : Nat → Prop} {w : World} {t : Ex} {v : Value} (h : Ex.at S w t v) (hS : ∀ b, b < w.heap.size → S b → S' b) : Ex.at S' w t v := Ex.at_keep (Nat.le_refl _) hS (fun _ _ _ _ _ h => h) t v h
theorem Ex.at.set {S : Nat → Prop} {w : World} {t : Ex} {v : Value} (h : Ex.at S w t v) {R i : Nat} (hR : ¬ S R) (u : Value) : Ex.at S (w.setCell ⟨R, i, none⟩ u) t v := Ex.at_keep (by simp [World.setCell]) (fun _ _ h => h) (fun b o x _ hb hc => by rw [← hc]; exact World.cell?_of_block (w := w) (Below.heap_setCell w ⟨R, i, none⟩ u b (fun e => hR (by rw [e] at hb; exact hb)))) t v h
theorem ExL.mono {S S' : Nat → Prop} {w : World} {t : List Ex} {v : Value} (h : ExL S w t v) (hS : ∀ b, b < w.heap.size → S b → S' b) : ExL S' w t v := ExL.keep (Nat.le_refl _) hS (fun _ _ _ _ _ h => h) h
theorem ExL.set {S : Nat → Prop} {w : World} {t : List Ex} {v : Value} (h : ExL S w t v) {R i : Nat} (hR : ¬ S R) (u : Value) : ExL S (w.setCell ⟨R, i, none⟩ u) t v := ExL.keep (by simp [World.setCell]) (fun _ _ h => h) (fun b o x _ hb hc => by rw [← hc]; exact World.cell?_of_block (w := w) (Below.heap_setCell w ⟨R, i, none⟩ u b (fun e => hR (by rw [e] at hb; exact hb)))) h
theorem Lo.at.mono {S S' : Nat → Prop} {w : World} {t : Lo} {v : Value} (h : Lo.at S w t v) (hS : ∀ b, b < w.heap.size → S b → S' b) : Lo.at S' w t v := Lo.at_keep (Nat.le_refl _) hS (fun _ _ _ _ _ h => h) t v h
theorem Lo.at.set {S : Nat → Prop} {w : World} {t : Lo} {v : Value} (h : Lo.at S w t v) {R i : Nat} (hR : ¬ S R) (u : Value) : Lo.at S (w.setCell ⟨R, i, none⟩ u) t v := Lo.at_keep (by simp [World.setCell]) (fun _ _ h => h) (fun b o x _ hb hc => by rw [← hc]; exact World.cell?_of_block (w := w) (Below.heap_setCell w ⟨R, i, none⟩ u b (fun e => hR (by rw [e] at hb; exact hb)))) t v h
theorem LoL.mono {S S' : Nat → Prop} {w : World} {t : List Lo} {v : Value} (h : LoL S w t v) (hS : ∀ b, b < w.heap.size → S b → S' b) : LoL S' w t v := LoL.keep (Nat.le_refl _) hS (fun _ _ _ _ _ h => h) h
theorem LoL.set {S : Nat → Prop} {w : World} {t : List Lo} {v : Value} (h : LoL S w t v) {R i : Nat} (hR : ¬ S R) (u : Value) : LoL S (w.setCell ⟨R, i, none⟩ u) t v := LoL.keep (by simp [World.setCell]) (fun _ _ h => h) (fun b o x _ hb hc => by rw [← hc]; exact World.cell?_of_block (w := w) (Below.heap_setCell w ⟨R, i, none⟩ u b (fun e => hR (by rw [e] at hb; exact hb)))) h
theorem Ex.at.drew {S : Nat → Prop} {w : World} {t : Ex} {v : Value} (h : Ex.at S w t v) : Ex.at S w.drew t v := Ex.at_keep (w := w) (w' := w.drew) (Nat.le_refl _) (fun _ _ h => h) (fun _ _ _ _ _ h => h) t v h
theorem ExL.drew {S : Nat → Prop} {w : World} {t : List Ex} {v : Value} (h : ExL S w t v) : ExL S w.drew t v := ExL.keep (w := w) (w' := w.drew) (Nat.le_refl _) (fun _ _ h => h) (fun _ _ _ _ _ h => h) h
theorem Lo.at.drew {S : Nat → Prop} {w : World} {t : Lo} {v : Value} (h : Lo.at S w t v) : Lo.at S w.drew t v := Lo.at_keep (w := w) (w' := w.drew) (Nat.le_refl _) (fun _ _ h => h) (fun _ _ _ _ _ h => h) t v h
theorem LoL.drew {S : Nat → Prop} {w : World} {t : List Lo} {v : Value} (h : LoL S w t v) : LoL S w.drew t v := LoL.keep (w := w) (w' := w.drew) (Nat.le_refl _) (fun _ _ h => h) (fun _ _ _ _ _ h => h) h
theorem VB.drew {w : World} {t : Nat} {T : TypeId} {cs : Array Value} (h : VB w t T cs) : VB w.drew t T cs := h
theorem VB.c3 {w : World} {t : Nat} {T : TypeId} {a b c : Value} (h : VB w t T #[a, b, c]) : w.cell? ⟨t, 0, none⟩ = some a ∧ w.cell? ⟨t, 1, none⟩ = some b ∧ w.cell? ⟨t, 2, none⟩ = some c := ⟨h.cell 0, h.cell 1, h.cell 2⟩
theorem B.drew {w W : World} (h : Below w.heap.size w W) : Below w.heap.size w W.drew := ⟨h.os, h.tape, h.output, h.size, h.block⟩
theorem VB.set3 {w : World} {t : Nat} {T : TypeId} {a b c : Value} (h : VB w t T #[a, b, c]) (x y z : Value) : VB (((w.setCell ⟨t, 0, none⟩ x).setCell ⟨t, 1, none⟩ y).setCell ⟨t, 2, none⟩ z) t T #[x, y, z] := ((h.set 0 x).set 1 y).set 2 z
theorem VB.allocDrew {w : World} {t : Nat} {T : TypeId} {cs : Array Value} (h : VB w.drew t T cs) (o : Obj) : VB (w.alloc o).drew t T cs := VB.alloc (w := w) h o
theorem B.allocDrew {w W : World} (h : Below w.heap.size w W.drew) (o : Obj) : Below w.heap.size w (W.alloc o).drew := B.drew (B.alloc (W := W) ⟨h.os, h.tape, h.output, h.size, h.block⟩ o)
theorem Ex.at.allocDrew {S : Nat → Prop} {w : World} {t : Ex} {v : Value} (h : Ex.at S w.drew t v) (o : Obj) : Ex.at S (w.alloc o).drew t v := Ex.at_keep (w := w.drew) (w' := (w.alloc o).drew) (by simp) (fun _ _ h => h) (fun b o' u hb _ hc => ((B.alloc (B.refl w) o).cell (p := ⟨b, o', none⟩) hb).trans hc) t v h
theorem VB.far3 {w : World} {t : Nat} {T : TypeId} {cs : Array Value} (h : VB w t T cs) {b : Nat} (hne : t ≠ b) (x y z : Value) : VB (((w.setCell ⟨b, 0, none⟩ x).setCell ⟨b, 1, none⟩ y).setCell ⟨b, 2, none⟩ z) t T cs := ((h.far b 0 hne x).far b 1 hne y).far b 2 hne z
theorem B.set3 {w W : World} {t : Nat} (h : Below w.heap.size w W) (ht : w.heap.size ≤ t) (x y z : Value) : Below w.heap.size w (((W.setCell ⟨t, 0, none⟩ x).setCell ⟨t, 1, none⟩ y).setCell ⟨t, 2, none⟩ z) :=
  ((h.setCell (p := ⟨t, 0, none⟩) ht x).setCell (p := ⟨t, 1, none⟩) ht y).setCell (p := ⟨t, 2, none⟩) ht z
theorem Ex.at.set3 {S : Nat → Prop} {w : World} {t : Ex} {v : Value} (h : Ex.at S w t v) {R : Nat} (hR : ¬ S R) (x y z : Value) : Ex.at S (((w.setCell ⟨R, 0, none⟩ x).setCell ⟨R, 1, none⟩ y).setCell ⟨R, 2, none⟩ z) t v := ((h.set hR x).set hR y).set hR z
theorem LoL.set3 {S : Nat → Prop} {w : World} {t : List Lo} {v : Value} (h : LoL S w t v) {R : Nat} (hR : ¬ S R) (x y z : Value) : LoL S (((w.setCell ⟨R, 0, none⟩ x).setCell ⟨R, 1, none⟩ y).setCell ⟨R, 2, none⟩ z) t v := ((h.set hR x).set hR y).set hR z
/-- A function: its parameters, its variables, what it does. -/
def FnAt (S : Nat → Prop) (w : World) (p n : Int) (l : List Lo) (v : Value) : Prop := ∃ u, v = .agg #[.int .i64 p, .int .i64 n, u] ∧ LoL S w l u

end Go.Proofs.Ytgohnekaolgblaa
