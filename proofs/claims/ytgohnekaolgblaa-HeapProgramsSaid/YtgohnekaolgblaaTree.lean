/- Values with values in them, as trees: how they lie in memory; what stays of them. -/
import Derived.Test.YtgohnekaolgblaaBase
import Derived.Test.YtgohnekaolgblaaProg
namespace Go.Proofs.Ytgohnekaolgblaa
open Go.RowKit

inductive Tr where
  | mk (k n : Int) (s : ByteArray) (l : List Tr)

def Tr.k : Tr → Int | .mk k _ _ _ => k
def Tr.n : Tr → Int | .mk _ n _ _ => n
def Tr.s : Tr → ByteArray | .mk _ _ s _ => s
def Tr.l : Tr → List Tr | .mk _ _ _ l => l

mutual
/-- The value v is the tree t, whose parts lie in blocks of a set. -/
def Tr.at (S : Nat → Nat → Prop) (w : World) : Tr → Value → Prop
  | .mk k n s l, v => ∃ A cap, v = .agg #[.int .i64 k, .int .i64 n, .string s, .slice A l.length cap] ∧ l.length ≤ cap ∧ cap ≤ maxLen ∧ (l ≠ [] → ∃ b off, A = some ⟨b, off, none⟩ ∧ S b off ∧ Tr.ats S w l b off)
/-- From a place on, trees lie one behind the other. -/
def Tr.ats (S : Nat → Nat → Prop) (w : World) : List Tr → Nat → Nat → Prop
  | [], _, _ => True
  | t :: l, b, off => (∃ v0 v1 v2 v3, w.cell? ⟨b, off, none⟩ = some v0 ∧ w.cell? ⟨b, off + 1, none⟩ = some v1 ∧ w.cell? ⟨b, off + 2, none⟩ = some v2 ∧ w.cell? ⟨b, off + 3, none⟩ = some v3 ∧ Tr.at S w t (.agg #[v0, v1, v2, v3])) ∧ Tr.ats S w l b (off + 4)
end

theorem Tr.at_mk {S : Nat → Nat → Prop} {w : World} {k n : Int} {s : ByteArray} {l : List Tr} {v : Value} : Tr.at S w (.mk k n s l) v ↔ ∃ A cap, v = .agg #[.int .i64 k, .int .i64 n, .string s, .slice A l.length cap] ∧ l.length ≤ cap ∧ cap ≤ maxLen ∧ (l ≠ [] → ∃ b off, A = some ⟨b, off, none⟩ ∧ S b off ∧ Tr.ats S w l b off) := by rw [Tr.at]

theorem Tr.ind {P : Tr → Prop} (h : ∀ k n s l, (∀ t ∈ l, P t) → P (.mk k n s l)) (t : Tr) : P t :=
  Tr.rec (motive_1 := P) (motive_2 := fun l => ∀ t ∈ l, P t) (fun k n s l hl => h k n s l hl) (fun t ht => by cases ht)
    (fun x l hx hl t ht => by
      rcases List.mem_cons.1 ht with rfl | ht
      · exact hx
      · exact hl t ht) t

theorem Tr.ats_get {S : Nat → Nat → Prop} {w : World} {b : Nat} : ∀ {l : List Tr} {off : Nat}, Tr.ats S w l b off → ∀ i, (hi : i < l.length) →
    ∃ v0 v1 v2 v3, w.cell? ⟨b, off + i * 4, none⟩ = some v0 ∧ w.cell? ⟨b, off + i * 4 + 1, none⟩ = some v1 ∧ w.cell? ⟨b, off + i * 4 + 2, none⟩ = some v2 ∧ w.cell? ⟨b, off + i * 4 + 3, none⟩ = some v3 ∧ Tr.at S w l[i] (.agg #[v0, v1, v2, v3])
  | [], _, _, i, hi => absurd hi (by simp)
  | t :: l, off, h, 0, _ => by
    rw [Tr.ats] at h
    exact h.1
  | t :: l, off, h, i + 1, hi => by
    rw [Tr.ats] at h
    obtain ⟨v0, v1, v2, v3, h0, h1, h2, h3, ha⟩ := Tr.ats_get h.2 i (by simpa using hi)
    have e : off + 4 + i * 4 = off + (i + 1) * 4 := by omega
    rw [e] at h0 h1 h2 h3
    exact ⟨v0, v1, v2, v3, h0, h1, h2, h3, ha⟩

theorem Tr.ats_of {S : Nat → Nat → Prop} {w : World} {b : Nat} : ∀ {l : List Tr} {off : Nat}, (∀ i, (hi : i < l.length) →
    ∃ v0 v1 v2 v3, w.cell? ⟨b, off + i * 4, none⟩ = some v0 ∧ w.cell? ⟨b, off + i * 4 + 1, none⟩ = some v1 ∧ w.cell? ⟨b, off + i * 4 + 2, none⟩ = some v2 ∧ w.cell? ⟨b, off + i * 4 + 3, none⟩ = some v3 ∧ Tr.at S w l[i] (.agg #[v0, v1, v2, v3])) → Tr.ats S w l b off
  | [], _, _ => by rw [Tr.ats]; trivial
  | t :: l, off, h => by
    rw [Tr.ats]
    refine ⟨h 0 (by simp), Tr.ats_of fun i hi => ?_⟩
    obtain ⟨v0, v1, v2, v3, h0, h1, h2, h3, ha⟩ := h (i + 1) (by simpa using hi)
    have e : off + (i + 1) * 4 = off + 4 + i * 4 := by omega
    rw [e] at h0 h1 h2 h3
    exact ⟨v0, v1, v2, v3, h0, h1, h2, h3, ha⟩

/-- A tree lies wherever the cells of its blocks are the same. -/
theorem Tr.at_keep {S S' : Nat → Nat → Prop} {w w' : World} (hS : ∀ b off, S b off → S' b off) (hc : ∀ b off o u, S b off → w.cell? ⟨b, o, none⟩ = some u → w'.cell? ⟨b, o, none⟩ = some u) : ∀ t v, Tr.at S w t v → Tr.at S' w' t v := by
  intro t
  refine Tr.ind (P := fun t => ∀ v, Tr.at S w t v → Tr.at S' w' t v) ?_ t
  intro k n s l ih v h
  rw [Tr.at_mk] at h ⊢
  obtain ⟨A, cap, rfl, h1, h2, h3⟩ := h
  refine ⟨A, cap, rfl, h1, h2, fun hne => ?_⟩
  obtain ⟨b, off, rfl, hb, ha⟩ := h3 hne
  refine ⟨b, off, rfl, hS b off hb, Tr.ats_of fun i hi => ?_⟩
  obtain ⟨v0, v1, v2, v3, c0, c1, c2, c3, ha⟩ := Tr.ats_get ha i hi
  exact ⟨v0, v1, v2, v3, hc _ _ _ _ hb c0, hc _ _ _ _ hb c1, hc _ _ _ _ hb c2, hc _ _ _ _ hb c3, ih _ (List.getElem_mem hi) _ ha⟩

theorem Tr.at_below {S : Nat → Nat → Prop} {C : Nat} {w w' : World} {t : Tr} {v : Value} (h : Tr.at S w t v) (hb : Below C w w') (hC : ∀ b off, S b off → b < C) : Tr.at S w' t v :=
  Tr.at_keep (fun _ _ h => h) (fun b off o _ hlt hc => (hb.cell (p := ⟨b, o, none⟩) (hC b off hlt)).trans hc) t v h
theorem Tr.at_mono {S S' : Nat → Nat → Prop} {w : World} {t : Tr} {v : Value} (h : Tr.at S w t v) (hS : ∀ b off, S b off → S' b off) : Tr.at S' w t v := Tr.at_keep hS (fun _ _ _ _ _ hc => hc) t v h
theorem Tr.at_alloc {S : Nat → Nat → Prop} {w : World} {t : Tr} {v : Value} (h : Tr.at S w t v) (o : Obj) : Tr.at S (w.alloc o) t v :=
  Tr.at_keep (fun _ _ h => h) (fun _ _ _ _ _ hc => cellA hc o) t v h

/-- What a value is: its fields. -/
theorem Tr.at_agg {S : Nat → Nat → Prop} {w : World} {t : Tr} {v : Value} (h : Tr.at S w t v) : ∃ A cap, v = .agg #[.int .i64 t.k, .int .i64 t.n, .string t.s, .slice A t.l.length cap] ∧ t.l.length ≤ cap ∧ cap ≤ maxLen ∧ (t.l ≠ [] → ∃ b off, A = some ⟨b, off, none⟩ ∧ S b off ∧ Tr.ats S w t.l b off) := by
  obtain ⟨k, n, s, l⟩ := t
  rwa [Tr.at_mk] at h

/-- New blocks, and what stands in some of the old ones may have turned. -/
structure GrowS (S : Nat → Prop) (w w' : World) : Prop where
  os : w'.os = w.os
  tape : w'.tape = w.tape
  output : w'.output = w.output
  size : w.heap.size ≤ w'.heap.size
  block : ∀ k, k < w.heap.size → ¬ S k → w'.heap[k]? = w.heap[k]?

theorem GrowS.refl (S : Nat → Prop) (w : World) : GrowS S w w := ⟨rfl, rfl, rfl, Nat.le_refl _, fun _ _ _ => rfl⟩
theorem GrowS.trans {S : Nat → Prop} {a b c : World} (h : GrowS S a b) (k : GrowS S b c) : GrowS S a c :=
  ⟨k.os.trans h.os, k.tape.trans h.tape, k.output.trans h.output, Nat.le_trans h.size k.size, fun i hi hn => (k.block i (Nat.lt_of_lt_of_le hi h.size) hn).trans (h.block i hi hn)⟩
theorem GrowS.set {S : Nat → Prop} {a w : World} (h : GrowS S a w) {b i : Nat} (hS : S b) (u : Value) : GrowS S a (w.setCell ⟨b, i, none⟩ u) :=
  ⟨h.os, h.tape, h.output, by simpa [World.setCell] using h.size, fun k hk hn => (Below.heap_setCell w ⟨b, i, none⟩ u k (fun e => hn (by rw [e]; exact hS))).trans (h.block k hk hn)⟩
theorem GrowS.setNew {S : Nat → Prop} {a w : World} (h : GrowS S a w) {b i : Nat} (hS : a.heap.size ≤ b) (u : Value) : GrowS S a (w.setCell ⟨b, i, none⟩ u) :=
  ⟨h.os, h.tape, h.output, by simpa [World.setCell] using h.size, fun k hk hn => (Below.heap_setCell w ⟨b, i, none⟩ u k (by simp only; omega)).trans (h.block k hk hn)⟩
theorem GrowS.alloc {S : Nat → Prop} {a w : World} (h : GrowS S a w) (o : Obj) : GrowS S a (w.alloc o) :=
  ⟨h.os, h.tape, h.output, by simpa using Nat.le_succ_of_le h.size, fun k hk hn => (Below.heap_alloc w o k (by have := h.size; omega)).trans (h.block k hk hn)⟩
theorem GrowS.drew {S : Nat → Prop} {a w : World} (h : GrowS S a w) : GrowS S a w.drew := ⟨h.os, h.tape, h.output, h.size, h.block⟩
theorem GrowS.below {S : Nat → Prop} {a w w' : World} (h : GrowS S a w) (hb : Below w.heap.size w w') : GrowS S a w' :=
  ⟨hb.os.trans h.os, hb.tape.trans h.tape, hb.output.trans h.output, Nat.le_trans h.size hb.size, fun k hk hn => (hb.block k (by have := h.size; omega)).trans (h.block k hk hn)⟩
theorem GrowS.mono {S S' : Nat → Prop} {a w : World} (h : GrowS S a w) (hS : ∀ k, k < a.heap.size → S k → S' k) : GrowS S' a w :=
  ⟨h.os, h.tape, h.output, h.size, fun k hk hn => h.block k hk (fun hs => hn (hS k hk hs))⟩
theorem GrowS.toBelow {S : Nat → Prop} {a w : World} (h : GrowS S a w) {B : Nat} (hB : B ≤ a.heap.size) (hS : ∀ k, S k → B ≤ k) : Below B a w :=
  ⟨h.os, h.tape, h.output, h.size, fun k hk => h.block k (by omega) (fun hs => by have := hS k hs; omega)⟩
/-- A tree stays whose blocks are old and do not turn. -/
theorem Tr.at_grow {S : Nat → Nat → Prop} {T : Nat → Prop} {a w : World} {t : Tr} {v : Value} (h : Tr.at S a t v) (hg : GrowS T a w) (hS : ∀ b off, S b off → b < a.heap.size ∧ ¬ T b) : Tr.at S w t v :=
  Tr.at_keep (fun _ _ h => h) (fun b off o _ hb hc => by
    have e := hg.block b (hS b off hb).1 (hS b off hb).2
    rw [← hc]
    exact World.cell?_of_block (w := a) e) t v h
theorem GrowS.vb {S : Nat → Prop} {a w : World} (h : GrowS S a w) {t : Nat} {T : TypeId} {cs : Array Value} (hv : VB a t T cs) (hn : ¬ S t) : VB w t T cs := (h.block t hv.lt hn).trans hv

end Go.Proofs.Ytgohnekaolgblaa
