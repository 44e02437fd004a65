/- How many things and expressions a program on words has: contracts (gimletref28.Size, deep, exps). -/
import Derived.Test.YtgohnekaolgblaaLfBytes
namespace Go.Proofs.Ytgohnekaolgblaa
open Go.RowKit

def Lo.k : Lo → Int | .mk k _ _ _ _ => k
def Lo.x : Lo → Int | .mk _ x _ _ _ => x
def Lo.n : Lo → Int | .mk _ _ n _ _ => n
def Lo.a : Lo → List Ex | .mk _ _ _ a _ => a
def Lo.l : Lo → List Lo | .mk _ _ _ _ l => l
def Ex.k : Ex → Int | .mk k _ _ => k
def Ex.n : Ex → Int | .mk _ n _ => n
def Ex.l : Ex → List Ex | .mk _ _ l => l

/-- One of a list of expressions, of things. -/
theorem ExL.elem {S : Nat → Prop} {w : World} {l : List Ex} {A : Option Addr} {cap : Nat} (h : ExL S w l (.slice A l.length cap)) (i : Nat) (hi : i < l.length) :
    ∃ b off A1 k1, A = some ⟨b, off, none⟩ ∧ b < w.heap.size ∧ w.cell? ⟨b, off + i * 3, none⟩ = some (.int .i64 l[i].k) ∧ w.cell? ⟨b, off + i * 3 + 1, none⟩ = some (.int .i64 l[i].n) ∧ w.cell? ⟨b, off + i * 3 + 2, none⟩ = some (.slice A1 l[i].l.length k1) ∧ ExL S w l[i].l (.slice A1 l[i].l.length k1) := by
  obtain ⟨A', cap', e, h1, h2, h3⟩ := h
  simp only [Value.slice.injEq, true_and] at e
  obtain ⟨rfl, rfl⟩ := e
  obtain ⟨b, off, rfl, hb, -, ha⟩ := h3 (by intro e; subst e; simp at hi)
  obtain ⟨v0, v1, v2, c0, c1, c2, hat⟩ := Ex.ats_get ha i hi
  generalize l[i] = t at *
  obtain ⟨k, n, l'⟩ := t
  obtain ⟨u, e, hu⟩ := Ex.at_mk.1 hat
  simp only [Value.agg.injEq, Array.mk.injEq, List.cons.injEq, and_true] at e
  obtain ⟨rfl, rfl, rfl⟩ := e
  obtain ⟨A1, k1, rfl, r⟩ := id hu
  exact ⟨b, off, A1, k1, rfl, hb, c0, c1, c2, hu⟩
theorem LoL.elem {S : Nat → Prop} {w : World} {l : List Lo} {A : Option Addr} {cap : Nat} (h : LoL S w l (.slice A l.length cap)) (i : Nat) (hi : i < l.length) :
    ∃ b off A1 k1 A2 k2, A = some ⟨b, off, none⟩ ∧ b < w.heap.size ∧ w.cell? ⟨b, off + i * 6, none⟩ = some (.int .i64 l[i].k) ∧ w.cell? ⟨b, off + i * 6 + 1, none⟩ = some (.int .i64 l[i].x) ∧ w.cell? ⟨b, off + i * 6 + 2, none⟩ = some (.int .i64 l[i].n) ∧ w.cell? ⟨b, off + i * 6 + 3, none⟩ = some (.slice A1 l[i].a.length k1) ∧
      w.cell? ⟨b, off + i * 6 + 4, none⟩ = some (.slice A2 l[i].l.length k2) ∧ w.cell? ⟨b, off + i * 6 + 5, none⟩ = some (.slice none 0 0) ∧ ExL S w l[i].a (.slice A1 l[i].a.length k1) ∧ LoL S w l[i].l (.slice A2 l[i].l.length k2) := by
  obtain ⟨A', cap', e, h1, h2, h3⟩ := h
  simp only [Value.slice.injEq, true_and] at e
  obtain ⟨rfl, rfl⟩ := e
  obtain ⟨b, off, rfl, hb, -, ha⟩ := h3 (by intro e; subst e; simp at hi)
  obtain ⟨v0, v1, v2, v3, v4, v5, c0, c1, c2, c3, c4, c5, hat⟩ := Lo.ats_get ha i hi
  generalize l[i] = t at *
  obtain ⟨k, x, n, a, l'⟩ := t
  obtain ⟨ua, u, e, hua, hu⟩ := Lo.at_mk.1 hat
  simp only [Value.agg.injEq, Array.mk.injEq, List.cons.injEq, and_true] at e
  obtain ⟨rfl, rfl, rfl, rfl, rfl, rfl⟩ := e
  obtain ⟨A1, k1, rfl, r⟩ := id hua
  obtain ⟨A2, k2, rfl, r⟩ := id hu
  exact ⟨b, off, A1, k1, A2, k2, rfl, hb, c0, c1, c2, c3, c4, c5, hua, hu⟩
theorem ExL.slice {S : Nat → Prop} {w : World} {l : List Ex} {v : Value} (h : ExL S w l v) : ∃ A cap, v = .slice A l.length cap := let ⟨A, c, e, _⟩ := h; ⟨A, c, e⟩
theorem LoL.slice {S : Nat → Prop} {w : World} {l : List Lo} {v : Value} (h : LoL S w l v) : ∃ A cap, v = .slice A l.length cap := let ⟨A, c, e, _⟩ := h; ⟨A, c, e⟩

mutual
/-- How many things there are. -/
def Lo.size : Lo → Nat | .mk _ _ _ _ l => 1 + Lo.sizes l
def Lo.sizes : List Lo → Nat | [] => 0 | t :: l => t.size + Lo.sizes l
end
mutual
/-- How many stand in one another. -/
def Lo.deep : Lo → Nat | .mk _ _ _ _ l => 1 + Lo.deeps l
def Lo.deeps : List Lo → Nat | [] => 0 | t :: l => max t.deep (Lo.deeps l)
end
mutual
def Ex.num : Ex → Nat | .mk _ _ l => 1 + Ex.nums l
def Ex.nums : List Ex → Nat | [] => 0 | t :: l => t.num + Ex.nums l
end
mutual
def Ex.deep : Ex → Nat | .mk _ _ l => 1 + Ex.deeps l
def Ex.deeps : List Ex → Nat | [] => 0 | t :: l => max t.deep (Ex.deeps l)
end
theorem Lo.sizes_append : ∀ a b : List Lo, Lo.sizes (a ++ b) = Lo.sizes a + Lo.sizes b
  | [], b => by simp [Lo.sizes]
  | t :: a, b => by simp [Lo.sizes, Lo.sizes_append a b, Nat.add_assoc]
theorem Lo.deeps_append : ∀ a b : List Lo, Lo.deeps (a ++ b) = max (Lo.deeps a) (Lo.deeps b)
  | [], b => by simp [Lo.deeps]
  | t :: a, b => by simp [Lo.deeps, Lo.deeps_append a b, Nat.max_assoc]
theorem Ex.nums_append : ∀ a b : List Ex, Ex.nums (a ++ b) = Ex.nums a + Ex.nums b
  | [], b => by simp [Ex.nums]
  | t :: a, b => by simp [Ex.nums, Ex.nums_append a b, Nat.add_assoc]
theorem Ex.deeps_append : ∀ a b : List Ex, Ex.deeps (a ++ b) = max (Ex.deeps a) (Ex.deeps b)
  | [], b => by simp [Ex.deeps]
  | t :: a, b => by simp [Ex.deeps, Ex.deeps_append a b, Nat.max_assoc]
theorem take_step {α : Type} (l : List α) (i : Nat) (hi : i < l.length) : l.take (i + 1) = l.take i ++ [l[i]] := List.take_succ_eq_append_getElem hi
theorem Lo.sizes_take (l : List Lo) (i : Nat) (hi : i < l.length) : Lo.sizes (l.take (i + 1)) = Lo.sizes (l.take i) + (1 + Lo.sizes l[i].l) := by
  rw [take_step l i hi, Lo.sizes_append]; generalize l[i] = t; obtain ⟨k, x, n, a, l'⟩ := t; simp [Lo.sizes, Lo.size, Lo.l]
theorem Lo.deeps_take (l : List Lo) (i : Nat) (hi : i < l.length) : Lo.deeps (l.take (i + 1)) = max (Lo.deeps (l.take i)) (1 + Lo.deeps l[i].l) := by
  rw [take_step l i hi, Lo.deeps_append]; generalize l[i] = t; obtain ⟨k, x, n, a, l'⟩ := t; simp [Lo.deeps, Lo.deep, Lo.l]
theorem Ex.nums_take (l : List Ex) (i : Nat) (hi : i < l.length) : Ex.nums (l.take (i + 1)) = Ex.nums (l.take i) + (1 + Ex.nums l[i].l) := by
  rw [take_step l i hi, Ex.nums_append]; generalize l[i] = t; obtain ⟨k, n, l'⟩ := t; simp [Ex.nums, Ex.num, Ex.l]
theorem Ex.deeps_take (l : List Ex) (i : Nat) (hi : i < l.length) : Ex.deeps (l.take (i + 1)) = max (Ex.deeps (l.take i)) (1 + Ex.deeps l[i].l) := by
  rw [take_step l i hi, Ex.deeps_append]; generalize l[i] = t; obtain ⟨k, n, l'⟩ := t; simp [Ex.deeps, Ex.deep, Ex.l]
theorem Lo.sizes_le (l : List Lo) (i : Nat) : Lo.sizes (l.take i) ≤ Lo.sizes l := by
  have h := Lo.sizes_append (l.take i) (l.drop i); rw [List.take_append_drop] at h; omega
theorem Lo.len_le : ∀ l : List Lo, l.length ≤ Lo.sizes l
  | [] => by simp
  | .mk _ _ _ _ l' :: l => by have := Lo.len_le l; simp [Lo.sizes, Lo.size]; omega
theorem Ex.nums_le (l : List Ex) (i : Nat) : Ex.nums (l.take i) ≤ Ex.nums l := by
  have h := Ex.nums_append (l.take i) (l.drop i); rw [List.take_append_drop] at h; omega
theorem Ex.len_le : ∀ l : List Ex, l.length ≤ Ex.nums l
  | [] => by simp
  | .mk _ _ l' :: l => by have := Ex.len_le l; simp [Ex.nums, Ex.num]; omega
theorem Lo.sizes_le' (l : List Lo) (i : Nat) : Lo.sizes (l.take i) + (l.length - i) ≤ Lo.sizes l := by
  have h := Lo.sizes_append (l.take i) (l.drop i); rw [List.take_append_drop] at h
  have := Lo.len_le (l.drop i); rw [List.length_drop] at this; omega
theorem Ex.nums_le' (l : List Ex) (i : Nat) : Ex.nums (l.take i) + (l.length - i) ≤ Ex.nums l := by
  have h := Ex.nums_append (l.take i) (l.drop i); rw [List.take_append_drop] at h
  have := Ex.len_le (l.drop i); rw [List.length_drop] at this; omega
mutual
theorem Lo.deep_le : ∀ t : Lo, t.deep ≤ t.size
  | .mk _ _ _ _ l => by have := Lo.deeps_le l; simp [Lo.deep, Lo.size]; omega
theorem Lo.deeps_le : ∀ l : List Lo, Lo.deeps l ≤ Lo.sizes l
  | [] => by simp [Lo.deeps]
  | t :: l => by have := Lo.deep_le t; have := Lo.deeps_le l; simp [Lo.deeps, Lo.sizes]; omega
end
mutual
theorem Ex.deep_le : ∀ t : Ex, t.deep ≤ t.num
  | .mk _ _ l => by have := Ex.deeps_le l; simp [Ex.deep, Ex.num]; omega
theorem Ex.deeps_le : ∀ l : List Ex, Ex.deeps l ≤ Ex.nums l
  | [] => by simp [Ex.deeps]
  | t :: l => by have := Ex.deep_le t; have := Ex.deeps_le l; simp [Ex.deeps, Ex.nums]; omega
end
theorem Lo.ind' {P : List Lo → Prop} (h : ∀ l : List Lo, (∀ t ∈ l, P t.l) → P l) (l : List Lo) : P l :=
  h l fun t _ => Lo.ind (P := fun t => P t.l) (fun _ _ _ _ l ih => h l fun t ht => ih t ht) t
theorem Ex.ind' {P : List Ex → Prop} (h : ∀ l : List Ex, (∀ t ∈ l, P t.l) → P l) (l : List Ex) : P l :=
  h l fun t _ => Ex.ind (P := fun t => P t.l) (fun _ _ l ih => h l fun t ht => ih t ht) t

set_option maxHeartbeats 1000000 in
theorem rSize (l : List Lo) : ∀ (S : Nat → Prop) (w : World) (v : Value), LoL S w l v → Lo.sizes l ≤ 1000000 →
    Calls Try.prog 60 #[v] w fun e w' => e = .returned (.int .i64 (Lo.sizes l : Nat)) ∧ w' = w := by
  refine Lo.ind' (P := fun l => ∀ (S : Nat → Prop) (w : World) (v : Value), LoL S w l v → Lo.sizes l ≤ 1000000 → Calls Try.prog 60 #[v] w fun e w' => e = .returned (.int .i64 (Lo.sizes l : Nat)) ∧ w' = w) ?_ l
  intro l ih S w v hv hle
  obtain ⟨A, cap, rfl⟩ := hv.slice
  have hll := Lo.len_le l
  replace ih := Lib.hid ih
  replace hv := Lib.hid hv
  obtain ⟨r, hr⟩ : ∃ r, r = Lo.sizes l := ⟨_, rfl⟩
  rw [← hr] at hle hll ⊢
  replace hr := Lib.hid hr
  go_enter Try.func60, Try.ntmps60
  go_wp2_with fail
  go_loopw [3, 4] (fun nn q wr => ∃ (i n : Nat), q = .int .i64 (i : Int) ∧ nn = .int .i64 (n : Int) ∧ i ≤ l.length ∧ n = Lo.sizes (l.take i) + (l.length - i) ∧ wr = w)
    (fun _ q _ => l.length - (intOf q).toNat)
  case atStart => exact ⟨0, l.length, rfl, rfl, by omega, by simp [Lo.sizes], rfl⟩
  case round =>
    obtain ⟨i, n, rfl, rfl, hi, hn, rfl⟩ := hrel
    by_cases hil : i < l.length
    · obtain ⟨b, off, A1, k1, A2, k2, rfl, hb, d0, d1, d2, d3, d4, d5, ha, hl⟩ := hv.out.elem i hil
      have h1 := Lo.sizes_take l i hil
      have h2 := Lo.sizes_le' l (i + 1)
      rw [← hr.out] at h2
      have hc := ih.out l[i] (List.getElem_mem hil) S wr _ hl (by omega)
      obtain ⟨m, hm⟩ : ∃ m, m = Lo.sizes l[i].l := ⟨_, rfl⟩
      rw [← hm] at hc h1
      replace hc := Lib.hid hc
      have hnm : n + m ≤ 1000000 := by omega
      have hn' := Lib.hid (show n + m = Lo.sizes (l.take (i + 1)) + (l.length - (i + 1)) by omega)
      clear ha hl h1 h2 hn hm d0 d1 d2 d3
      go_wp2_with fail
      refine hc.out.mono ?_
      rintro _ w1 ⟨rfl, rfl⟩
      go_wp2_with fail
      go_loopw [3, 5] (fun nn q wr => nn = .int .i64 ((n + m : Nat) : Int) ∧ q = .int .i64 0 ∧ wr = w1)
        (fun _ _ _ => 0)
      case atStart => exact ⟨by congr 1, rfl, rfl⟩
      case round =>
        obtain ⟨rfl, rfl, rfl⟩ := hrel
        go_wp2_with fail
        go_roundw
        case measure => simp only [intOf]; omega
        case rel => exact ⟨i + 1, n + m, rfl, rfl, by omega, hn'.out, by first | rfl | trivial⟩
    · have hrn : r = n := by rw [hr.out, hn, List.take_of_length_le (by omega)]; omega
      replace hrn := Lib.hid hrn
      clear hn
      go_wp2_with fail
      go_returns
      exact ⟨by rw [hrn.out]; rfl, rfl⟩

set_option maxHeartbeats 1000000 in
theorem rDeep (l : List Lo) : ∀ (S : Nat → Prop) (w : World) (v : Value), LoL S w l v → Lo.sizes l ≤ 1000000 →
    Calls Try.prog 61 #[v] w fun e w' => e = .returned (.int .i64 (Lo.deeps l : Nat)) ∧ w' = w := by
  refine Lo.ind' (P := fun l => ∀ (S : Nat → Prop) (w : World) (v : Value), LoL S w l v → Lo.sizes l ≤ 1000000 → Calls Try.prog 61 #[v] w fun e w' => e = .returned (.int .i64 (Lo.deeps l : Nat)) ∧ w' = w) ?_ l
  intro l ih S w v hv hle
  obtain ⟨A, cap, rfl⟩ := hv.slice
  have hll : l.length ≤ 1000000 := Nat.le_trans (Lo.len_le l) hle
  replace ih := Lib.hid ih
  replace hv := Lib.hid hv
  replace hle := Lib.hid hle
  obtain ⟨r, hr⟩ : ∃ r, r = Lo.deeps l := ⟨_, rfl⟩
  rw [← hr]
  replace hr := Lib.hid hr
  go_enter Try.func61, Try.ntmps61
  go_wp2_with fail
  go_loopw [3, 4] (fun nn q wr => ∃ (i n : Nat), q = .int .i64 (i : Int) ∧ nn = .int .i64 (n : Int) ∧ i ≤ l.length ∧ n = Lo.deeps (l.take i) ∧ wr = w)
    (fun _ q _ => l.length - (intOf q).toNat)
  case atStart => exact ⟨0, 0, rfl, rfl, by omega, by simp [Lo.deeps], rfl⟩
  case round =>
    obtain ⟨i, n, rfl, rfl, hi, hn, rfl⟩ := hrel
    by_cases hil : i < l.length
    · obtain ⟨b, off, A1, k1, A2, k2, rfl, hb, d0, d1, d2, d3, d4, d5, ha, hl⟩ := hv.out.elem i hil
      have h1 := Lo.deeps_take l i hil
      have h2 := Lo.sizes_le l (i + 1)
      have h3 := Lo.sizes_take l i hil
      have h4 := Lo.deeps_le (l.take i)
      have h5 := Lo.deeps_le l[i].l
      have h6 := hle.out
      have hc := ih.out l[i] (List.getElem_mem hil) S wr _ hl (by omega)
      obtain ⟨m, hm⟩ : ∃ m, m = Lo.deeps l[i].l := ⟨_, rfl⟩
      rw [← hm] at hc h1
      replace hc := Lib.hid hc
      have hnm : n ≤ 1000000 ∧ m ≤ 1000000 := by omega
      have hn' := Lib.hid (show max n (1 + m) = Lo.deeps (l.take (i + 1)) by rw [h1, hn])
      clear ha hl h1 h2 h3 h4 h5 h6 hn hm d0 d1 d2 d3
      go_wp2_with fail
      refine hc.out.mono ?_
      rintro _ w1 ⟨rfl, rfl⟩
      have hmm : (if (n : Int) < 1 + (m : Int) then 1 + (m : Int) else (n : Int)) = ((max n (1 + m) : Nat) : Int) := by split <;> omega
      generalize max n (1 + m) = q at hn' hmm
      go_wp2_with fail
      go_loopw [3, 5] (fun nn q' wr => nn = .int .i64 (q : Int) ∧ q' = .int .i64 0 ∧ wr = w1)
        (fun _ _ _ => 0)
      case atStart => exact ⟨by congr 1, rfl, rfl⟩
      case round =>
        obtain ⟨rfl, rfl, rfl⟩ := hrel
        go_wp2_with fail
        go_roundw
        case measure => simp only [intOf]; omega
        case rel => exact ⟨i + 1, q, rfl, rfl, by omega, hn'.out, by first | rfl | trivial⟩
    · have hrn : r = n := by rw [hr.out, hn, List.take_of_length_le (by omega)]
      replace hrn := Lib.hid hrn
      clear hn
      go_wp2_with fail
      go_returns
      exact ⟨by rw [hrn.out]; rfl, rfl⟩

set_option maxHeartbeats 1000000 in
theorem rExps (l : List Ex) : ∀ (S : Nat → Prop) (w : World) (v : Value), ExL S w l v → Ex.nums l ≤ 1000000 →
    Calls Try.prog 58 #[v] w fun e w' => e = .returned (.tuple #[.int .i64 (Ex.nums l : Nat), .int .i64 (Ex.deeps l : Nat)]) ∧ w' = w := by
  refine Ex.ind' (P := fun l => ∀ (S : Nat → Prop) (w : World) (v : Value), ExL S w l v → Ex.nums l ≤ 1000000 → Calls Try.prog 58 #[v] w fun e w' => e = .returned (.tuple #[.int .i64 (Ex.nums l : Nat), .int .i64 (Ex.deeps l : Nat)]) ∧ w' = w) ?_ l
  intro l ih S w v hv hle
  obtain ⟨A, cap, rfl⟩ := hv.slice
  have hll : l.length ≤ 1000000 := Nat.le_trans (Ex.len_le l) hle
  replace ih := Lib.hid ih
  replace hv := Lib.hid hv
  replace hle := Lib.hid hle
  obtain ⟨r, hr⟩ : ∃ r, r = Ex.nums l := ⟨_, rfl⟩
  obtain ⟨r2, hr2⟩ : ∃ r, r = Ex.deeps l := ⟨_, rfl⟩
  rw [← hr, ← hr2]
  replace hr := Lib.hid hr
  replace hr2 := Lib.hid hr2
  go_enter Try.func58, Try.ntmps58
  go_wp2_with fail
  go_loopw [4, 5, 6] (fun nn dd q wr => ∃ (i n d : Nat), q = .int .i64 (i : Int) ∧ nn = .int .i64 (n : Int) ∧ dd = .int .i64 (d : Int) ∧ i ≤ l.length ∧ n = Ex.nums (l.take i) + (l.length - i) ∧ d = Ex.deeps (l.take i) ∧ wr = w)
    (fun _ _ q _ => l.length - (intOf q).toNat)
  case atStart => exact ⟨0, l.length, 0, rfl, rfl, rfl, by omega, by simp [Ex.nums], by simp [Ex.deeps], rfl⟩
  case round =>
    obtain ⟨i, n, d, rfl, rfl, rfl, hi, hn, hd, rfl⟩ := hrel
    by_cases hil : i < l.length
    · obtain ⟨b, off, A1, k1, rfl, hb, d0, d1, d2, hl⟩ := hv.out.elem i hil
      have h0 := Ex.nums_take l i hil
      have h1 := Ex.deeps_take l i hil
      have h2 := Ex.nums_le' l (i + 1)
      have h4 := Ex.deeps_le (l.take i)
      have h5 := Ex.deeps_le l[i].l
      have h6 := hle.out
      have hc := ih.out l[i] (List.getElem_mem hil) S wr _ hl (by omega)
      obtain ⟨m, hm⟩ : ∃ m, m = Ex.nums l[i].l := ⟨_, rfl⟩
      obtain ⟨m2, hm2⟩ : ∃ m, m = Ex.deeps l[i].l := ⟨_, rfl⟩
      rw [← hm, ← hm2] at hc
      rw [← hm] at h0
      rw [← hm2] at h1
      replace hc := Lib.hid hc
      have hnm : n + m ≤ 1000000 ∧ d ≤ 1000000 ∧ m2 ≤ 1000000 := by omega
      have hn' := Lib.hid (show n + m = Ex.nums (l.take (i + 1)) + (l.length - (i + 1)) by omega)
      have hd' := Lib.hid (show max d (m2 + 1) = Ex.deeps (l.take (i + 1)) by rw [h1, hd, Nat.add_comm])
      clear hl h0 h1 h2 h4 h5 h6 hn hm hm2 hd d0 d1
      go_wp2_with fail
      refine hc.out.mono ?_
      rintro _ w1 ⟨rfl, rfl⟩
      have hmm : (if (d : Int) < (m2 : Int) + 1 then (m2 : Int) + 1 else (d : Int)) = ((max d (m2 + 1) : Nat) : Int) := by split <;> omega
      generalize max d (m2 + 1) = q at hd' hmm
      go_wp2_with fail
      go_roundw
      case measure => simp only [intOf]; omega
      case rel => exact ⟨i + 1, n + m, q, rfl, by congr 1, by congr 1, by omega, hn'.out, hd'.out, by first | rfl | trivial⟩
    · have hrn : r = n := by rw [hr.out, hn, List.take_of_length_le (by omega)]; omega
      have hrd : r2 = d := by rw [hr2.out, hd, List.take_of_length_le (by omega)]
      replace hrn := Lib.hid hrn
      replace hrd := Lib.hid hrd
      clear hn hd
      go_wp2_with fail
      go_returns
      exact ⟨by rw [hrn.out, hrd.out]; rfl, rfl⟩

end Go.Proofs.Ytgohnekaolgblaa
