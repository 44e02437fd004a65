/- word.Read: contract. -/
import Derived.Test.YtgohnekaolgblaaRdValue
import Derived.Test.YtgohnekaolgblaaWdLay
namespace Go.Proofs.Ytgohnekaolgblaa
open Go.RowKit

def Wd.zero : Tr := .mk 0 0 ⟨#[]⟩ []
def Wd.read (ls : List Int) (a u : Int) : Tr × Int :=
  if ¬ Wd.place a then (Wd.zero, 5) else if 1048576 < ls.length then (Wd.zero, 3) else match Wd.rd ls a 200 u 0 0 with
    | none => (Wd.zero, 4)
    | some (t, n, _) => if n = ls.length then (t, 0) else (Wd.zero, 4)

def ReadPost (w : World) (r : Tr × Int) (e : Ending) (w' : World) : Prop := ∃ v, e = .returned (.tuple #[v, .int .i64 r.2]) ∧ Tr.at (fun b off => w.heap.size ≤ b ∧ b < w'.heap.size ∧ Fresh w' b off) w' r.1 v ∧ Below w.heap.size w w'

theorem read_place (vl : Value) (ls : List Int) (a u : Int) (w : World) (hs : Sees .u32 w vl ls) (h0 : 0 ≤ a) (h1 : a < 4294967296) (hp : ¬ Wd.place a) :
    Calls Try.prog 38 #[vl, .int .u32 a, .int .u32 u] w (ReadPost w (Wd.zero, 5)) := by
  obtain ⟨A, c, rfl, hc1, hc2⟩ := hs.len
  unfold maxLen at hc2
  have hand : bits .and .u32 a 3 = a % 4 := bits_mask .u32 a 2 (by decide)
  clear hs
  by_cases e0 : a = 0
  · subst e0
    go_enter Try.func38, Try.ntmps38
    go_wp2
    refine bodyPost_ret (v := .tuple #[.agg #[.int .i64 0, .int .i64 0, .string ⟨#[]⟩, .slice none 0 0], .int .i64 5]) (by simp [results, Try.results38, go_sem]) rfl ⟨_, rfl, ?_, B.alloc (B.refl w) _⟩
    exact Tr.at_leaf _ _ _ _ _
  by_cases e1 : a % 4 = 0
  · have e2 : 2147483648 < a := by
      unfold Wd.place at hp
      omega
    go_enter Try.func38, Try.ntmps38
    go_wp2
    refine bodyPost_ret (v := .tuple #[.agg #[.int .i64 0, .int .i64 0, .string ⟨#[]⟩, .slice none 0 0], .int .i64 5]) (by simp [results, Try.results38, go_sem]) rfl ⟨_, rfl, ?_, B.alloc (B.refl w) _⟩
    exact Tr.at_leaf _ _ _ _ _
  · clear hp
    go_enter Try.func38, Try.ntmps38
    go_wp2
    refine bodyPost_ret (v := .tuple #[.agg #[.int .i64 0, .int .i64 0, .string ⟨#[]⟩, .slice none 0 0], .int .i64 5]) (by simp [results, Try.results38, go_sem]) rfl ⟨_, rfl, ?_, B.alloc (B.refl w) _⟩
    exact Tr.at_leaf _ _ _ _ _

theorem read_long (vl : Value) (ls : List Int) (a u : Int) (w : World) (hs : Sees .u32 w vl ls) (hp : Wd.place a) (hl : 1048576 < ls.length) :
    Calls Try.prog 38 #[vl, .int .u32 a, .int .u32 u] w (ReadPost w (Wd.zero, 3)) := by
  obtain ⟨A, c, rfl, hc1, hc2⟩ := hs.len
  unfold maxLen at hc2
  have hand : bits .and .u32 a 3 = 0 := (bits_mask .u32 a 2 (by decide)).trans hp.2.1
  obtain ⟨p1, p2, p3⟩ := hp
  have e1 : (a == 0) = false := by simpa using p1
  have e2 : decide (2147483648 < a) = false := by simp; omega
  clear hs
  go_enter Try.func38, Try.ntmps38
  go_wp2
  refine bodyPost_ret (v := .tuple #[.agg #[.int .i64 0, .int .i64 0, .string ⟨#[]⟩, .slice none 0 0], .int .i64 3]) (by simp [results, Try.results38, go_sem]) rfl ⟨_, rfl, ?_, B.alloc (B.refl w) _⟩
  exact Tr.at_leaf _ _ _ _ _

set_option maxHeartbeats 2000000 in
theorem read_main (HV : ValHyp 200) (vl : Value) (ls : List Int) (a u : Int) (w : World) (hs : Sees .u32 w vl ls) (hp : Wd.place a) (hl : ls.length ≤ 1048576) (hu : 0 ≤ u ∧ u < 4294967296) (hlr : ∀ x ∈ ls, 0 ≤ x ∧ x < 4294967296) (r : Tr × Int)
    (hr : r = match Wd.rd ls a 200 u 0 0 with | none => (Wd.zero, 4) | some (t, n, _) => if n = ls.length then (t, 0) else (Wd.zero, 4)) :
    Calls Try.prog 38 #[vl, .int .u32 a, .int .u32 u] w (ReadPost w r) := by
  obtain ⟨A, c, rfl, hc1, hc2⟩ := hs.len
  unfold maxLen at hc2
  have hand : bits .and .u32 a 3 = 0 := (bits_mask .u32 a 2 (by decide)).trans hp.2.1
  obtain ⟨p1, p2, p3⟩ := hp
  have e1 : (a == 0) = false := by simpa using p1
  have e2 : decide (2147483648 < a) = false := by simp; omega
  have hv := HV u 1 0 0 A ls c a (w.heap.size + 1) w.heap.size ((w.alloc (.cells #[.int .i64 0, .int .i64 0, .string ⟨#[]⟩, .slice none 0 0] 58)).alloc (.cells #[.slice A ls.length c, .int .u32 a, .int .i64 0, .int .i64 0, .bool false] 114)) rfl
    (by simpa [Rd5] using VB.new (w.alloc (.cells #[.int .i64 0, .int .i64 0, .string ⟨#[]⟩, .slice none 0 0] 58)) 114 #[.slice A ls.length c, .int .u32 a, .int .i64 0, .int .i64 0, .bool false])
    (hs.seesB.keep (Nat.le_refl _) (fun b hb _ => (Below.heap_alloc _ _ b (by simp; omega)).trans (Below.heap_alloc _ _ b hb))) (by omega) hu hlr (by omega) (by omega) hl
  have hv := hv.mono fun e w' h => ValPost.out h
  rw [show ((1 : Nat) : Int) = 1 from rfl] at hv
  replace hv := Lib.hid hv
  replace hr := Lib.hid hr
  replace hlr := Lib.hid hlr
  have X0 := Lib.hid ((VB.new w 58 #[.int .i64 0, .int .i64 0, .string ⟨#[]⟩, .slice none 0 0]).alloc (.cells #[.slice A ls.length c, .int .u32 a, .int .i64 0, .int .i64 0, .bool false] 114))
  clear hs
  go_enter Try.func38, Try.ntmps38
  go_wp2_with fail
  refine hv.out.mono ?_
  rintro _ w1 ⟨v1, t1, nx, m, bd, rfl, at1, r1, g1, res⟩
  obtain ⟨A1, k1, rfl, q1, q2, _⟩ := Tr.at_agg at1
  have c2 := r1.cell 2
  have c4 := r1.cell 4
  have lr := r1.lt
  simp [Rd5] at c2 c4
  have x1 := g1.vb X0.out (by omega)
  have x0a := x1.cell 0
  have x0b := x1.cell 1
  have x0c := x1.cell 2
  have x0d := x1.cell 3
  have fx0 := x1.free 0
  have fx1 := x1.free 1
  have fx2 := x1.free 2
  have fx3 := x1.free 3
  have lx := x1.lt
  simp at x0a x0b x0c x0d
  have hgz := g1.size
  simp only [World.size_alloc] at hgz
  have AT := Lib.hid (Tr.at_mono at1 (S' := fun b off => w.heap.size + 1 < b ∧ b < w1.heap.size ∧ Fresh w1 b off) (fun b off h => ⟨by have h1 := h.1; simp only [World.size_alloc] at h1; omega, h.2⟩))
  have BW : Below w.heap.size w w1 := (B.alloc (B.alloc (B.refl w) _) _).trans (g1.toBelow (B := w.heap.size) (by simp; omega) (fun k hk => by omega))
  replace BW := Lib.hid BW
  replace res := Lib.hid res
  clear r1 g1 at1 x1
  by_cases hbd : bd = true
  · subst hbd
    have hrv : r = (Wd.zero, 4) := by
      have hr' := hr.out
      have res' := res.out
      cases hq : Wd.rd ls a 200 u 0 0 with
      | none => rw [hq] at hr'; exact hr'
      | some x =>
        obtain ⟨t', n', m'⟩ := x
        rw [hq] at hr' res'
        obtain ⟨hb, rfl, rfl, rfl⟩ := res'
        cases hb
    subst hrv
    go_wp2_with fail
    refine bodyPost_ret (v := .tuple #[.agg #[.int .i64 0, .int .i64 0, .string ⟨#[]⟩, .slice none 0 0], .int .i64 4]) (by simp [results, Try.results38, go_sem, x0a, x0b, x0c, x0d, lx]) rfl ⟨_, rfl, Tr.at_leaf _ _ _ _ _, ?_⟩
    exact ((((BW.out.setCell (p := ⟨w.heap.size, 0, none⟩) (by simp) _).setCell (p := ⟨w.heap.size, 1, none⟩) (by simp) _).setCell (p := ⟨w.heap.size, 2, none⟩) (by simp) _).setCell (p := ⟨w.heap.size, 3, none⟩) (by simp) _).alloc (by simp [World.setCell]; omega) _
  · obtain rfl : bd = false := by simpa using hbd
    by_cases hnx : nx = ls.length
    · subst hnx
      have hrv : r = (t1, 0) := by
        have hr' := hr.out
        have res' := res.out
        cases hq : Wd.rd ls a 200 u 0 0 with
        | none => rw [hq] at res'; cases res'
        | some x =>
          obtain ⟨t', n', m'⟩ := x
          rw [hq] at hr' res'
          obtain ⟨hb, h1, h2, h3⟩ := res'
          rw [hr', h1, h2]
          simp
      subst hrv
      go_wp2_with fail
      refine bodyPost_ret (v := .tuple #[.agg #[.int .i64 t1.k, .int .i64 t1.n, .string t1.s, .slice A1 t1.l.length k1], .int .i64 0]) (by simp [results, Try.results38, go_sem, x0a, x0b, x0c, x0d, lx]) rfl ⟨_, rfl, ?_, ?_⟩
      · refine Tr.at_keep (fun b off h => ⟨by have := h.1; omega, by have := h.2.1; simp [World.setCell]; omega, h.2.2.keep ((Below.heap_alloc _ _ b (by have := h.2.1; simp [World.setCell]; omega)).trans ((Below.heap_setCell _ _ _ b (by have := h.1; simp only; omega)).trans ((Below.heap_setCell _ _ _ b (by have := h.1; simp only; omega)).trans ((Below.heap_setCell _ _ _ b (by have := h.1; simp only; omega)).trans (Below.heap_setCell _ _ _ b (by have := h.1; simp only; omega))))))⟩) (fun b off o u' hs hc => ?_) _ _ AT.out
        refine cellA ?_ _
        have := hs.1
        exact (((cellFar (by omega) _).trans ((cellFar (by omega) _).trans ((cellFar (by omega) _).trans (cellFar (by omega) _))))).trans hc
      · exact ((((BW.out.setCell (p := ⟨w.heap.size, 0, none⟩) (by simp) _).setCell (p := ⟨w.heap.size, 1, none⟩) (by simp) _).setCell (p := ⟨w.heap.size, 2, none⟩) (by simp) _).setCell (p := ⟨w.heap.size, 3, none⟩) (by simp) _).alloc (by simp [World.setCell]; omega) _
    · have hnn : (nx : Int) ≠ (ls.length : Int) := by omega
      have hrv : r = (Wd.zero, 4) := by
        have hr' := hr.out
        have res' := res.out
        cases hq : Wd.rd ls a 200 u 0 0 with
        | none => rw [hq] at hr'; exact hr'
        | some x =>
          obtain ⟨t', n', m'⟩ := x
          rw [hq] at hr' res'
          obtain ⟨hb, rfl, rfl, rfl⟩ := res'
          rw [hr']; simp [hnx]
      subst hrv
      go_wp2_with fail
      refine bodyPost_ret (v := .tuple #[.agg #[.int .i64 0, .int .i64 0, .string ⟨#[]⟩, .slice none 0 0], .int .i64 4]) (by simp [results, Try.results38, go_sem, x0a, x0b, x0c, x0d, lx]) rfl ⟨_, rfl, Tr.at_leaf _ _ _ _ _, ?_⟩
      exact ((((BW.out.setCell (p := ⟨w.heap.size, 0, none⟩) (by simp) _).setCell (p := ⟨w.heap.size, 1, none⟩) (by simp) _).setCell (p := ⟨w.heap.size, 2, none⟩) (by simp) _).setCell (p := ⟨w.heap.size, 3, none⟩) (by simp) _).alloc (by simp [World.setCell]; omega) _

/-- word.Read tells which value the words are, or the error. -/
theorem wdRead (vl : Value) (ls : List Int) (a u : Int) (w : World) (hs : Sees .u32 w vl ls) (h0 : 0 ≤ a) (h1 : a < 4294967296) (hu : 0 ≤ u ∧ u < 4294967296) (hlr : ∀ x ∈ ls, 0 ≤ x ∧ x < 4294967296) :
    Calls Try.prog 38 #[vl, .int .u32 a, .int .u32 u] w (ReadPost w (Wd.read ls a u)) := by
  unfold Wd.read
  by_cases hp : Wd.place a
  · rw [if_neg (by simpa using hp)]
    by_cases hl : 1048576 < ls.length
    · rw [if_pos hl]; exact read_long vl ls a u w hs hp hl
    · rw [if_neg hl]; exact read_main (wdValue 200) vl ls a u w hs hp (by omega) hu hlr _ rfl
  · rw [if_pos hp]; exact read_place vl ls a u w hs h0 h1 hp

end Go.Proofs.Ytgohnekaolgblaa
