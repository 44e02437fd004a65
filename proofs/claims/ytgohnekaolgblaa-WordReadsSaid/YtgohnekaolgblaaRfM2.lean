/- gimletref27.Read: contract. gimletkit.OverValue: contract: whatever it writes over lies in the value's own rows. The law WordReads: the walk. -/
import Derived.Test.YtgohnekaolgblaaRfM1
import Derived.Test.YtgohnekaolgblaaWordApart
import Derived.Test.YtgohnekaolgblaaTrRow
import Derived.Test.YtgohnekaolgblaaTrCopy
import Derived.Test.YtgohnekaolgblaaRdVal
import Derived.Test.YtgohnekaolgblaaHpApp
import Derived.Test.YtgohnekaolgblaaWdAwake
namespace Go.Proofs.Ytgohnekaolgblaa
open Go.RowKit

theorem Tr.counts_snoc (l : List Tr) (t : Tr) : Tr.counts (l ++ [t]) = Tr.counts l + t.count := by
  induction l with
  | nil => simp [Tr.counts]
  | cons x l ih => simp only [List.cons_append, Tr.counts, ih]; omega
theorem Wd.rfAcc_count {N : Nat} {f : Int → Nat → Option (Tr × Nat)} (hf : ∀ u n t n', n ≤ N → f u n = some (t, n') → n ≤ n' ∧ n' ≤ N ∧ t.count ≤ 1 + (n' - n)) : ∀ (us : List Int) (acc : List Tr) (n : Nat) (ts : List Tr) (n' : Nat), n ≤ N → Wd.rfAcc f us acc n = some (ts, n') → n ≤ n' ∧ n' ≤ N ∧ Tr.counts ts ≤ Tr.counts acc + us.length + (n' - n) := by
  intro us
  induction us with
  | nil =>
    intro acc n ts n' hn h
    simp only [Wd.rfAcc, Option.some.injEq, Prod.mk.injEq] at h
    obtain ⟨rfl, rfl⟩ := h
    exact ⟨Nat.le_refl _, hn, by simp⟩
  | cons u us ih =>
    intro acc n ts n' hn h
    rw [Wd.rfAcc] at h
    cases hq : f u n with
    | none => rw [hq] at h; cases h
    | some r =>
      obtain ⟨t, n1⟩ := r
      rw [hq] at h
      obtain ⟨a1, a2, a3⟩ := hf _ _ _ _ hn hq
      obtain ⟨b1, b2, b3⟩ := ih _ _ _ _ a2 h
      rw [Tr.counts_snoc] at b3
      simp only [List.length_cons]
      omega
theorem Wd.rf_count (ls : List Int) (a : Int) : ∀ (g : Nat) (u : Int) (n : Nat) (t : Tr) (n' : Nat), n ≤ ls.length → Wd.rf ls a g u n = some (t, n') → n ≤ n' ∧ n' ≤ ls.length ∧ t.count ≤ 1 + (n' - n) := by
  intro g
  induction g with
  | zero =>
    intro u n t n' hn h
    rw [Wd.rf] at h
    split at h
    · simp only [Option.some.injEq, Prod.mk.injEq] at h
      obtain ⟨rfl, rfl⟩ := h
      exact ⟨Nat.le_refl _, hn, by simp [Tr.count, Tr.counts]⟩
    · cases h
  | succ g ih =>
    intro u n t n' hn h
    rw [Wd.rf] at h
    split at h
    · simp only [Option.some.injEq, Prod.mk.injEq] at h
      obtain ⟨rfl, rfl⟩ := h
      exact ⟨Nat.le_refl _, hn, by simp [Tr.count, Tr.counts]⟩
    · split at h
      · cases h
      · split at h
        · cases h
        · rename_i hd hq
          unfold Wd.rfBody at h
          split at h
          · cases h
          · rename_i hw
            simp only [not_or] at hw
            obtain ⟨k, kn, s, b, hun⟩ : ∃ k kn s b, Wd.unhead hd = (k, kn, s, b) := ⟨_, _, _, _, rfl⟩
            rw [hun] at hw h
            simp only at hw h
            obtain rfl : b = true := by simpa using hw.1
            have hwo := Wd.unhead_words hun
            have hsz := Wd.unhead_size hd
            rw [hun] at hsz
            simp only at hsz
            have hw1 : 1 ≤ (Wd.words hd).1.toNat := by
              rw [hwo]
              simp only
              split <;> omega
            split at h
            · split at h
              · simp only [Option.some.injEq, Prod.mk.injEq] at h
                obtain ⟨rfl, rfl⟩ := h
                exact ⟨by omega, by omega, by simp [Tr.count, Tr.counts]⟩
              · cases h
            · split at h
              · cases h
              · rename_i ts1 n1 h1
                split at h
                · simp only [Option.some.injEq, Prod.mk.injEq] at h
                  obtain ⟨rfl, rfl⟩ := h
                  obtain ⟨b1, b2, b3⟩ := Wd.rfAcc_count ih _ _ _ _ _ (by omega) h1
                  have hol : ((ls.drop (n + 1)).take ((Wd.words hd).1.toNat - 1)).length = (Wd.words hd).1.toNat - 1 := by rw [List.length_take, List.length_drop]; omega
                  rw [hol] at b3
                  simp only [Tr.counts] at b3
                  simp only [Tr.count]
                  omega
                · cases h

def Wd.rfFin (ls : List Int) (q : Option (Tr × Nat)) : Tr × Int :=
  match q with
  | none => (Wd.zero, 4)
  | some (t, n) => if n = ls.length ∧ Wd.chk t = 0 then (t, 0) else (Wd.zero, 4)
theorem Wd.rfRead_fin (ls : List Int) (a u : Int) (hp : Wd.place a) (hl : ls.length ≤ 3000) : Wd.rfRead ls a u = Wd.rfFin ls (Wd.rf ls a 200 u 0) := by
  unfold Wd.rfRead
  rw [if_neg (by simpa using hp), if_neg (by omega)]
  cases Wd.rf ls a 200 u 0 with
  | none => rfl
  | some r => rfl

set_option maxHeartbeats 2000000 in
theorem refReadAll (vl : Value) (ls : List Int) (a u : Int) (w : World) (hs : Sees .u32 w vl ls) (h0 : 0 ≤ a) (h1 : a < 4294967296) (hu : 0 ≤ u ∧ u < 4294967296) (hlr : ∀ x ∈ ls, 0 ≤ x ∧ x < 4294967296) (hl : ls.length ≤ 3000) :
    Calls Try.prog 39 #[vl, .int .u32 a, .int .u32 u] w (ReadPost w (Wd.rfRead ls a u)) := by
  obtain ⟨A, c, rfl, hc1, hc2⟩ := hs.len
  unfold maxLen at hc2
  have HP := Lib.hid fun w => rfPlace a w h0 h1
  by_cases hp : Wd.place a
  rotate_left
  · unfold Wd.rfRead
    rw [if_pos hp]
    rw [show decide (Wd.place a) = false by simpa using hp] at HP
    clear hs hp
    go_enter Try.func39, Try.ntmps39
    go_wp2_with fail
    refine (HP.out _).mono ?_
    rintro _ w1 ⟨rfl, hw1⟩
    subst hw1
    go_wp2_with fail
    refine bodyPost_ret (v := .tuple #[.agg #[.int .i64 0, .int .i64 0, .string ⟨#[]⟩, .slice none 0 0], .int .i64 5]) (by simp [results, Try.results39, go_sem]) rfl ⟨_, rfl, Tr.at_leaf _ _ _ _ _, B.alloc (B.refl w) _⟩
  rw [Wd.rfRead_fin ls a u hp hl]
  rw [show decide (Wd.place a) = true by simpa using hp] at HP
  obtain ⟨q, hq⟩ : ∃ q, q = Wd.rf ls a 200 u 0 := ⟨_, rfl⟩
  have hcnt := fun t n (h : q = some (t, n)) => Wd.rf_count ls a 200 u 0 t n (by omega) (by rw [← hq]; exact h)
  have HR := Lib.hid fun w' (h : Below w.heap.size w w') => refRead 200 u 1 0 A ls c a w' (by omega) (hs.below h (Nat.le_refl _)) hu hlr (by omega) (by omega) h0 hp.2.2
  rw [← hq] at HR ⊢
  rw [show ((0 : Nat) : Int) = 0 from rfl, show ((1 : Nat) : Int) = 1 from rfl] at HR
  have X0 := Lib.hid (VB.new w 58 #[.int .i64 0, .int .i64 0, .string ⟨#[]⟩, .slice none 0 0])
  have B0 := Lib.hid (B.alloc (B.refl w) (.cells #[.int .i64 0, .int .i64 0, .string ⟨#[]⟩, .slice none 0 0] 58))
  obtain ⟨r, hr⟩ : ∃ r, r = Wd.rfFin ls q := ⟨_, rfl⟩
  rw [← hr]
  replace hr := Lib.hid hr
  replace hcnt := Lib.hid hcnt
  clear hq hs hp hlr
  go_enter Try.func39, Try.ntmps39
  go_wp2_with fail
  refine (HP.out _).mono ?_
  rintro _ w1 ⟨rfl, hw1⟩
  subst hw1
  go_wp2_with fail
  refine (HR.out _ B0.out).mono ?_
  rintro _ w2 ⟨v2, t2, n2, ok2, rfl, at2, b2, res2⟩
  obtain ⟨A2, k2, rfl, _, _, _⟩ := Tr.at_agg at2
  have X2 := X0.out.call b2
  have x0 := X2.cell 0
  have x1 := X2.cell 1
  have x2 := X2.cell 2
  have x3 := X2.cell 3
  have f0 := X2.free 0
  have f1 := X2.free 1
  have f2 := X2.free 2
  have f3 := X2.free 3
  have lx := X2.lt
  simp at x0 x1 x2 x3
  have BW := Lib.hid (B.call B0.out b2)
  have AT := Lib.hid at2
  have hz2 := b2.size
  simp only [World.size_alloc] at hz2
  replace res2 := Lib.hid res2
  have X2' := Lib.hid X2
  have hz2' := hz2
  clear at2 b2 X2
  cases ok2
  · have hrz : r = (Wd.zero, 4) := by
      have h := res2.out
      rw [hr.out]
      cases q with
      | none => rfl
      | some x => cases h.1
    subst hrz
    go_wp2_with fail
    refine bodyPost_ret (v := .tuple #[.agg #[.int .i64 0, .int .i64 0, .string ⟨#[]⟩, .slice none 0 0], .int .i64 4]) (by simp [results, Try.results39, go_sem, x0, x1, x2, x3, lx]) rfl ⟨_, rfl, Tr.at_leaf _ _ _ _ _, ?_⟩
    exact B.alloc (((((BW.out).setCell (p := ⟨w.heap.size, 0, none⟩) (Nat.le_refl _) _).setCell (p := ⟨w.heap.size, 1, none⟩) (Nat.le_refl _) _).setCell (p := ⟨w.heap.size, 2, none⟩) (Nat.le_refl _) _).setCell (p := ⟨w.heap.size, 3, none⟩) (Nat.le_refl _) _) _
  · have hqs : q = some (t2, n2) := by
      have h := res2.out
      cases q with
      | none => cases h
      | some x =>
        obtain ⟨t', n'⟩ := x
        obtain ⟨_, rfl, rfl⟩ := h
        rfl
    have hct := hcnt.out t2 n2 hqs
    by_cases hnl : n2 = ls.length
    · have HC := Lib.hid fun w' (hb : Below w2.heap.size w2 w') => rfChk t2 _ w' (Tr.at_mono (keepT AT.out hb) (fun _ _ h => h.2.1)) (by omega) (by have := Tr.deep_le t2; omega)
      by_cases hck : Wd.chk t2 = 0
      · rw [hck] at HC
        have hrz : r = (t2, 0) := by rw [hr.out, hqs]; unfold Wd.rfFin; simp only; rw [if_pos ⟨hnl, hck⟩]
        subst hrz
        subst hnl
        clear hqs hr res2 hcnt hck
        go_wp2_with fail
        refine (HC.out _ (B.alloc (B.refl _) _)).mono ?_
        rintro _ w3 ⟨rfl, b3⟩
        have X3 := (X2'.out.alloc (.cells #[.int .i64 t2.k, .int .i64 t2.n, .string t2.s, .slice A2 t2.l.length k2] 58)).call b3
        have V3 := (VB.new w2 58 #[.int .i64 t2.k, .int .i64 t2.n, .string t2.s, .slice A2 t2.l.length k2]).call b3
        have y0 := X3.cell 0
        have y1 := X3.cell 1
        have y2 := X3.cell 2
        have y3 := X3.cell 3
        have g0 := X3.free 0
        have g1 := X3.free 1
        have g2 := X3.free 2
        have g3 := X3.free 3
        have ly := X3.lt
        have v0 := V3.cell 0
        have v1 := V3.cell 1
        have v2 := V3.cell 2
        have v3 := V3.cell 3
        have lv := V3.lt
        simp at y0 y1 y2 y3 v0 v1 v2 v3
        have AT3 := Lib.hid (keepT (keepT AT.out (B.alloc (B.refl w2) (.cells #[.int .i64 t2.k, .int .i64 t2.n, .string t2.s, .slice A2 t2.l.length k2] 58))) b3)
        have BW3 := Lib.hid (B.call (B.alloc BW.out (.cells #[.int .i64 t2.k, .int .i64 t2.n, .string t2.s, .slice A2 t2.l.length k2] 58)) b3)
        have hlv : w.heap.size ≠ w2.heap.size := by omega
        clear b3 X3 V3 x0 x1 x2 x3 f0 f1 f2 f3 lx AT BW
        go_wp2_with fail
        refine bodyPost_ret (v := .tuple #[.agg #[.int .i64 t2.k, .int .i64 t2.n, .string t2.s, .slice A2 t2.l.length k2], .int .i64 0]) (by simp [results, Try.results39, go_sem, y0, y1, y2, y3]) rfl ⟨_, rfl, ?_, ?_⟩
        · refine Tr.at_keep (fun b off h => ⟨by have h1 := h.1; simp only [World.size_alloc] at h1; omega, by have := h.2.1; simp [World.setCell]; omega, h.2.2.keep ((Below.heap_setCell _ _ _ b (by have h1 := h.1; simp only [World.size_alloc] at h1; simp only; omega)).trans ((Below.heap_setCell _ _ _ b (by have h1 := h.1; simp only [World.size_alloc] at h1; simp only; omega)).trans ((Below.heap_setCell _ _ _ b (by have h1 := h.1; simp only [World.size_alloc] at h1; simp only; omega)).trans (Below.heap_setCell _ _ _ b (by have h1 := h.1; simp only [World.size_alloc] at h1; simp only; omega)))))⟩) (fun b off o u' hs hc => ?_) _ _ AT3.out
          have h1 := hs.1
          simp only [World.size_alloc] at h1
          exact ((cellFar (by omega) _).trans ((cellFar (by omega) _).trans ((cellFar (by omega) _).trans (cellFar (by omega) _)))).trans hc
        · exact ((((BW3.out).setCell (p := ⟨w.heap.size, 0, none⟩) (Nat.le_refl _) _).setCell (p := ⟨w.heap.size, 1, none⟩) (Nat.le_refl _) _).setCell (p := ⟨w.heap.size, 2, none⟩) (Nat.le_refl _) _).setCell (p := ⟨w.heap.size, 3, none⟩) (Nat.le_refl _) _
      · have hrz : r = (Wd.zero, 4) := by rw [hr.out, hqs]; unfold Wd.rfFin; simp only; rw [if_neg (fun h => hck h.2)]
        have hck' : (Wd.chk t2 == 0) = false := by simpa using hck
        subst hrz
        subst hnl
        clear hqs hr res2 hcnt hck
        go_wp2_with fail
        refine (HC.out _ (B.alloc (B.refl _) _)).mono ?_
        rintro _ w3 ⟨rfl, b3⟩
        have X3 := (X2'.out.alloc (.cells #[.int .i64 t2.k, .int .i64 t2.n, .string t2.s, .slice A2 t2.l.length k2] 58)).call b3
        have V3 := (VB.new w2 58 #[.int .i64 t2.k, .int .i64 t2.n, .string t2.s, .slice A2 t2.l.length k2]).call b3
        have y0 := X3.cell 0
        have y1 := X3.cell 1
        have y2 := X3.cell 2
        have y3 := X3.cell 3
        have g0 := X3.free 0
        have g1 := X3.free 1
        have g2 := X3.free 2
        have g3 := X3.free 3
        have ly := X3.lt
        have v0 := V3.cell 0
        have v1 := V3.cell 1
        have v2 := V3.cell 2
        have v3 := V3.cell 3
        have lv := V3.lt
        simp at y0 y1 y2 y3 v0 v1 v2 v3
        have AT3 := Lib.hid (keepT (keepT AT.out (B.alloc (B.refl w2) (.cells #[.int .i64 t2.k, .int .i64 t2.n, .string t2.s, .slice A2 t2.l.length k2] 58))) b3)
        have BW3 := Lib.hid (B.call (B.alloc BW.out (.cells #[.int .i64 t2.k, .int .i64 t2.n, .string t2.s, .slice A2 t2.l.length k2] 58)) b3)
        have hlv : w.heap.size ≠ w2.heap.size := by omega
        clear b3 X3 V3 x0 x1 x2 x3 f0 f1 f2 f3 lx AT BW
        go_wp2_with fail
        refine bodyPost_ret (v := .tuple #[.agg #[.int .i64 0, .int .i64 0, .string ⟨#[]⟩, .slice none 0 0], .int .i64 4]) (by simp [results, Try.results39, go_sem, y0, y1, y2, y3]) rfl ⟨_, rfl, Tr.at_leaf _ _ _ _ _, ?_⟩
        exact ((((BW3.out).setCell (p := ⟨w.heap.size, 0, none⟩) (Nat.le_refl _) _).setCell (p := ⟨w.heap.size, 1, none⟩) (Nat.le_refl _) _).setCell (p := ⟨w.heap.size, 2, none⟩) (Nat.le_refl _) _).setCell (p := ⟨w.heap.size, 3, none⟩) (Nat.le_refl _) _
    · have hrz : r = (Wd.zero, 4) := by rw [hr.out, hqs]; unfold Wd.rfFin; simp only; rw [if_neg (fun h => hnl h.1)]
      have hnl' : ((n2 : Int) == (ls.length : Int)) = false := by simp; omega
      subst hrz
      clear hqs hr res2 hcnt hct
      go_wp2_with fail
      refine bodyPost_ret (v := .tuple #[.agg #[.int .i64 0, .int .i64 0, .string ⟨#[]⟩, .slice none 0 0], .int .i64 4]) (by simp [results, Try.results39, go_sem, x0, x1, x2, x3, lx]) rfl ⟨_, rfl, Tr.at_leaf _ _ _ _ _, ?_⟩
      exact B.alloc (((((BW.out).setCell (p := ⟨w.heap.size, 0, none⟩) (Nat.le_refl _) _).setCell (p := ⟨w.heap.size, 1, none⟩) (Nat.le_refl _) _).setCell (p := ⟨w.heap.size, 2, none⟩) (Nat.le_refl _) _).setCell (p := ⟨w.heap.size, 3, none⟩) (Nat.le_refl _) _) _

/-- w is w0, but for elements of rows from lo on that were written over. -/
structure Over (lo : Nat) (w0 w : World) : Prop where
  grow : GrowS (fun k => lo ≤ k) w0 w
  fresh : ∀ b, lo ≤ b → b < w0.heap.size → Fresh w0 b 0 → Fresh w b 0
  cells : ∀ b j v0 v1 v2 v3, lo ≤ b → b < w0.heap.size → w0.cell? ⟨b, j * 4, none⟩ = some v0 → w0.cell? ⟨b, j * 4 + 1, none⟩ = some v1 → w0.cell? ⟨b, j * 4 + 2, none⟩ = some v2 → w0.cell? ⟨b, j * 4 + 3, none⟩ = some v3 →
    (w.cell? ⟨b, j * 4, none⟩ = some v0 ∧ w.cell? ⟨b, j * 4 + 1, none⟩ = some v1 ∧ w.cell? ⟨b, j * 4 + 2, none⟩ = some v2 ∧ w.cell? ⟨b, j * 4 + 3, none⟩ = some v3) ∨
    (w.cell? ⟨b, j * 4, none⟩ = some (.int .i64 77) ∧ w.cell? ⟨b, j * 4 + 1, none⟩ = some (.int .i64 0) ∧ w.cell? ⟨b, j * 4 + 2, none⟩ = some (.string ⟨#[]⟩) ∧ w.cell? ⟨b, j * 4 + 3, none⟩ = some (.slice none 0 0))
theorem Over.refl (lo : Nat) (w : World) : Over lo w w := ⟨GrowS.refl _ _, fun _ _ _ h => h, fun _ _ _ _ _ _ _ _ h0 h1 h2 h3 => .inl ⟨h0, h1, h2, h3⟩⟩
theorem Over.step {lo : Nat} {w0 w w' : World} (h : Over lo w0 w) (hg : w'.os = w.os ∧ w'.tape = w.tape ∧ w'.output = w.output ∧ w.heap.size ≤ w'.heap.size) (hb : ∀ k, k < w0.heap.size → w'.heap[k]? = w.heap[k]?) : Over lo w0 w' := by
  refine ⟨⟨hg.1.trans h.grow.os, hg.2.1.trans h.grow.tape, hg.2.2.1.trans h.grow.output, Nat.le_trans h.grow.size hg.2.2.2, fun k hk hn => (hb k hk).trans (h.grow.block k hk hn)⟩, fun b h1 h2 h3 => (h.fresh b h1 h2 h3).keep (hb b h2), fun b j v0 v1 v2 v3 h1 h2 => ?_⟩
  have e : ∀ o, w'.cell? ⟨b, o, none⟩ = w.cell? ⟨b, o, none⟩ := fun o => World.cell?_of_block (hb b h2)
  rw [e, e, e, e]
  exact h.cells b j v0 v1 v2 v3 h1 h2
theorem Over.call {lo : Nat} {w0 w w' : World} (h : Over lo w0 w) (hb : Below w.heap.size w w') : Over lo w0 w' :=
  h.step ⟨hb.os, hb.tape, hb.output, hb.size⟩ (fun k hk => hb.block k (Nat.lt_of_lt_of_le hk h.grow.size))
theorem Over.alloc {lo : Nat} {w0 w : World} (h : Over lo w0 w) (o : Obj) : Over lo w0 (w.alloc o) := h.call (B.alloc (B.refl w) o)
theorem Over.drew {lo : Nat} {w0 w : World} (h : Over lo w0 w) : Over lo w0 w.drew := h.step ⟨rfl, rfl, rfl, Nat.le_refl _⟩ (fun _ _ => rfl)

def dead4 (w : World) (b j : Nat) : World := (((w.setCell ⟨b, j * 4, none⟩ (.int .i64 77)).setCell ⟨b, j * 4 + 1, none⟩ (.int .i64 0)).setCell ⟨b, j * 4 + 2, none⟩ (.string ⟨#[]⟩)).setCell ⟨b, j * 4 + 3, none⟩ (.slice none 0 0)

theorem dead4_far (w : World) (b j k : Nat) (h : k ≠ b) : (dead4 w b j).heap[k]? = w.heap[k]? := by
  unfold dead4
  exact (Below.heap_setCell _ _ _ k (by simpa using h)).trans ((Below.heap_setCell _ _ _ k (by simpa using h)).trans ((Below.heap_setCell _ _ _ k (by simpa using h)).trans (Below.heap_setCell _ _ _ k (by simpa using h))))
theorem dead4_size (w : World) (b j : Nat) : (dead4 w b j).heap.size = w.heap.size := by simp [dead4, World.setCell]
theorem dead4_frozen (w : World) (b j : Nat) (o : Nat) : (dead4 w b j).frozen? ⟨b, o, none⟩ = w.frozen? ⟨b, o, none⟩ := by
  unfold dead4
  simp
theorem setNe {w : World} {b o o' : Nat} {u : Value} (h : o ≠ o') : (w.setCell ⟨b, o', none⟩ u).cell? ⟨b, o, none⟩ = w.cell? ⟨b, o, none⟩ :=
  World.cell?_setCell_other _ _ _ _ (by intro e; simp only [Addr.mk.injEq] at e; omega)
theorem setEq {w : World} {b o : Nat} {u v : Value} (h : w.cell? ⟨b, o, none⟩ = some v) : (w.setCell ⟨b, o, none⟩ u).cell? ⟨b, o, none⟩ = some u := World.cell?_setCell_same _ _ _ h
theorem dead4_other (w : World) (b j o : Nat) (h : o / 4 ≠ j) : (dead4 w b j).cell? ⟨b, o, none⟩ = w.cell? ⟨b, o, none⟩ := by
  unfold dead4
  rw [setNe (by omega), setNe (by omega), setNe (by omega), setNe (by omega)]

theorem Over.dead {lo : Nat} {w0 w : World} (h : Over lo w0 w) {b j : Nat} (hlo : lo ≤ b) (hb : b < w0.heap.size) : Over lo w0 (dead4 w b j) := by
  refine ⟨⟨h.grow.os, h.grow.tape, h.grow.output, by rw [dead4_size]; exact h.grow.size, fun k hk hn => (dead4_far w b j k (fun e => hn (by omega))).trans (h.grow.block k hk hn)⟩, fun k h1 h2 h3 => ?_, fun k i v0 v1 v2 v3 h1 h2 c0 c1 c2 c3 => ?_⟩
  · have hf := h.fresh k h1 h2 h3
    by_cases e : k = b
    · subst e
      exact ⟨rfl, fun o => (dead4_frozen w k j o).trans (hf.2 o)⟩
    · exact hf.keep (dead4_far w b j k e)
  · have hc := h.cells k i v0 v1 v2 v3 h1 h2 c0 c1 c2 c3
    by_cases e : k = b
    · subst e
      by_cases ei : i = j
      · subst ei
        have p0 : ∃ u, w.cell? ⟨k, i * 4, none⟩ = some u := by rcases hc with hc | hc <;> exact ⟨_, hc.1⟩
        have p1 : ∃ u, w.cell? ⟨k, i * 4 + 1, none⟩ = some u := by rcases hc with hc | hc <;> exact ⟨_, hc.2.1⟩
        have p2 : ∃ u, w.cell? ⟨k, i * 4 + 2, none⟩ = some u := by rcases hc with hc | hc <;> exact ⟨_, hc.2.2.1⟩
        have p3 : ∃ u, w.cell? ⟨k, i * 4 + 3, none⟩ = some u := by rcases hc with hc | hc <;> exact ⟨_, hc.2.2.2⟩
        obtain ⟨u0, p0⟩ := p0
        obtain ⟨u1, p1⟩ := p1
        obtain ⟨u2, p2⟩ := p2
        obtain ⟨u3, p3⟩ := p3
        right
        unfold dead4
        refine ⟨?_, ?_, ?_, ?_⟩
        · rw [setNe (by omega), setNe (by omega), setNe (by omega), setEq p0]
        · rw [setNe (by omega), setNe (by omega)]
          exact setEq ((setNe (by omega)).trans p1)
        · rw [setNe (by omega)]
          exact setEq ((setNe (by omega)).trans ((setNe (by omega)).trans p2))
        · exact setEq ((setNe (by omega)).trans ((setNe (by omega)).trans ((setNe (by omega)).trans p3)))
      · rw [dead4_other w k j _ (by omega), dead4_other w k j _ (by omega), dead4_other w k j _ (by omega), dead4_other w k j _ (by omega)]
        exact hc
    · have ee : ∀ o, (dead4 w b j).cell? ⟨k, o, none⟩ = w.cell? ⟨k, o, none⟩ := fun o => World.cell?_of_block (dead4_far w b j k e)
      rw [ee, ee, ee, ee]
      exact hc

/-- What may turn by one call. -/
def OvS (lo : Nat) (w0 : World) (k : Nat) : Prop := lo ≤ k ∧ k < w0.heap.size
def OverPost (lo : Nat) (w0 w : World) (e : Ending) (w' : World) : Prop := e = .returned (.tuple #[]) ∧ Over lo w0 w' ∧ GrowS (OvS lo w0) w w'
def OverHyp (l : List Tr) : Prop := ∀ t ∈ l, ∀ (lo : Nat) (w0 w : World) (v : Value), Tr.at (fun b off => lo ≤ b ∧ b < w0.heap.size ∧ Fresh w0 b off) w0 t v → Over lo w0 w → Calls Try.prog 40 #[v] w (OverPost lo w0 w)

set_option maxHeartbeats 1000000 in
theorem overLeaf (k n : Int) (s : ByteArray) (A : Option Addr) (c : Nat) (w : World) : Calls Try.prog 40 #[.agg #[.int .i64 k, .int .i64 n, .string s, .slice A 0 c]] w fun e w' => e = .returned (.tuple #[]) ∧ Below w.heap.size w w' := by
  have V0 := Lib.hid (VB.new w 58 #[.int .i64 k, .int .i64 n, .string s, .slice A 0 c])
  have B0 := Lib.hid (B.alloc (B.refl w) (.cells #[.int .i64 k, .int .i64 n, .string s, .slice A 0 c] 58))
  go_enter Try.func40, Try.ntmps40
  go_wp2_with fail
  go_loopw [2] (fun q wr => q = .int .i64 0 ∧ VB wr w.heap.size 58 #[.int .i64 k, .int .i64 n, .string s, .slice A 0 c] ∧ Below w.heap.size w wr) (fun q _ => 1 - (intOf q).toNat)
  case atStart => exact ⟨rfl, V0.out, B0.out⟩
  case round =>
    obtain ⟨rfl, v5, b5⟩ := hrel
    have c3 := v5.cell 3
    simp at c3
    have BB := Lib.hid b5
    clear V0 B0 v5 b5
    go_wp2_with fail
    go_end0
    exact ⟨rfl, BB.out⟩

set_option maxHeartbeats 2000000 in
set_option maxRecDepth 100000 in
theorem over_list (k n : Int) (s : ByteArray) (l : List Tr) (lo : Nat) (w0 w : World) (v : Value) (HI : Hid (OverHyp l)) (ht : Tr.at (fun b off => lo ≤ b ∧ b < w0.heap.size ∧ Fresh w0 b off) w0 (.mk k n s l) v) (ho : Over lo w0 w) :
    Calls Try.prog 40 #[v] w (OverPost lo w0 w) := by
  rw [Tr.at_mk] at ht
  obtain ⟨A, c, rfl, h1, h2, h3⟩ := ht
  unfold maxLen at h2
  have V0 := Lib.hid (VB.new w 58 #[.int .i64 k, .int .i64 n, .string s, .slice A l.length c])
  have O0 := Lib.hid (ho.alloc (.cells #[.int .i64 k, .int .i64 n, .string s, .slice A l.length c] 58))
  have G0 := Lib.hid ((GrowS.refl (OvS lo w0) w).alloc (.cells #[.int .i64 k, .int .i64 n, .string s, .slice A l.length c] 58))
  have hz0 := ho.grow.size
  replace h3 := Lib.hid h3
  clear ho
  go_enter Try.func40, Try.ntmps40
  go_wp2_with fail
  go_loopw [2] (fun q wr => ∃ i : Nat, q = .int .i64 (i : Int) ∧ i ≤ l.length ∧ VB wr w.heap.size 58 #[.int .i64 k, .int .i64 n, .string s, .slice A l.length c] ∧ Over lo w0 wr ∧ GrowS (OvS lo w0) w wr ∧ w.heap.size < wr.heap.size) (fun q _ => l.length - (intOf q).toNat)
  case atStart => exact ⟨0, rfl, by omega, V0.out, O0.out, G0.out, by simp⟩
  case round =>
    obtain ⟨i, rfl, hi, v5, o5, g5, hz5⟩ := hrel
    clear V0 O0 G0
    have c3 := v5.cell 3
    have cl := v5.lt
    simp at c3
    by_cases hil : i < l.length
    · obtain ⟨b, off, rfl, ⟨hlo, hbw, hfr⟩, hats⟩ := h3.out (by intro e; subst e; simp at hil)
      obtain ⟨rfl, _⟩ := id hfr
      obtain ⟨A1, k1, d0, d1, d2, d3, q1, q2, t1⟩ := Tr.ats_cells hats i hil
      rw [Nat.zero_add] at d0 d1 d2 d3
      have hbne : b ≠ w.heap.size := by omega
      have hcs := o5.cells b i _ _ _ _ hlo hbw d0 d1 d2 d3
      have hfz := fun w' (h : Over lo w0 w') o => (h.fresh b hlo hbw hfr).2 o
      have hpres : ∀ w', Over lo w0 w' → ∃ u0 u1 u2 u3, w'.cell? ⟨b, i * 4, none⟩ = some u0 ∧ w'.cell? ⟨b, i * 4 + 1, none⟩ = some u1 ∧ w'.cell? ⟨b, i * 4 + 2, none⟩ = some u2 ∧ w'.cell? ⟨b, i * 4 + 3, none⟩ = some u3 := fun w' h => by
        rcases h.cells b i _ _ _ _ hlo hbw d0 d1 d2 d3 with h | h <;> exact ⟨_, _, _, _, h.1, h.2.1, h.2.2.1, h.2.2.2⟩
      have hcall := HI.out l[i] (List.getElem_mem hil) lo w0 wr _ t1 o5
      have V5 := Lib.hid v5
      have O5 := Lib.hid o5
      have G5 := Lib.hid g5
      replace hfz := Lib.hid hfz
      replace hpres := Lib.hid hpres
      replace hcall := Lib.hid hcall
      have hz6 := o5.grow.size
      clear v5 o5 g5 hats t1 d0 d1 d2 d3 hfr
      have key : ∃ va, (∃ a0 a1 a2 a3, va = Value.agg #[a0, a1, a2, a3] ∧ wr.cell? ⟨b, i * 4, none⟩ = some a0 ∧ wr.cell? ⟨b, i * 4 + 1, none⟩ = some a1 ∧ wr.cell? ⟨b, i * 4 + 2, none⟩ = some a2 ∧ wr.cell? ⟨b, i * 4 + 3, none⟩ = some a3) ∧ Calls Try.prog 40 #[va] wr (OverPost lo w0 wr) := by
        rcases hcs with ⟨e0, e1, e2, e3⟩ | ⟨e0, e1, e2, e3⟩
        · exact ⟨_, ⟨_, _, _, _, rfl, e0, e1, e2, e3⟩, hcall.out⟩
        · refine ⟨_, ⟨_, _, _, _, rfl, e0, e1, e2, e3⟩, (overLeaf 77 0 ⟨#[]⟩ none 0 wr).mono fun e w' h => ⟨h.1, O5.out.call h.2, (GrowS.refl _ wr).below h.2⟩⟩
      obtain ⟨va, ⟨a0, a1, a2, a3, rfl, e0, e1, e2, e3⟩, hc⟩ := key
      replace hc := Lib.hid hc
      clear hcs hcall
      go_wp2_with fail
      refine hc.out.mono ?_
      rintro _ w6 ⟨rfl, o6, g6⟩
      obtain ⟨u0, u1, u2, u3, p0, p1, p2, p3⟩ := hpres.out w6 o6
      have z0 := hfz.out w6 o6 (i * 4)
      have z1 := hfz.out w6 o6 (i * 4 + 1)
      have z2 := hfz.out w6 o6 (i * 4 + 2)
      have z3 := hfz.out w6 o6 (i * 4 + 3)
      have V6 := g6.vb V5.out (fun h => by have := h.2; omega)
      have c36 := V6.cell 3
      have cl6 := V6.lt
      simp at c36
      have O6 := Lib.hid o6
      have G6 := Lib.hid (G5.out.trans (g6.mono (fun _ _ h => h)))
      have hz66 := g6.size
      replace V6 := Lib.hid V6
      clear o6 g6 c3 cl e0 e1 e2 e3
      go_wp2_with fail
      go_roundw
      case measure => simp only [intOf]; omega
      case rel =>
        refine ⟨i + 1, by simp, by omega, (((V6.out.far _ _ (by omega) _).far _ _ (by omega) _).far _ _ (by omega) _).far _ _ (by omega) _, O6.out.dead (b := b) (j := i) hlo hbw, (((G6.out.set ⟨hlo, hbw⟩ _).set ⟨hlo, hbw⟩ _).set ⟨hlo, hbw⟩ _).set ⟨hlo, hbw⟩ _, by simp [World.setCell]; omega⟩
    · have OO := Lib.hid o5
      have GG := Lib.hid g5
      clear v5 o5 g5
      go_wp2_with fail
      go_end0
      exact ⟨rfl, OO.out, GG.out⟩

theorem overValue (t : Tr) : OverHyp [t] := by
  induction t using Tr.ind
  rename_i k n s l ih
  intro t ht lo w0 w v hv ho
  obtain rfl := List.mem_singleton.1 ht
  exact over_list k n s l lo w0 w v (Lib.hid fun t ht => ih t ht t (List.mem_singleton.2 rfl)) hv ho

set_option maxHeartbeats 4000000 in
set_option maxRecDepth 100000 in
theorem wordReadsWalk (vl : Value) (ls : List Int) (a u : Int) (w : World) (hl : Sees .u32 w vl ls) (hlr : ∀ n ∈ ls, (Lit.int .u32 n).wf = true) (h2 : (Lit.int .u32 a).wf = true) (h3 : (Lit.int .u32 u).wf = true) :
    Calls Try.prog 8 #[vl, .int .u32 a, .int .u32 u] w fun e w' => e = .returned (.bool true) ∧ Below w.heap.size w w' := by
  obtain ⟨ha0, ha1⟩ := wf_u32 h2
  have hu := wf_u32 h3
  have hr : ∀ x ∈ ls, 0 ≤ x ∧ x < 4294967296 := fun x hx => wf_u32 (hlr x hx)
  obtain ⟨A, c, rfl, l1, l2⟩ := hl.len
  unfold maxLen at l2
  clear hlr h2 h3
  by_cases hbig : 3000 < ls.length
  · clear hl hr
    go_enter Try.func8, Try.ntmps8
    go_wp2_with fail
    go_returns
    exact ⟨rfl, B.refl w⟩
  have hl3 : ls.length ≤ 3000 := by omega
  obtain ⟨t, er, hrd⟩ : ∃ t er, Wd.read ls a u = (t, er) := ⟨_, _, rfl⟩
  have hrf := Wd.rfRead_eq ls a u ha0 hr hu hl3
  rw [hrd] at hrf
  have HRD := Lib.hid fun v w' (h : Sees .u32 w' v ls) => wdRead v ls a u w' h ha0 ha1 hu hr
  have HRF := Lib.hid fun w' (h : Below w.heap.size w w') => refReadAll _ ls a u w' (hl.below h (Nat.le_refl _)) ha0 ha1 hu hr hl3
  rw [hrd] at HRD
  rw [hrf] at HRF
  have HAW := Lib.hid awake27
  obtain ⟨i0, hi, hz0, hz1, hz2⟩ := info_parts (show (Try.prog.info? 22).map (fun i => (i.zero, i.size, i.bytes)) = some (some (.int .u32 0), 1, 4) by kernel_rfl)
  have HL := Lib.hid hl
  have hla := Lib.hid (hl.alloc (.cells #[] 22))
  have HSV := Lib.hid fun w' v v' lo lo' (h : Tr.at (fun b off => lo ≤ b ∧ b < w'.heap.size ∧ Fresh w' b off) w' t v) (h' : Tr.at (fun b off => lo' ≤ b ∧ b < w'.heap.size ∧ Fresh w' b off) w' t v') => sameValueN t t w' v v' ⟨lo, h⟩ ⟨lo', h'⟩ true ((Tr.same_iff t t).2 rfl)
  have hown := Lib.hid ((Owns.empty 22 .u32 w))
  clear hl hr hrd hrf
  go_enter Try.func8, Try.ntmps8
  go_wp2_with (first
    | (at_builtin; refine app_at (B := w.heap.size) (xs := []) (ys := ls) Try.underlying24 hi hz0 hz1 hz2 rfl (.tmp 15) (.tmp 16) rfl rfl rfl hla.out hown.out (by simp) (by simp; omega) (by unfold maxLen; simp; omega) ?_; intro v1 w1 own1 g1 _)
    | fail)
  rw [List.nil_append] at own1
  obtain ⟨A1, c1, rfl, _, _⟩ := own1.sees.len
  have BW1 := Lib.hid ((B.alloc (B.refl w) (.cells #[] 22)).grown g1 (by simp) (fun g hg => (hown.out.lt g hg).1))
  have S1 := Lib.hid own1.sees
  clear own1 g1 hown hla
  go_wp2_with fail
  refine (HRD.out _ w1 S1.out).mono ?_
  rintro _ w2 ⟨v2, rfl, at2, b2⟩
  obtain ⟨A2, k2, rfl, _⟩ := Tr.at_agg at2
  have B12 := Lib.hid b2
  go_wp2_with fail
  obtain ⟨w3, hw3⟩ : ∃ x, x = w2.alloc (.cells #[.int .i64 t.k, .int .i64 t.n, .string t.s, .slice A2 t.l.length k2] 58) := ⟨_, rfl⟩
  rw [← hw3]
  have B23 : Below w2.heap.size w2 w3 := by rw [hw3]; exact B.alloc (B.refl _) _
  have V3 : VB w3 w2.heap.size 58 #[.int .i64 t.k, .int .i64 t.n, .string t.s, .slice A2 t.l.length k2] := by rw [hw3]; exact VB.new w2 _ _
  have at3 := keepT at2 B23
  have B13 := B.call B12.out B23
  have BW3 := B.call BW1.out B13
  refine (HRF.out _ BW3).mono ?_
  rintro _ w4 ⟨v4, rfl, at4, b4⟩
  obtain ⟨A4, k4, rfl, _⟩ := Tr.at_agg at4
  have AT34 := keepT at3 b4
  have V4 := V3.call b4
  have B14 := B.call B13 b4
  have BW4 := B.call BW3 b4
  clear at2 at3 B23 B13 BW3 b4 b2 hw3 V3
  have x0 := V4.cell 0
  have x1 := V4.cell 1
  have x2 := V4.cell 2
  have x3 := V4.cell 3
  have lx := V4.lt
  simp at x0 x1 x2 x3
  replace B14 := Lib.hid B14
  replace BW4 := Lib.hid BW4
  replace V4 := Lib.hid V4
  replace AT34 := Lib.hid AT34
  replace at4 := Lib.hid at4
  go_wp2_with fail
  obtain ⟨w5, hw5⟩ : ∃ x, x = w4.alloc (.cells #[.int .i64 t.k, .int .i64 t.n, .string t.s, .slice A4 t.l.length k4] 58) := ⟨_, rfl⟩
  rw [← hw5]
  have B45 : Below w4.heap.size w4 w5 := by rw [hw5]; exact B.alloc (B.refl _) _
  have V5 := Lib.hid (V4.out.call B45)
  have AT5 := Lib.hid (keepT AT34.out B45)
  have at5 := keepT at4.out B45
  have B15 := Lib.hid (B.call B14.out B45)
  have BW5 := Lib.hid (B.call BW4.out B45)
  refine (HSV.out _ _ _ _ _ AT5.out at5).mono ?_
  rintro _ w6 ⟨rfl, b6⟩
  have V6 := Lib.hid (V5.out.call b6)
  have AT6 := Lib.hid (keepT AT5.out b6)
  have B16 := Lib.hid (B.call B15.out b6)
  have BW6 := Lib.hid (B.call BW5.out b6)
  clear V5 AT5 at5 B15 BW5 b6 hw5 x0 x1 x2 x3 lx V4 AT34 at4 B14 BW4
  go_wp2_with fail
  refine (sameCells _ _ ls ls _ (S1.out.below B16.out (Nat.le_refl _)) (HL.out.below BW6.out (Nat.le_refl _))).mono ?_
  rintro _ w7 ⟨rfl, b7⟩
  rw [show decide (ls = ls) = true by simp]
  have V7 := V6.out.call b7
  have AT7 := Lib.hid (keepT AT6.out b7)
  have B17 := Lib.hid (B.call B16.out b7)
  have BW7 := Lib.hid (B.call BW6.out b7)
  have x0 := V7.cell 0
  have x1 := V7.cell 1
  have x2 := V7.cell 2
  have x3 := V7.cell 3
  have lx := V7.lt
  simp at x0 x1 x2 x3
  clear V7 V6 AT6 B16 BW6 b7
  go_wp2_with fail
  refine (overValue t t (List.mem_singleton.2 rfl) w1.heap.size w7 w7 _ AT7.out (Over.refl _ _)).mono ?_
  rintro _ w8 ⟨rfl, _, g8⟩
  have B78 : Below w1.heap.size w7 w8 := g8.toBelow B17.out.size (fun k hk => hk.1)
  have B18 := Lib.hid (B17.out.trans B78)
  have BW8 := Lib.hid (BW7.out.trans (B78.mono BW1.out.size))
  clear g8 B78 B17 BW7 AT7 x0 x1 x2 x3 lx
  go_wp2_with fail
  refine (sameCells _ _ ls ls _ (S1.out.below B18.out (Nat.le_refl _)) (HL.out.below BW8.out (Nat.le_refl _))).mono ?_
  rintro _ w9 ⟨rfl, b9⟩
  rw [show decide (ls = ls) = true by simp]
  have BW9 := Lib.hid (B.call BW8.out b9)
  clear b9
  go_wp2_with fail
  refine (HAW.out _).mono ?_
  rintro _ wA ⟨rfl, bA⟩
  have BWA := Lib.hid (B.call BW9.out bA)
  clear bA
  go_wp2_with fail
  go_returns
  exact ⟨rfl, BWA.out⟩

end Go.Proofs.Ytgohnekaolgblaa
