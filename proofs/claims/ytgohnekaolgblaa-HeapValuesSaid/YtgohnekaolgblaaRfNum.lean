/- gimletref27.count, deep, right, Check: contracts (printed by wip/gen_rfnum.py). -/
import Derived.Test.YtgohnekaolgblaaTrSame
import Derived.Test.YtgohnekaolgblaaWdChk
namespace Go.Proofs.Ytgohnekaolgblaa
open Go.RowKit

theorem Tr.fines_le (l : List Tr) (i : Nat) : Tr.fines l = true → Tr.fines (l.take i) = true := by
  induction l generalizing i with
  | nil => simp
  | cons x l ih =>
    cases i with
    | zero => simp [Tr.fines]
    | succ i =>
      simp only [List.take_succ_cons, Tr.fines, Bool.and_eq_true]
      exact fun h => ⟨h.1, ih i h.2⟩

def CountHyp (l : List Tr) : Prop := ∀ t ∈ l, ∀ (S : Nat → Nat → Prop) (w : World) (v : Value), Tr.at S w t v → (∀ b off, S b off → b < w.heap.size) → t.count ≤ 16384 →
    Calls Try.prog 75 #[v] w fun e w' => e = .returned (.int .i64 (t.count : Int)) ∧ Below w.heap.size w w'

set_option maxHeartbeats 4000000 in
theorem rfCount (t : Tr) : CountHyp [t] := by
  induction t using Tr.ind
  rename_i k n0 s l ih
  intro t ht S w v hv hS hcnt
  obtain rfl := List.mem_singleton.1 ht
  rw [Tr.at_mk] at hv
  obtain ⟨A, cap, rfl, hl1, hl2, hl3⟩ := hv
  have hyp : CountHyp l := fun t ht => ih t ht t (List.mem_singleton.2 rfl)
  replace hyp := Lib.hid hyp
  replace hl3 := Lib.hid hl3
  replace hS := Lib.hid hS
  clear ih ht
  unfold maxLen at hl2
  have W0 := Lib.hid (VB.new w 58 #[.int .i64 k, .int .i64 n0, .string s, .slice A l.length cap])
  have hcn2 : Tr.counts l + 1 ≤ 16384 := by rw [← Tr.count.eq_1 k n0 s l]; exact hcnt
  obtain ⟨r, hr⟩ : ∃ r, r = (Tr.mk k n0 s l).count := ⟨_, rfl⟩
  rw [← hr]
  have HR := Lib.hid hr
  clear hr
  go_enter Try.func75, Try.ntmps75
  go_wp2_with fail
  go_loopw [3, 4] (fun nn q wr => ∃ (i : Nat) (n : Nat), q = .int .i64 (i : Int) ∧ nn = .int .i64 (n : Int) ∧ i ≤ l.length ∧ n ≤ 16384 ∧ n = Tr.counts (l.take i) + 1 ∧ VB wr w.heap.size 58 #[.int .i64 k, .int .i64 n0, .string s, .slice A l.length cap] ∧ Below w.heap.size w wr)
    (fun _ q _ => l.length - (intOf q).toNat)
  case atStart => exact ⟨0, 1, rfl, rfl, by omega, by omega, by simp [Tr.counts], W0.out, B.alloc (B.refl w) _⟩
  case round =>
    obtain ⟨i, n, rfl, rfl, hi, hn1, hres, v5, b5⟩ := hrel
    have w3 := v5.cell 3
    have wl := v5.lt
    simp at w3
    clear W0
    by_cases hil : i < l.length
    · have hstep := Tr.counts_take l i hil
      have hle := Tr.counts_le l (i + 1)
      have hne : l ≠ [] := by intro e; subst e; simp at hil
      obtain ⟨b, off, rfl, hsb, hats⟩ := hl3.out hne
      obtain ⟨A1, k1, d0, d1, d2, d3, q1, q2, t1⟩ := Tr.ats_cells hats i hil
      have hbw := hS.out _ _ hsb
      have kc : ∀ o, wr.cell? ⟨b, o, none⟩ = w.cell? ⟨b, o, none⟩ := fun o => b5.cell (p := ⟨b, o, none⟩) hbw
      rw [← kc] at d0 d1 d2 d3
      have hcall := hyp.out l[i] (List.getElem_mem hil) S wr _ (Tr.at_below t1 b5 hS.out) (fun b off h => Nat.lt_of_lt_of_le (hS.out b off h) b5.size) (by omega)
      obtain ⟨vv, hvv⟩ : ∃ x, x = l[i].count := ⟨_, rfl⟩
      rw [← hvv] at hcall hstep
      replace hcall := Lib.hid hcall
      have hn2 : n + vv ≤ 16384 := by omega
      replace hres := Lib.hid hres
      replace hstep := Lib.hid hstep
      have V5 := Lib.hid v5
      have B5 := Lib.hid b5
      clear v5 b5 kc t1 hats hsb hvv hne hle
      go_wp2_with fail
      refine hcall.out.mono ?_
      rintro _ w6 ⟨rfl, b6⟩
      go_wp2_with fail
      go_roundw
      case measure => simp only [intOf]; omega
      case rel => exact ⟨i + 1, n + vv, rfl, rfl, by omega, by omega, by have := hres.out; have := hstep.out; omega, V5.out.call b6, B.call B5.out b6⟩
    · have hrn : r = n := by rw [HR.out, hres, List.take_of_length_le (by omega), Tr.count]
      replace hrn := Lib.hid hrn
      have B5 := Lib.hid b5
      clear hres hcnt v5 b5
      go_wp2_with fail
      go_returns
      exact ⟨by rw [hrn.out]; rfl, B5.out⟩

def DeepHyp (l : List Tr) : Prop := ∀ t ∈ l, ∀ (S : Nat → Nat → Prop) (w : World) (v : Value), Tr.at S w t v → (∀ b off, S b off → b < w.heap.size) → t.deep ≤ 4611686018427387904 →
    Calls Try.prog 76 #[v] w fun e w' => e = .returned (.int .i64 (t.deep : Int)) ∧ Below w.heap.size w w'

set_option maxHeartbeats 4000000 in
theorem rfDeep (t : Tr) : DeepHyp [t] := by
  induction t using Tr.ind
  rename_i k n0 s l ih
  intro t ht S w v hv hS hdp
  obtain rfl := List.mem_singleton.1 ht
  rw [Tr.at_mk] at hv
  obtain ⟨A, cap, rfl, hl1, hl2, hl3⟩ := hv
  have hyp : DeepHyp l := fun t ht => ih t ht t (List.mem_singleton.2 rfl)
  replace hyp := Lib.hid hyp
  replace hl3 := Lib.hid hl3
  replace hS := Lib.hid hS
  clear ih ht
  unfold maxLen at hl2
  have W0 := Lib.hid (VB.new w 58 #[.int .i64 k, .int .i64 n0, .string s, .slice A l.length cap])
  have hdp2 : Tr.deeps l + 1 ≤ 4611686018427387904 := by rw [← Tr.deep.eq_1 k n0 s l]; exact hdp
  obtain ⟨r, hr⟩ : ∃ r, r = (Tr.mk k n0 s l).deep := ⟨_, rfl⟩
  rw [← hr]
  have HR := Lib.hid hr
  clear hr
  go_enter Try.func76, Try.ntmps76
  go_wp2_with fail
  go_loopw [3, 4] (fun nn q wr => ∃ (i : Nat) (n : Nat), q = .int .i64 (i : Int) ∧ nn = .int .i64 (n : Int) ∧ i ≤ l.length ∧ n = Tr.deeps (l.take i) ∧ VB wr w.heap.size 58 #[.int .i64 k, .int .i64 n0, .string s, .slice A l.length cap] ∧ Below w.heap.size w wr)
    (fun _ q _ => l.length - (intOf q).toNat)
  case atStart => exact ⟨0, 0, rfl, rfl, by omega, by simp [Tr.deeps], W0.out, B.alloc (B.refl w) _⟩
  case round =>
    obtain ⟨i, n, rfl, rfl, hi, hres, v5, b5⟩ := hrel
    have w3 := v5.cell 3
    have wl := v5.lt
    simp at w3
    clear W0
    have hle := Tr.deeps_le l i
    by_cases hil : i < l.length
    · have hstep := Tr.deeps_take l i hil
      have hle := Tr.deeps_le l (i + 1)
      have hne : l ≠ [] := by intro e; subst e; simp at hil
      obtain ⟨b, off, rfl, hsb, hats⟩ := hl3.out hne
      obtain ⟨A1, k1, d0, d1, d2, d3, q1, q2, t1⟩ := Tr.ats_cells hats i hil
      have hbw := hS.out _ _ hsb
      have kc : ∀ o, wr.cell? ⟨b, o, none⟩ = w.cell? ⟨b, o, none⟩ := fun o => b5.cell (p := ⟨b, o, none⟩) hbw
      rw [← kc] at d0 d1 d2 d3
      have hcall := hyp.out l[i] (List.getElem_mem hil) S wr _ (Tr.at_below t1 b5 hS.out) (fun b off h => Nat.lt_of_lt_of_le (hS.out b off h) b5.size) (by omega)
      obtain ⟨vv, hvv⟩ : ∃ x, x = l[i].deep := ⟨_, rfl⟩
      rw [← hvv] at hcall hstep
      replace hcall := Lib.hid hcall
      have hn2 : n ≤ 4611686018427387904 ∧ vv ≤ 4611686018427387904 := by omega
      replace hres := Lib.hid hres
      replace hstep := Lib.hid hstep
      have V5 := Lib.hid v5
      have B5 := Lib.hid b5
      clear v5 b5 kc t1 hats hsb hvv hne hle
      go_wp2_with fail
      refine hcall.out.mono ?_
      rintro _ w6 ⟨rfl, b6⟩
      go_wp2_with fail
      all_goals go_roundw
      all_goals first
        | (simp only [intOf]; omega)
        | exact ⟨i + 1, max n vv, rfl, by congr 1; omega, by omega, by have := hres.out; have := hstep.out; omega, V5.out.call b6, B.call B5.out b6⟩
    · have hrn : r = n + 1 := by rw [HR.out, hres, List.take_of_length_le (by omega), Tr.deep]
      have hn2 : n ≤ 4611686018427387904 := by omega
      replace hrn := Lib.hid hrn
      have B5 := Lib.hid b5
      clear hres hdp v5 b5 hle
      go_wp2_with fail
      go_returns
      exact ⟨by rw [hrn.out]; rfl, B5.out⟩

def RightHyp (l : List Tr) : Prop := ∀ t ∈ l, ∀ (S : Nat → Nat → Prop) (w : World) (v : Value), Tr.at S w t v → (∀ b off, S b off → b < w.heap.size) → 
    Calls Try.prog 77 #[v] w fun e w' => e = .returned (.bool t.fine) ∧ Below w.heap.size w w'

set_option maxHeartbeats 4000000 in
theorem rfRight (t : Tr) : RightHyp [t] := by
  induction t using Tr.ind
  rename_i k n0 s l ih
  intro t ht S w v hv hS
  obtain rfl := List.mem_singleton.1 ht
  rw [Tr.at_mk] at hv
  obtain ⟨A, cap, rfl, hl1, hl2, hl3⟩ := hv
  have hyp : RightHyp l := fun t ht => ih t ht t (List.mem_singleton.2 rfl)
  replace hyp := Lib.hid hyp
  replace hl3 := Lib.hid hl3
  replace hS := Lib.hid hS
  clear ih ht
  unfold maxLen at hl2
  have W0 := Lib.hid (VB.new w 58 #[.int .i64 k, .int .i64 n0, .string s, .slice A l.length cap])
  by_cases h1 : k = 1
  · subst h1
    have hf : (Tr.mk 1 n0 s l).fine = decide (-1073741824 ≤ n0 ∧ n0 ≤ 1073741823 ∧ s.toList = [] ∧ l.length = 0) := by rw [Tr.fine]; unfold Wd.may; cases l with
      | nil => simp [Tr.fines]
      | cons x l => simp
    rw [hf]
    clear hf hyp hl3 hS
    go_enter Try.func77, Try.ntmps77
    go_wp2
    all_goals go_returns
    all_goals refine ⟨?_, by go_grown⟩
    all_goals congr 2
    all_goals simp_all
    all_goals first | omega | (by_cases hc : l.length = 0 <;> simp [hc] <;> omega)
  by_cases h2 : k = 2
  · subst h2
    have hf : (Tr.mk 2 n0 s l).fine = decide (n0 = 0 ∧ s.size ≤ 4096 ∧ l.length = 0) := by rw [Tr.fine]; unfold Wd.may; cases l with
      | nil => simp [Tr.fines]
      | cons x l => simp
    rw [hf]
    clear hf hyp hl3 hS
    go_enter Try.func77, Try.ntmps77
    go_wp2
    all_goals go_returns
    all_goals refine ⟨?_, by go_grown⟩
    all_goals congr 2
    all_goals simp_all
    all_goals first | omega | (by_cases hc : l.length = 0 <;> simp [hc] <;> omega)
  by_cases h3 : k = 3
  · subst h3
    by_cases hmay : Wd.may 3 n0 s l.length = true
    · have hf : (Tr.mk 3 n0 s l).fine = Tr.fines l := by rw [Tr.fine, hmay, Bool.true_and]
      rw [hf]
      obtain ⟨r, hr⟩ : ∃ r, r = Tr.fines l := ⟨_, rfl⟩
      rw [← hr]
      have HR := Lib.hid hr
      clear hr
      have hm : 0 ≤ n0 ∧ n0 ≤ 65535 ∧ s.toList = [] ∧ l.length ≤ 1024 := by simpa [Wd.may] using hmay
      obtain ⟨m1, m2, m3, m4⟩ := hm
      clear hmay hf
      go_enter Try.func77, Try.ntmps77
      go_wp2_with fail
      go_loopw [3] (fun q wr => ∃ (i : Nat), q = .int .i64 (i : Int) ∧ i ≤ l.length ∧ Tr.fines (l.take i) = true ∧ VB wr w.heap.size 58 #[.int .i64 3, .int .i64 n0, .string s, .slice A l.length cap] ∧ Below w.heap.size w wr)
        (fun q _ => l.length - (intOf q).toNat)
      case atStart => exact ⟨0, rfl, by omega, by simp [Tr.fines], W0.out, B.alloc (B.refl w) _⟩
      case round =>
        obtain ⟨i, rfl, hi, hres, v5, b5⟩ := hrel
        have w3 := v5.cell 3
        have wl := v5.lt
        simp at w3
        clear W0
        by_cases hil : i < l.length
        · have hstep := Tr.fines_take l i hil
          rw [hres, Bool.true_and] at hstep
          have hle := Tr.fines_le l (i + 1)
          have hne : l ≠ [] := by intro e; subst e; simp at hil
          obtain ⟨b, off, rfl, hsb, hats⟩ := hl3.out hne
          obtain ⟨A1, k1, d0, d1, d2, d3, q1, q2, t1⟩ := Tr.ats_cells hats i hil
          have hbw := hS.out _ _ hsb
          have kc : ∀ o, wr.cell? ⟨b, o, none⟩ = w.cell? ⟨b, o, none⟩ := fun o => b5.cell (p := ⟨b, o, none⟩) hbw
          rw [← kc] at d0 d1 d2 d3
          have hcall := hyp.out l[i] (List.getElem_mem hil) S wr _ (Tr.at_below t1 b5 hS.out) (fun b off h => Nat.lt_of_lt_of_le (hS.out b off h) b5.size)

          replace hstep := Lib.hid hstep
          replace hle := Lib.hid hle
          have V5 := Lib.hid v5
          have B5 := Lib.hid b5
          clear v5 b5 kc t1 hats hsb hne
          cases hq : l[i].fine
          · rw [hq] at hcall
            have hfl : r = false := by
              rw [HR.out]
              cases hz : Tr.fines l
              · rfl
              · have := hle.out hz; rw [hstep.out, hq] at this; cases this
            subst hfl
            clear hq
            replace hcall := Lib.hid hcall
            go_wp2_with fail
            refine hcall.out.mono ?_
            rintro _ w6 ⟨rfl, b6⟩
            go_wp2_with fail
            go_returns
            exact ⟨rfl, B.call B5.out b6⟩
          · rw [hq] at hcall
            replace hq := Lib.hid hq
            replace hcall := Lib.hid hcall
            go_wp2_with fail
            refine hcall.out.mono ?_
            rintro _ w6 ⟨rfl, b6⟩
            go_wp2_with fail
            go_roundw
            case measure => simp only [intOf]; omega
            case rel => exact ⟨i + 1, rfl, by omega, by rw [hstep.out, hq.out], V5.out.call b6, B.call B5.out b6⟩
        · rw [List.take_of_length_le (by omega)] at hres
          have hfl : r = true := by rw [HR.out, hres]
          subst hfl
          have B5 := Lib.hid b5
          clear hres v5 b5
          go_wp2_with fail
          go_returns
          exact ⟨rfl, B5.out⟩
    · have hf : (Tr.mk 3 n0 s l).fine = false := by
        rw [Tr.fine]
        simp [hmay]
      rw [hf]
      have hm : ¬ (0 ≤ n0 ∧ n0 ≤ 65535 ∧ s.toList = [] ∧ l.length ≤ 1024) := by simpa [Wd.may] using hmay
      clear hmay hf hyp hl3 hS
      by_cases m3 : s.toList = []
      · by_cases m1 : n0 < 0
        · go_enter Try.func77, Try.ntmps77
          go_wp2_with fail
          go_returns
          exact ⟨rfl, B.alloc (B.refl w) _⟩
        · by_cases m2 : 65535 < n0
          · clear hm
            go_enter Try.func77, Try.ntmps77
            go_wp2_with fail
            go_returns
            exact ⟨rfl, B.alloc (B.refl w) _⟩
          · have m4 : 1024 < l.length := by simp only [m3, true_and] at hm; omega
            clear hm
            go_enter Try.func77, Try.ntmps77
            go_wp2_with fail
            go_returns
            exact ⟨rfl, B.alloc (B.refl w) _⟩
      · clear hm
        go_enter Try.func77, Try.ntmps77
        go_wp2_with fail
        go_returns
        exact ⟨rfl, B.alloc (B.refl w) _⟩
  by_cases h4 : k = 4
  · subst h4
    by_cases hmay : Wd.may 4 n0 s l.length = true
    · have hf : (Tr.mk 4 n0 s l).fine = Tr.fines l := by rw [Tr.fine, hmay, Bool.true_and]
      rw [hf]
      obtain ⟨r, hr⟩ : ∃ r, r = Tr.fines l := ⟨_, rfl⟩
      rw [← hr]
      have HR := Lib.hid hr
      clear hr
      have hm : 0 ≤ n0 ∧ n0 ≤ 65535 ∧ s.toList = [] ∧ l.length ≤ 1024 := by simpa [Wd.may] using hmay
      obtain ⟨m1, m2, m3, m4⟩ := hm
      clear hmay hf
      go_enter Try.func77, Try.ntmps77
      go_wp2_with fail
      go_loopw [3] (fun q wr => ∃ (i : Nat), q = .int .i64 (i : Int) ∧ i ≤ l.length ∧ Tr.fines (l.take i) = true ∧ VB wr w.heap.size 58 #[.int .i64 4, .int .i64 n0, .string s, .slice A l.length cap] ∧ Below w.heap.size w wr)
        (fun q _ => l.length - (intOf q).toNat)
      case atStart => exact ⟨0, rfl, by omega, by simp [Tr.fines], W0.out, B.alloc (B.refl w) _⟩
      case round =>
        obtain ⟨i, rfl, hi, hres, v5, b5⟩ := hrel
        have w3 := v5.cell 3
        have wl := v5.lt
        simp at w3
        clear W0
        by_cases hil : i < l.length
        · have hstep := Tr.fines_take l i hil
          rw [hres, Bool.true_and] at hstep
          have hle := Tr.fines_le l (i + 1)
          have hne : l ≠ [] := by intro e; subst e; simp at hil
          obtain ⟨b, off, rfl, hsb, hats⟩ := hl3.out hne
          obtain ⟨A1, k1, d0, d1, d2, d3, q1, q2, t1⟩ := Tr.ats_cells hats i hil
          have hbw := hS.out _ _ hsb
          have kc : ∀ o, wr.cell? ⟨b, o, none⟩ = w.cell? ⟨b, o, none⟩ := fun o => b5.cell (p := ⟨b, o, none⟩) hbw
          rw [← kc] at d0 d1 d2 d3
          have hcall := hyp.out l[i] (List.getElem_mem hil) S wr _ (Tr.at_below t1 b5 hS.out) (fun b off h => Nat.lt_of_lt_of_le (hS.out b off h) b5.size)

          replace hstep := Lib.hid hstep
          replace hle := Lib.hid hle
          have V5 := Lib.hid v5
          have B5 := Lib.hid b5
          clear v5 b5 kc t1 hats hsb hne
          cases hq : l[i].fine
          · rw [hq] at hcall
            have hfl : r = false := by
              rw [HR.out]
              cases hz : Tr.fines l
              · rfl
              · have := hle.out hz; rw [hstep.out, hq] at this; cases this
            subst hfl
            clear hq
            replace hcall := Lib.hid hcall
            go_wp2_with fail
            refine hcall.out.mono ?_
            rintro _ w6 ⟨rfl, b6⟩
            go_wp2_with fail
            go_returns
            exact ⟨rfl, B.call B5.out b6⟩
          · rw [hq] at hcall
            replace hq := Lib.hid hq
            replace hcall := Lib.hid hcall
            go_wp2_with fail
            refine hcall.out.mono ?_
            rintro _ w6 ⟨rfl, b6⟩
            go_wp2_with fail
            go_roundw
            case measure => simp only [intOf]; omega
            case rel => exact ⟨i + 1, rfl, by omega, by rw [hstep.out, hq.out], V5.out.call b6, B.call B5.out b6⟩
        · rw [List.take_of_length_le (by omega)] at hres
          have hfl : r = true := by rw [HR.out, hres]
          subst hfl
          have B5 := Lib.hid b5
          clear hres v5 b5
          go_wp2_with fail
          go_returns
          exact ⟨rfl, B5.out⟩
    · have hf : (Tr.mk 4 n0 s l).fine = false := by
        rw [Tr.fine]
        simp [hmay]
      rw [hf]
      have hm : ¬ (0 ≤ n0 ∧ n0 ≤ 65535 ∧ s.toList = [] ∧ l.length ≤ 1024) := by simpa [Wd.may] using hmay
      clear hmay hf hyp hl3 hS
      by_cases m3 : s.toList = []
      · by_cases m1 : n0 < 0
        · go_enter Try.func77, Try.ntmps77
          go_wp2_with fail
          go_returns
          exact ⟨rfl, B.alloc (B.refl w) _⟩
        · by_cases m2 : 65535 < n0
          · clear hm
            go_enter Try.func77, Try.ntmps77
            go_wp2_with fail
            go_returns
            exact ⟨rfl, B.alloc (B.refl w) _⟩
          · have m4 : 1024 < l.length := by simp only [m3, true_and] at hm; omega
            clear hm
            go_enter Try.func77, Try.ntmps77
            go_wp2_with fail
            go_returns
            exact ⟨rfl, B.alloc (B.refl w) _⟩
      · clear hm
        go_enter Try.func77, Try.ntmps77
        go_wp2_with fail
        go_returns
        exact ⟨rfl, B.alloc (B.refl w) _⟩
  have hf : (Tr.mk k n0 s l).fine = false := by rw [Tr.fine]; unfold Wd.may; simp [h1, h2, h3, h4]
  rw [hf]
  have e1 : (k == 1) = false := by simpa using h1
  have e2 : (k == 2) = false := by simpa using h2
  have e3 : (k == 3) = false := by simpa using h3
  have e4 : (k == 4) = false := by simpa using h4
  clear hf hyp hl3 hS
  go_enter Try.func77, Try.ntmps77
  go_wp2
  all_goals go_returns
  all_goals exact ⟨rfl, by go_grown⟩

set_option maxHeartbeats 1000000 in
set_option maxRecDepth 100000 in
/-- gimletref27.Check. -/
theorem rfChk (t : Tr) (v : Value) (w : World) (ht : Tr.at (fun b _ => b < w.heap.size) w t v) (hcn : t.count ≤ 16384) (hdp : t.deep ≤ 16384) :
    Calls Try.prog 35 #[v] w fun e w' => e = .returned (.int .i64 (Wd.chk t)) ∧ Below w.heap.size w w' := by
  have hC := Lib.hid fun w' (h : Below w.heap.size w w') => rfCount t t (List.mem_singleton.2 rfl) _ w' v (Tr.at_below ht h (fun _ _ h => h)) (fun b _ hb => Nat.lt_of_lt_of_le hb h.size) hcn
  have hD := Lib.hid fun w' (h : Below w.heap.size w w') => rfDeep t t (List.mem_singleton.2 rfl) _ w' v (Tr.at_below ht h (fun _ _ h => h)) (fun b _ hb => Nat.lt_of_lt_of_le hb h.size) (by omega)
  have hR := Lib.hid fun w' (h : Below w.heap.size w w') => rfRight t t (List.mem_singleton.2 rfl) _ w' v (Tr.at_below ht h (fun _ _ h => h)) (fun b _ hb => Nat.lt_of_lt_of_le hb h.size)
  obtain ⟨A, cap, rfl, -⟩ := Tr.at_agg ht
  clear ht
  obtain ⟨cn, hcn'⟩ : ∃ c : Nat, c = t.count := ⟨_, rfl⟩
  obtain ⟨dp, hdp'⟩ : ∃ c : Nat, c = t.deep := ⟨_, rfl⟩
  obtain ⟨fi, hfi'⟩ : ∃ c : Bool, c = t.fine := ⟨_, rfl⟩
  obtain ⟨r, hr⟩ : ∃ r, r = Wd.chk t := ⟨_, rfl⟩
  unfold Wd.chk at hr
  rw [← hcn'] at hC hcn hr
  rw [← hdp'] at hD hdp hr
  rw [← hfi'] at hR hr
  rw [show Wd.chk t = r by rw [hr]; unfold Wd.chk; rw [hcn', hdp', hfi']]
  clear hcn' hdp' hfi'
  have V0 := Lib.hid fun w' (hb : Below w.heap.size w w') => hb
  have H0 : ∀ w', Below (w.alloc (.cells #[.int .i64 t.k, .int .i64 t.n, .string t.s, .slice A t.l.length cap] 58)).heap.size (w.alloc (.cells #[.int .i64 t.k, .int .i64 t.n, .string t.s, .slice A t.l.length cap] 58)) w' → (w'.cell? ⟨w.heap.size, 0, none⟩ = some (.int .i64 t.k) ∧ w'.cell? ⟨w.heap.size, 1, none⟩ = some (.int .i64 t.n) ∧ w'.cell? ⟨w.heap.size, 2, none⟩ = some (.string t.s) ∧ w'.cell? ⟨w.heap.size, 3, none⟩ = some (.slice A t.l.length cap)) ∧ w.heap.size < w'.heap.size := by
    intro w' hb
    have v0 := (VB.new w 58 #[.int .i64 t.k, .int .i64 t.n, .string t.s, .slice A t.l.length cap]).call hb
    exact ⟨⟨v0.cell 0, v0.cell 1, v0.cell 2, v0.cell 3⟩, v0.lt⟩
  have HBW : ∀ w', Below (w.alloc (.cells #[.int .i64 t.k, .int .i64 t.n, .string t.s, .slice A t.l.length cap] 58)).heap.size (w.alloc (.cells #[.int .i64 t.k, .int .i64 t.n, .string t.s, .slice A t.l.length cap] 58)) w' → Below w.heap.size w w' := fun w' hb => B.call (B.alloc (B.refl w) _) hb
  replace H0 := Lib.hid H0
  replace HBW := Lib.hid HBW
  clear V0
  by_cases h1 : 16384 < cn
  · omega
  replace hr := Lib.hid hr
  by_cases h2 : 200 < dp
  · obtain rfl : r = 141 := by rw [hr.out, if_pos (.inr h2)]
    go_enter Try.func35, Try.ntmps35
    go_wp2_with fail
    refine (hC.out _ (HBW.out _ (B.refl _))).mono ?_
    rintro _ w1 ⟨rfl, b1⟩
    obtain ⟨⟨x0, x1, x2, x3⟩, lx⟩ := H0.out _ b1
    have B1 := Lib.hid b1
    clear b1
    go_wp2_with fail
    refine (hD.out _ (HBW.out _ B1.out)).mono ?_
    rintro _ w2 ⟨rfl, b2⟩
    have B2 := Lib.hid (B.call B1.out b2)
    clear b2
    go_wp2_with fail
    go_returns
    exact ⟨rfl, HBW.out _ B2.out⟩
  · have hr' : r = if fi = false then 2 else 0 := by rw [hr.out, if_neg (by omega)]
    clear hr
    go_enter Try.func35, Try.ntmps35
    go_wp2_with fail
    refine (hC.out _ (HBW.out _ (B.refl _))).mono ?_
    rintro _ w1 ⟨rfl, b1⟩
    obtain ⟨⟨x0, x1, x2, x3⟩, lx⟩ := H0.out _ b1
    have B1 := Lib.hid b1
    clear b1
    go_wp2_with fail
    refine (hD.out _ (HBW.out _ B1.out)).mono ?_
    rintro _ w2 ⟨rfl, b2⟩
    have B2 := Lib.hid (B.call B1.out b2)
    clear b2 x0 x1 x2 x3 lx
    obtain ⟨⟨x0, x1, x2, x3⟩, lx⟩ := H0.out _ B2.out
    go_wp2_with fail
    refine (hR.out _ (HBW.out _ B2.out)).mono ?_
    rintro _ w3 ⟨rfl, b3⟩
    have B3 := Lib.hid (B.call B2.out b3)
    clear b3 x0 x1 x2 x3 lx
    have hr2 := Lib.hid hr'
    clear hr'
    go_wp2_with fail
    all_goals go_returns
    all_goals refine ⟨?_, HBW.out _ B3.out⟩
    all_goals congr 2
    all_goals rw [hr2.out]
    all_goals simp_all

end Go.Proofs.Ytgohnekaolgblaa
