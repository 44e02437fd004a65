/- gimletkit.Values: contract. -/
import Derived.Test.YtgohnekaolgblaaTrCopy
namespace Go.Proofs.Ytgohnekaolgblaa
open Go.RowKit

mutual
def Tr.vals : Tr → Int → Int
  | .mk _ _ s l, most => Tr.valsL l most (1 + min (s.size : Int) most)
def Tr.valsL : List Tr → Int → Int → Int
  | [], _, n => n
  | t :: l, most, n => if n ≤ most then Tr.valsL l most (n + t.vals (most - n)) else n
end

theorem Tr.vals_le (t : Tr) : ∀ m : Int, 0 ≤ m → 1 ≤ t.vals m ∧ t.vals m ≤ m + 1 ∧ (t.vals m ≤ m → (t.count : Int) ≤ t.vals m) := by
  induction t using Tr.ind
  rename_i k n0 s l ih
  intro m hm
  have hl : ∀ (l' : List Tr), (∀ t ∈ l', t ∈ l) → ∀ n : Int, 1 ≤ n → n ≤ m + 1 → n ≤ Tr.valsL l' m n ∧ Tr.valsL l' m n ≤ m + 1 ∧ (Tr.valsL l' m n ≤ m → n + Tr.counts l' ≤ Tr.valsL l' m n) := by
    intro l'
    induction l' with
    | nil => intro _ n h1 h2; simp only [Tr.valsL, Tr.counts]; omega
    | cons t l' ih' =>
      intro hs n h1 h2
      simp only [Tr.valsL, Tr.counts]
      by_cases hn : n ≤ m
      · rw [if_pos hn]
        have ht := ih t (hs t (by simp)) (m - n) (by omega)
        have h := ih' (fun t ht => hs t (by simp [ht])) (n + t.vals (m - n)) (by omega) (by omega)
        refine ⟨by omega, h.2.1, fun hh => ?_⟩
        have h3 := h.2.2 hh
        have h4 := ht.2.2 (by omega)
        omega
      · rw [if_neg hn]
        omega
  have h := hl l (fun _ h => h) (1 + min (s.size : Int) m) (by omega) (by omega)
  simp only [Tr.vals, Tr.count]
  refine ⟨by omega, h.2.1, fun hh => ?_⟩
  have := h.2.2 hh
  omega

def ValsHyp (l : List Tr) : Prop := ∀ t ∈ l, ∀ (S : Nat → Nat → Prop) (w : World) (v : Value) (m : Int), Tr.at S w t v → (∀ b off, S b off → b < w.heap.size) → 0 ≤ m → m ≤ 1099511627776 →
    Calls Try.prog 30 #[v, .int .i64 m] w fun e w' => e = .returned (.int .i64 (t.vals m)) ∧ Below w.heap.size w w'

set_option maxHeartbeats 4000000 in
theorem values (t : Tr) : ValsHyp [t] := by
  induction t using Tr.ind
  rename_i k n0 s l ih
  intro t ht S w v m hv hS hm0 hm1
  obtain rfl := List.mem_singleton.1 ht
  rw [Tr.at_mk] at hv
  obtain ⟨A, cap, rfl, hl1, hl2, hl3⟩ := hv
  have hyp : ValsHyp l := fun t ht => ih t ht t (List.mem_singleton.2 rfl)
  have hr : (Tr.mk k n0 s l).vals m = Tr.valsL l m (1 + min (s.size : Int) m) := by rw [Tr.vals]
  obtain ⟨r, hrr⟩ : ∃ r, r = (Tr.mk k n0 s l).vals m := ⟨_, rfl⟩
  rw [← hrr]
  rw [← hrr] at hr
  replace hr := Lib.hid hr
  replace hyp := Lib.hid hyp
  replace hl3 := Lib.hid hl3
  replace hS := Lib.hid hS
  clear ih ht hrr
  unfold maxLen at hl2
  -- WAYS
  have W0 := Lib.hid (VB.new w 58 #[.int .i64 k, .int .i64 n0, .string s, .slice A l.length cap])
  by_cases hmn : (s.size : Int) < m
  · go_enter Try.func30, Try.ntmps30
    go_wp2_with fail
    go_loopw [5, 6] (fun nn q wr => ∃ (i : Nat) (n : Int), q = .int .i64 (i : Int) ∧ nn = .int .i64 n ∧ i ≤ l.length ∧ 1 ≤ n ∧ n ≤ m + 1 ∧ r = Tr.valsL (l.drop i) m n ∧ VB wr w.heap.size 58 #[.int .i64 k, .int .i64 n0, .string s, .slice A l.length cap] ∧ Below w.heap.size w wr)
      (fun _ q _ => l.length - (intOf q).toNat)
    case atStart => exact ⟨0, _, rfl, rfl, by omega, by omega, by omega, by rw [hr.out, List.drop_zero, Int.min_eq_left (by omega)], W0.out, B.alloc (B.refl w) _⟩
    case round =>
      obtain ⟨i, n, rfl, rfl, hi, hn1, hn2, hres, v5, b5⟩ := hrel
      have w3 := v5.cell 3
      have wl := v5.lt
      simp at w3
      clear W0
      by_cases hil : i < l.length
      · by_cases hnm : n ≤ m
        · have hne : l ≠ [] := by intro e; subst e; simp at hil
          obtain ⟨b, off, rfl, hsb, hats⟩ := hl3.out hne
          obtain ⟨A1, k1, d0, d1, d2, d3, q1, q2, t1⟩ := Tr.ats_cells hats i hil
          have hbw := hS.out _ _ hsb
          have kc : ∀ o, wr.cell? ⟨b, o, none⟩ = w.cell? ⟨b, o, none⟩ := fun o => b5.cell (p := ⟨b, o, none⟩) hbw
          rw [← kc] at d0 d1 d2 d3
          have hstep : Tr.valsL (l.drop i) m n = Tr.valsL (l.drop (i + 1)) m (n + l[i].vals (m - n)) := by rw [List.drop_eq_getElem_cons hil, Tr.valsL, if_pos hnm]
          have hcall := hyp.out l[i] (List.getElem_mem hil) S wr _ (m - n) (Tr.at_below t1 b5 hS.out) (fun b off h => Nat.lt_of_lt_of_le (hS.out b off h) b5.size) (by omega) (by omega)
          have hvl := Tr.vals_le l[i] (m - n) (by omega)
          obtain ⟨vv, hvv⟩ : ∃ x, x = l[i].vals (m - n) := ⟨_, rfl⟩
          rw [← hvv] at hcall hvl hstep
          replace hvl : 1 ≤ vv ∧ vv ≤ m - n + 1 := ⟨hvl.1, hvl.2.1⟩
          obtain ⟨hv1, hv2⟩ := hvl
          replace hcall := Lib.hid hcall
          replace hstep := Lib.hid hstep
          replace hres := Lib.hid hres
          have V5 := Lib.hid v5
          have B5 := Lib.hid b5
          clear v5 b5 kc t1 hats hsb hvv hne
          go_wp2_with fail
          refine hcall.out.mono ?_
          rintro _ w6 ⟨rfl, b6⟩
          go_wp2_with fail
          go_roundw
          case measure => simp only [intOf]; omega
          case rel => exact ⟨i + 1, n + vv, rfl, rfl, by omega, by omega, by omega, by rw [hres.out, hstep.out], V5.out.call b6, B.call B5.out b6⟩
        · have hend : Tr.valsL (l.drop i) m n = n := by rw [List.drop_eq_getElem_cons hil, Tr.valsL, if_neg hnm]
          have hrn : r = n := by rw [hres, hend]
          replace hrn := Lib.hid hrn
          have B5 := Lib.hid b5
          clear hres hend v5 b5
          go_wp2_with fail
          go_returns
          exact ⟨by rw [hrn.out]; rfl, B5.out⟩
      · have hrn : r = n := by rw [hres, List.drop_eq_nil_of_le (by omega), Tr.valsL]
        replace hrn := Lib.hid hrn
        have B5 := Lib.hid b5
        clear hres v5 b5
        go_wp2_with fail
        go_returns
        exact ⟨by rw [hrn.out]; rfl, B5.out⟩
  by_cases hmn2 : m < (s.size : Int)
  · go_enter Try.func30, Try.ntmps30
    go_wp2_with fail
    go_loopw [5, 6] (fun nn q wr => ∃ (i : Nat) (n : Int), q = .int .i64 (i : Int) ∧ nn = .int .i64 n ∧ i ≤ l.length ∧ 1 ≤ n ∧ n ≤ m + 1 ∧ r = Tr.valsL (l.drop i) m n ∧ VB wr w.heap.size 58 #[.int .i64 k, .int .i64 n0, .string s, .slice A l.length cap] ∧ Below w.heap.size w wr)
      (fun _ q _ => l.length - (intOf q).toNat)
    case atStart => exact ⟨0, _, rfl, rfl, by omega, by omega, by omega, by rw [hr.out, List.drop_zero, Int.min_eq_right (by omega)], W0.out, B.alloc (B.refl w) _⟩
    case round =>
      obtain ⟨i, n, rfl, rfl, hi, hn1, hn2, hres, v5, b5⟩ := hrel
      have w3 := v5.cell 3
      have wl := v5.lt
      simp at w3
      clear W0
      by_cases hil : i < l.length
      · by_cases hnm : n ≤ m
        · have hne : l ≠ [] := by intro e; subst e; simp at hil
          obtain ⟨b, off, rfl, hsb, hats⟩ := hl3.out hne
          obtain ⟨A1, k1, d0, d1, d2, d3, q1, q2, t1⟩ := Tr.ats_cells hats i hil
          have hbw := hS.out _ _ hsb
          have kc : ∀ o, wr.cell? ⟨b, o, none⟩ = w.cell? ⟨b, o, none⟩ := fun o => b5.cell (p := ⟨b, o, none⟩) hbw
          rw [← kc] at d0 d1 d2 d3
          have hstep : Tr.valsL (l.drop i) m n = Tr.valsL (l.drop (i + 1)) m (n + l[i].vals (m - n)) := by rw [List.drop_eq_getElem_cons hil, Tr.valsL, if_pos hnm]
          have hcall := hyp.out l[i] (List.getElem_mem hil) S wr _ (m - n) (Tr.at_below t1 b5 hS.out) (fun b off h => Nat.lt_of_lt_of_le (hS.out b off h) b5.size) (by omega) (by omega)
          have hvl := Tr.vals_le l[i] (m - n) (by omega)
          obtain ⟨vv, hvv⟩ : ∃ x, x = l[i].vals (m - n) := ⟨_, rfl⟩
          rw [← hvv] at hcall hvl hstep
          replace hvl : 1 ≤ vv ∧ vv ≤ m - n + 1 := ⟨hvl.1, hvl.2.1⟩
          obtain ⟨hv1, hv2⟩ := hvl
          replace hcall := Lib.hid hcall
          replace hstep := Lib.hid hstep
          replace hres := Lib.hid hres
          have V5 := Lib.hid v5
          have B5 := Lib.hid b5
          clear v5 b5 kc t1 hats hsb hvv hne
          go_wp2_with fail
          refine hcall.out.mono ?_
          rintro _ w6 ⟨rfl, b6⟩
          go_wp2_with fail
          go_roundw
          case measure => simp only [intOf]; omega
          case rel => exact ⟨i + 1, n + vv, rfl, rfl, by omega, by omega, by omega, by rw [hres.out, hstep.out], V5.out.call b6, B.call B5.out b6⟩
        · have hend : Tr.valsL (l.drop i) m n = n := by rw [List.drop_eq_getElem_cons hil, Tr.valsL, if_neg hnm]
          have hrn : r = n := by rw [hres, hend]
          replace hrn := Lib.hid hrn
          have B5 := Lib.hid b5
          clear hres hend v5 b5
          go_wp2_with fail
          go_returns
          exact ⟨by rw [hrn.out]; rfl, B5.out⟩
      · have hrn : r = n := by rw [hres, List.drop_eq_nil_of_le (by omega), Tr.valsL]
        replace hrn := Lib.hid hrn
        have B5 := Lib.hid b5
        clear hres v5 b5
        go_wp2_with fail
        go_returns
        exact ⟨by rw [hrn.out]; rfl, B5.out⟩
  · go_enter Try.func30, Try.ntmps30
    go_wp2_with fail
    go_loopw [5, 6] (fun nn q wr => ∃ (i : Nat) (n : Int), q = .int .i64 (i : Int) ∧ nn = .int .i64 n ∧ i ≤ l.length ∧ 1 ≤ n ∧ n ≤ m + 1 ∧ r = Tr.valsL (l.drop i) m n ∧ VB wr w.heap.size 58 #[.int .i64 k, .int .i64 n0, .string s, .slice A l.length cap] ∧ Below w.heap.size w wr)
      (fun _ q _ => l.length - (intOf q).toNat)
    case atStart => exact ⟨0, _, rfl, rfl, by omega, by omega, by omega, by rw [hr.out, List.drop_zero, Int.min_eq_left (by omega)], W0.out, B.alloc (B.refl w) _⟩
    case round =>
      obtain ⟨i, n, rfl, rfl, hi, hn1, hn2, hres, v5, b5⟩ := hrel
      have w3 := v5.cell 3
      have wl := v5.lt
      simp at w3
      clear W0
      by_cases hil : i < l.length
      · by_cases hnm : n ≤ m
        · have hne : l ≠ [] := by intro e; subst e; simp at hil
          obtain ⟨b, off, rfl, hsb, hats⟩ := hl3.out hne
          obtain ⟨A1, k1, d0, d1, d2, d3, q1, q2, t1⟩ := Tr.ats_cells hats i hil
          have hbw := hS.out _ _ hsb
          have kc : ∀ o, wr.cell? ⟨b, o, none⟩ = w.cell? ⟨b, o, none⟩ := fun o => b5.cell (p := ⟨b, o, none⟩) hbw
          rw [← kc] at d0 d1 d2 d3
          have hstep : Tr.valsL (l.drop i) m n = Tr.valsL (l.drop (i + 1)) m (n + l[i].vals (m - n)) := by rw [List.drop_eq_getElem_cons hil, Tr.valsL, if_pos hnm]
          have hcall := hyp.out l[i] (List.getElem_mem hil) S wr _ (m - n) (Tr.at_below t1 b5 hS.out) (fun b off h => Nat.lt_of_lt_of_le (hS.out b off h) b5.size) (by omega) (by omega)
          have hvl := Tr.vals_le l[i] (m - n) (by omega)
          obtain ⟨vv, hvv⟩ : ∃ x, x = l[i].vals (m - n) := ⟨_, rfl⟩
          rw [← hvv] at hcall hvl hstep
          replace hvl : 1 ≤ vv ∧ vv ≤ m - n + 1 := ⟨hvl.1, hvl.2.1⟩
          obtain ⟨hv1, hv2⟩ := hvl
          replace hcall := Lib.hid hcall
          replace hstep := Lib.hid hstep
          replace hres := Lib.hid hres
          have V5 := Lib.hid v5
          have B5 := Lib.hid b5
          clear v5 b5 kc t1 hats hsb hvv hne
          go_wp2_with fail
          refine hcall.out.mono ?_
          rintro _ w6 ⟨rfl, b6⟩
          go_wp2_with fail
          go_roundw
          case measure => simp only [intOf]; omega
          case rel => exact ⟨i + 1, n + vv, rfl, rfl, by omega, by omega, by omega, by rw [hres.out, hstep.out], V5.out.call b6, B.call B5.out b6⟩
        · have hend : Tr.valsL (l.drop i) m n = n := by rw [List.drop_eq_getElem_cons hil, Tr.valsL, if_neg hnm]
          have hrn : r = n := by rw [hres, hend]
          replace hrn := Lib.hid hrn
          have B5 := Lib.hid b5
          clear hres hend v5 b5
          go_wp2_with fail
          go_returns
          exact ⟨by rw [hrn.out]; rfl, B5.out⟩
      · have hrn : r = n := by rw [hres, List.drop_eq_nil_of_le (by omega), Tr.valsL]
        replace hrn := Lib.hid hrn
        have B5 := Lib.hid b5
        clear hres v5 b5
        go_wp2_with fail
        go_returns
        exact ⟨by rw [hrn.out]; rfl, B5.out⟩

end Go.Proofs.Ytgohnekaolgblaa
