/- heap.Same: contract. -/
import Derived.Test.YtgohnekaolgblaaHpLaw5
namespace Go.Proofs.Ytgohnekaolgblaa
open Go.RowKit


set_option maxHeartbeats 4000000 in
set_option maxRecDepth 100000 in
theorem hpSameOk (v1 v2 v3 v4 : Value) (ls rs ms os : List Int) (a t : Int) (w : World) (A X C Y : List Int) (h1 : Sees .u32 w v1 ls) (h2 : Sees .u32 w v2 rs) (h3 : Sees .u32 w v3 ms) (h4 : Sees .u32 w v4 os) (r1 : ∀ x ∈ ls, 0 ≤ x ∧ x < 4294967296) (r2 : ∀ x ∈ rs, 0 ≤ x ∧ x < 4294967296) (r3 : ∀ x ∈ ms, 0 ≤ x ∧ x < 4294967296) (r4 : ∀ x ∈ os, 0 ≤ x ∧ x < 4294967296) (ha : 0 ≤ a ∧ a < 4294967296) (ht : 0 ≤ t ∧ t < 4294967296)
    (k1 : Hp.chk ls a rs = 0) (k2 : Hp.chk ms t os = 0) (hlen : rs.length = os.length) (m1 : Hp.move ls a rs 2147483648 = (A, X)) (m2 : Hp.move ms t os 2147483648 = (C, Y)) (r : Bool) (hr : r = decide (A = C ∧ X = Y)) :
    Calls Try.prog 28 #[v1, .int .u32 a, v2, v3, .int .u32 t, v4] w fun e w' => e = .returned (.tuple #[.bool r, .int .i64 0]) ∧ Below w.heap.size w w' := by
  obtain ⟨A1, c1, rfl, p1, q1⟩ := h1.len
  obtain ⟨A2, c2, rfl, p2, q2⟩ := h2.len
  obtain ⟨A3, c3, rfl, p3, q3⟩ := h3.len
  obtain ⟨A4, c4, rfl, p4, q4⟩ := h4.len
  unfold maxLen at q1 q2 q3 q4
  have C1 := Lib.hid (hpCheck _ _ ls rs a w h1 r1 h2 r2 ha.1 ha.2)
  have C2 := Lib.hid fun w' (h : Below w.heap.size w w') => hpCheck _ _ ms os t w' (h3.below h (Nat.le_refl _)) r3 (h4.below h (Nat.le_refl _)) r4 ht.1 ht.2
  rw [k1] at C1
  rw [k2] at C2
  have M1 := Lib.hid fun w' (h : Below w.heap.size w w') => hpMoveOk _ _ ls rs a 2147483648 w' k1 (h1.below h (Nat.le_refl _)) r1 (h2.below h (Nat.le_refl _)) r2 ha (by omega)
  have M2 := Lib.hid fun w' (h : Below w.heap.size w w') => hpMoveOk _ _ ms os t 2147483648 w' k2 (h3.below h (Nat.le_refl _)) r3 (h4.below h (Nat.le_refl _)) r4 ht (by omega)
  rw [m1] at M1
  rw [m2] at M2
  obtain ⟨_, ok1⟩ := Hp.chk_ok k1
  obtain ⟨_, ok2⟩ := Hp.chk_ok k2
  have hxl : X.length = rs.length := by have := (Hp.move_len ok1 2147483648).2.2; rw [m1] at this; exact this
  have hyl : Y.length = os.length := by have := (Hp.move_len ok2 2147483648).2.2; rw [m2] at this; exact this
  have hxy : X.length = Y.length := by omega
  obtain ⟨nr, hnr⟩ : ∃ n, n = rs.length := ⟨_, rfl⟩
  rw [← hlen, ← hnr] at C2 M2
  rw [← hnr] at C1 M1
  rw [← hlen, ← hnr]
  rw [← hlen, ← hnr] at p4
  rw [← hnr] at p2
  replace hr := Lib.hid hr
  clear h1 h2 h3 h4 r1 r2 r3 r4 k1 k2 m1 m2 ok1 ok2 hlen hnr hxl hyl
  go_enter Try.func28, Try.ntmps28
  go_wp2_with fail
  refine C1.out.mono ?_
  rintro _ w1 ⟨rfl, b1⟩
  go_wp2_with fail
  refine (C2.out _ b1).mono ?_
  rintro _ w2 ⟨rfl, b2⟩
  have B2 := Lib.hid (B.call b1 b2)
  clear b1 b2
  go_wp2_with fail
  refine (M1.out _ B2.out).mono ?_
  rintro _ w3 ⟨o1, o2, rfl, own1, own2, b3⟩
  have B3 := Lib.hid (B.call B2.out b3)
  have S1 := Lib.hid own1.sees
  have S2 := Lib.hid own2.sees
  obtain ⟨E1, d1, rfl, x1, y1⟩ := own1.sees.len
  obtain ⟨E2, d2, rfl, x2, y2⟩ := own2.sees.len
  clear own1 own2 b3
  go_wp2_with fail
  refine (M2.out _ B3.out).mono ?_
  rintro _ w4 ⟨o3, o4, rfl, own3, own4, b4⟩
  have B4 := Lib.hid (B.call B3.out b4)
  have T1 := S1.out.below b4 (Nat.le_refl _)
  have T2 := S2.out.below b4 (Nat.le_refl _)
  have T3 := own3.sees
  have T4 := own4.sees
  obtain ⟨E3, d3, rfl, x3, y3⟩ := T3.len
  obtain ⟨E4, d4, rfl, x4, y4⟩ := T4.len
  unfold maxLen at y1 y2 y3 y4
  simp only at x1 x2 x3 x4 T1 T2 T3 T4 ⊢
  clear own3 own4 b4 S1 S2
  by_cases hl : A.length = C.length
  · obtain ⟨n, hn⟩ : ∃ n, n = A.length := ⟨_, rfl⟩
    obtain ⟨m, hm⟩ : ∃ m, m = X.length := ⟨_, rfl⟩
    rw [← hl, ← hn, ← hxy, ← hm]
    rw [← hn] at x1
    rw [← hm] at x2
    rw [← hl, ← hn] at x3
    rw [← hxy, ← hm] at x4
    obtain ⟨_, _, he1, _, _, g1⟩ := T1
    obtain ⟨_, _, he2, _, _, g2⟩ := T2
    obtain ⟨_, _, he3, _, _, g3⟩ := T3
    obtain ⟨_, _, he4, _, _, g4⟩ := T4
    simp only [Value.slice.injEq] at he1 he2 he3 he4
    obtain ⟨rfl, -, rfl⟩ := he1
    obtain ⟨rfl, -, rfl⟩ := he2
    obtain ⟨rfl, -, rfl⟩ := he3
    obtain ⟨rfl, -, rfl⟩ := he4
    have HN := Lib.hid (And.intro hn (And.intro hl (And.intro hm hxy)))
    replace g1 := Lib.hid g1
    replace g2 := Lib.hid g2
    replace g3 := Lib.hid g3
    replace g4 := Lib.hid g4
    clear hn hm hl hxy
    go_wp2_with fail
    go_loopw [62] (fun q wr => ∃ i : Nat, q = .int .i64 (i : Int) ∧ i ≤ n ∧ A.take i = C.take i ∧ Below w4.heap.size w4 wr) (fun q _ => n - (intOf q).toNat)
    case atStart => exact ⟨0, rfl, by omega, by simp, B.refl w4⟩
    case round =>
      obtain ⟨i, rfl, hi, hpre, hbel⟩ := hrel
      by_cases hil : i < n
      · have hx : i < A.length := by have := HN.out.1; omega
        have hy : i < C.length := by have := HN.out.1; have := HN.out.2.1; omega
        obtain ⟨b1, o1, rfl, hc1⟩ := g1.out (by intro e; subst e; simp at hx)
        obtain ⟨b2, o2, rfl, hc2⟩ := g3.out (by intro e; subst e; simp at hy)
        have e1 := cellK hbel (hc1 i hx)
        have e2 := cellK hbel (hc2 i hy)
        have HB := Lib.hid hbel
        replace hpre := Lib.hid hpre
        clear hc1 hc2 hbel
        by_cases he : A[i] = C[i]
        · rw [he] at e1
          go_wp2_with fail
          go_quiet (fail)
          go_wp2_with fail
          go_roundw
          case measure => simp only [intOf]; omega
          case rel =>
            refine ⟨i + 1, by simp, by omega, ?_, below_drewN HB.out _⟩
            rw [List.take_add_one, List.take_add_one, List.getElem?_eq_getElem hx, List.getElem?_eq_getElem hy, he, hpre.out]
        · have hno : r = false := by
            rw [hr.out]
            simp only [decide_eq_false_iff_not]
            rintro ⟨e, -⟩
            subst e
            exact he rfl
          subst hno
          clear hr
          go_wp2_with fail
          go_quiet (fail)
          go_wp2_with fail
          go_returns
          exact ⟨rfl, below_drewN (B.call B4.out HB.out) _⟩
      · have hAC : A = C := by
          have h1 := HN.out.1
          have h2 := HN.out.2.1
          rw [List.take_of_length_le (by omega), List.take_of_length_le (by omega)] at hpre
          exact hpre
        have HB := Lib.hid hbel
        replace hAC := Lib.hid hAC
        clear hpre hbel
        go_wp2_with fail
        go_loopw [77] (fun q wr => ∃ i : Nat, q = .int .i64 (i : Int) ∧ i ≤ m ∧ X.take i = Y.take i ∧ Below w4.heap.size w4 wr) (fun q _ => m - (intOf q).toNat)
        case atStart => exact ⟨0, rfl, by omega, by simp, HB.out⟩
        case round =>
          obtain ⟨j, rfl, hj, hpre, hbel⟩ := hrel
          clear HB
          by_cases hjl : j < m
          · have hx : j < X.length := by have := HN.out.2.2.1; omega
            have hy : j < Y.length := by have := HN.out.2.2.1; have := HN.out.2.2.2; omega
            obtain ⟨b1, o1, rfl, hc1⟩ := g2.out (by intro e; subst e; simp at hx)
            obtain ⟨b2, o2, rfl, hc2⟩ := g4.out (by intro e; subst e; simp at hy)
            have e1 := cellK hbel (hc1 j hx)
            have e2 := cellK hbel (hc2 j hy)
            have HB := Lib.hid hbel
            replace hpre := Lib.hid hpre
            clear hc1 hc2 hbel
            by_cases he : X[j] = Y[j]
            · rw [he] at e1
              go_wp2_with fail
              go_quiet (fail)
              go_wp2_with fail
              go_roundw
              case measure => simp only [intOf]; omega
              case rel =>
                refine ⟨j + 1, by simp, by omega, ?_, below_drewN HB.out _⟩
                rw [List.take_add_one, List.take_add_one, List.getElem?_eq_getElem hx, List.getElem?_eq_getElem hy, he, hpre.out]
            · have hno : r = false := by
                rw [hr.out]
                simp only [decide_eq_false_iff_not]
                rintro ⟨-, e⟩
                subst e
                exact he rfl
              subst hno
              clear hr
              go_wp2_with fail
              go_quiet (fail)
              go_wp2_with fail
              go_returns
              exact ⟨rfl, below_drewN (B.call B4.out HB.out) _⟩
          · have hyes : r = true := by
              have h1 := HN.out.2.2.1
              have h2 := HN.out.2.2.2
              rw [List.take_of_length_le (by omega), List.take_of_length_le (by omega)] at hpre
              rw [hr.out]
              simp only [decide_eq_true_eq]
              exact ⟨hAC.out, hpre⟩
            subst hyes
            have HB := Lib.hid hbel
            clear hpre hbel hr
            go_wp2_with fail
            go_returns
            exact ⟨rfl, B.call B4.out HB.out⟩
  · have hno : r = false := by
      rw [hr.out]
      simp only [decide_eq_false_iff_not]
      rintro ⟨e, -⟩
      exact hl (by rw [e])
    subst hno
    have hl' : ((A.length : Int) == (C.length : Int)) = false := by simp; omega
    clear hr T1 T2 T3 T4
    go_wp2_with fail
    go_returns
    exact ⟨rfl, B4.out⟩

end Go.Proofs.Ytgohnekaolgblaa
