/- gimletref29.At, all, Check: contracts. -/
import Derived.Test.YtgohnekaolgblaaGreatQ23
namespace Go.Proofs.YtgohnekaolgblaaGreat
open Go.RowKit

/-- What At tells. -/
def AtIs (hs : List Nat) (a u r : Int) : Prop := (∃ i ∈ hs, r = (i : Int) ∧ u = a + 4 * (i : Int)) ∨ (r = -1 ∧ ∀ i ∈ hs, u ≠ a + 4 * (i : Int))

set_option maxRecDepth 100000 in
set_option maxHeartbeats 1000000 in
theorem rhAt (v : Value) (ls : List Int) (hs : List Nat) (a u : Int) (w : World) (hhs : Hp.heads ls = some hs) (hv : Sees .u32 w v ls) (hr : ∀ x ∈ ls, 0 ≤ x ∧ x < 4294967296) (hll : ls.length ≤ 65536) (ha : 0 ≤ a ∧ a < 4294967296) (hu : 0 ≤ u ∧ u < 4294967296) :
    Calls Tryz.prog 37 #[v, .int .u32 a, .int .u32 u] w fun e w' => ∃ r, e = .returned (.int .i64 r) ∧ AtIs hs a u r ∧ Below w.heap.size w w' := by
  have C := rhStarts v ls w hv hr hll
  rw [hhs] at C
  replace C := Lib.hid C
  have hhl : ∀ i ∈ hs, i < 65536 := fun i hi => by have := (Hp.heads_head hhs hi).lt; omega
  replace hhl := Lib.hid hhl
  replace hr := Lib.hid hr
  obtain ⟨A, c, rfl, h1, h2, h3⟩ := hv
  replace h3 := Lib.hid h3
  replace hhs := Lib.hid hhs
  go_enter Tryz.func37, Tryz.ntmps37
  go_wp2_with fail
  refine C.out.mono ?_
  rintro _ w1 ⟨_, rfl, b1, v1, rfl, own1⟩
  have hs1 := own1.sees
  obtain ⟨A1, c1, rfl, k1, k2, k3⟩ := hs1
  rw [List.length_map]
  have hlI : hs.length ≤ 9223372036854775807 := by rw [List.length_map] at k1; unfold maxLen at k2; omega
  replace k3 := Lib.hid k3
  replace b1 := Lib.hid b1
  clear C own1
  go_wp2_with fail
  go_loopw [9] (fun q wr => ∃ k : Nat, q = .int .i64 (k : Int) ∧ k ≤ hs.length ∧ (∀ j (hj : j < hs.length), j < k → u ≠ a + 4 * (hs[j] : Int)) ∧ wr = w1)
    (fun q _ => hs.length - (intOf q).toNat)
  case atStart => exact ⟨0, rfl, by omega, fun j hj h => by omega, rfl⟩
  case round =>
    obtain ⟨k, rfl, hk, hpre, rfl⟩ := hrel
    by_cases hkl : k < hs.length
    · obtain ⟨b, off, rfl, hc⟩ := k3.out (by intro e; rw [List.map_eq_nil_iff] at e; subst e; simp at hkl)
      have hci := hc k (by rw [List.length_map]; exact hkl)
      rw [List.getElem_map] at hci
      have hlt := hhl.out _ (List.getElem_mem hkl)
      have hmem := List.getElem_mem hkl
      obtain ⟨x, hx⟩ : ∃ x, x = hs[k] := ⟨_, rfl⟩
      rw [← hx] at hci hlt hmem
      have hkI : (k : Int) < (hs.length : Int) := by omega
      have hxI : 0 ≤ (x : Int) ∧ (x : Int) < 65536 := by omega
      replace hpre := Lib.hid hpre
      replace hx := Lib.hid hx
      clear hc
      by_cases he : u = a + 4 * (x : Int)
      · have he' := Lib.hid he
        go_wp2_with fail
        go_returns
        exact ⟨_, rfl, .inl ⟨x, hmem, rfl, he'.out⟩, b1.out⟩
      · have hne : ¬ u = a + 4 * (x : Int) := he
        go_wp2_with fail
        exact ⟨⟨k + 1, by rw [show ((k + 1 : Nat) : Int) = (k : Int) + 1 by omega], by omega, fun j hj h => by
          by_cases hjk : j = k
          · subst hjk; rw [← hx.out]; exact he
          · exact hpre.out j hj (by omega), by first | rfl | trivial⟩, by simp only [intOf]; omega⟩
    · obtain rfl : k = hs.length := by omega
      replace hpre := Lib.hid hpre
      go_wp2_with fail
      go_returns
      refine ⟨_, rfl, .inr ⟨rfl, fun i hi => ?_⟩, b1.out⟩
      obtain ⟨j, hj, rfl⟩ := List.getElem_of_mem hi
      exact hpre.out j hj hj

theorem AtIs.okw {hs : List Nat} {a u r : Int} (hA : Hp.isAdr a u = true) (h : AtIs hs a u r) : (0 ≤ r → Hp.okw (Hp.mem hs) a u = true ∧ r = (Hp.idx a u : Int)) ∧ (r < 0 → Hp.okw (Hp.mem hs) a u = false) := by
  have hA' := hA
  unfold Hp.isAdr at hA'
  simp only [Bool.and_eq_true, beq_iff_eq, decide_eq_true_eq] at hA'
  unfold Hp.okw
  rw [hA]
  simp only [Bool.not_true, Bool.false_or]
  rcases h with ⟨i, hi, rfl, hu⟩ | ⟨rfl, hn⟩
  · have hidx : Hp.idx a u = i := by unfold Hp.idx; omega
    refine ⟨fun _ => ⟨?_, by rw [hidx]⟩, fun h => by omega⟩
    rw [hidx]
    unfold Hp.whole Hp.mem
    simp only [Bool.and_eq_true, beq_iff_eq, decide_eq_true_eq]
    exact ⟨by omega, hi⟩
  · refine ⟨fun h => by omega, fun _ => ?_⟩
    rw [Bool.and_eq_false_iff]
    by_cases hw : Hp.whole a u = true
    · right
      unfold Hp.mem
      rw [decide_eq_false_iff_not]
      intro hi
      refine hn _ hi ?_
      unfold Hp.whole at hw
      simp only [beq_iff_eq] at hw
      unfold Hp.idx
      omega
    · left
      simpa using hw

set_option maxRecDepth 100000 in
set_option maxHeartbeats 1000000 in
theorem rhAll (v vl : Value) (ws ls : List Int) (hs : List Nat) (a : Int) (w : World) (hhs : Hp.heads ls = some hs) (hv : Sees .u32 w v ws) (hvl : Sees .u32 w vl ls) (hrw : ∀ x ∈ ws, 0 ≤ x ∧ x < 4294967296) (hr : ∀ x ∈ ls, 0 ≤ x ∧ x < 4294967296) (hll : ls.length ≤ 65536) (ha : 0 ≤ a ∧ a < 4294967296) :
    Calls Tryz.prog 21 #[v, vl, .int .u32 a] w fun e w' => e = .returned (.bool (Hp.okws (Hp.mem hs) a ws)) ∧ Below w.heap.size w w' := by
  obtain ⟨q, hq⟩ : ∃ q, q = Hp.okws (Hp.mem hs) a ws := ⟨_, rfl⟩
  rw [← hq]
  replace hq := Lib.hid hq
  have hC := fun wr u (hb : Below w.heap.size w wr) (hu : 0 ≤ u ∧ u < 4294967296) => rhAt vl ls hs a u wr hhs (hvl.below hb (Nat.le_refl _)) hr hll ha hu
  replace hC := Lib.hid hC
  replace hr := Lib.hid hr
  replace hrw := Lib.hid hrw
  replace hhs := Lib.hid hhs
  replace hvl := Lib.hid hvl
  obtain ⟨A, c, rfl, h1, h2, h3⟩ := hv
  unfold maxLen at h2
  replace h3 := Lib.hid h3
  obtain ⟨Al, cl, rfl, -⟩ := hvl.out.len
  go_enter Tryz.func21, Tryz.ntmps21
  go_wp2_with fail
  go_loopw [7] (fun p wr => ∃ (i : Nat), p = .int .i64 (i : Int) ∧ i ≤ ws.length ∧ Hp.okws (Hp.mem hs) a (ws.take i) = true ∧ Below w.heap.size w wr)
    (fun p _ => ws.length - (intOf p).toNat)
  case atStart => exact ⟨0, rfl, by omega, by simp [Hp.okws], B.refl w⟩
  case round =>
    obtain ⟨i, rfl, hi, hpre, hb⟩ := hrel
    by_cases hil : i < ws.length
    · obtain ⟨b, off, rfl, hc⟩ := h3.out (by intro e; subst e; simp at hil)
      have hci := cellK hb (hc i hil)
      have hri := hrw.out _ (List.getElem_mem hil)
      have hfail := Hp.okws_fail (S := Hp.mem hs) (a := a) hil
      have hstep := Hp.okws_take hil hpre
      obtain ⟨x, hx⟩ : ∃ x, x = ws[i] := ⟨_, rfl⟩
      rw [← hx] at hci hri hfail hstep
      have hilI : (i : Int) < (ws.length : Int) := by omega
      have HB := Lib.hid hb
      have hCx := Lib.hid (hC.out _ x hb hri)
      replace hpre := Lib.hid hpre
      replace hfail := Lib.hid hfail
      replace hstep := Lib.hid hstep
      clear hb hc hx
      by_cases hA : Hp.isAdr a x = true
      · have hA' := hA
        unfold Hp.isAdr at hA'
        simp only [Bool.and_eq_true, beq_iff_eq, decide_eq_true_eq] at hA'
        obtain ⟨hx0, hx1⟩ := hA'
        replace hA := Lib.hid hA
        go_wp2_with fail
        refine hCx.out.mono ?_
        rintro _ w1 ⟨r, rfl, hat, b1⟩
        obtain ⟨f1, f2⟩ := hat.okw hA.out
        have B1 := Lib.hid (B.call HB.out b1)
        clear hat b1
        by_cases hr0 : r < 0
        · have hqf := hfail.out (f2 hr0)
          clear f1 f2
          go_wp2_with fail
          go_returns
          exact ⟨by rw [hq.out, hqf]; rfl, B1.out⟩
        · have hst := Lib.hid (hstep.out (f1 (by omega)).1)
          clear f1 f2
          go_wp2_with fail
          exact ⟨⟨i + 1, by rw [show ((i + 1 : Nat) : Int) = (i : Int) + 1 by omega], by omega, hst.out, B1.out⟩, by simp only [intOf]; omega⟩
      · have hok : Hp.okw (Hp.mem hs) a x = true := by unfold Hp.okw; rw [show Hp.isAdr a x = false by simpa using hA]; rfl
        have hst := Lib.hid (hstep.out hok)
        have hno : x % 2 = 1 ∨ x < a := by
          unfold Hp.isAdr at hA
          simp only [Bool.and_eq_true, beq_iff_eq, decide_eq_true_eq] at hA
          omega
        clear hA hok
        by_cases hx2 : x % 2 = 1
        · go_wp2_with fail
          exact ⟨⟨i + 1, by rw [show ((i + 1 : Nat) : Int) = (i : Int) + 1 by omega], by omega, hst.out, HB.out⟩, by simp only [intOf]; omega⟩
        · have hx0 : x % 2 = 0 := by omega
          have hxa : x < a := by omega
          clear hno hx2
          go_wp2_with fail
          exact ⟨⟨i + 1, by rw [show ((i + 1 : Nat) : Int) = (i : Int) + 1 by omega], by omega, hst.out, HB.out⟩, by simp only [intOf]; omega⟩
    · obtain rfl : i = ws.length := by omega
      rw [List.take_of_length_le (Nat.le_refl _)] at hpre
      have HB := Lib.hid hb
      replace hpre := Lib.hid hpre
      clear hb
      go_wp2_with fail
      go_returns
      exact ⟨by rw [hq.out, hpre.out]; rfl, HB.out⟩

end Go.Proofs.YtgohnekaolgblaaGreat

/- gimletref29.Check: contract. -/
namespace Go.Proofs.YtgohnekaolgblaaGreat
open Go.RowKit

set_option maxRecDepth 100000 in
set_option maxHeartbeats 1000000 in
theorem rhCheck (v vr : Value) (ls rs : List Int) (a : Int) (w : World) (hv : Sees .u32 w v ls) (hvr : Sees .u32 w vr rs) (hr : ∀ x ∈ ls, 0 ≤ x ∧ x < 4294967296) (hrr : ∀ x ∈ rs, 0 ≤ x ∧ x < 4294967296) (hll : ls.length ≤ 65536) (hrl : rs.length ≤ 4096) (ha : 0 ≤ a ∧ a < 4294967296) :
    Calls Tryz.prog 5 #[v, .int .u32 a, vr] w fun e w' => e = .returned (.int .i64 (Hp.chk ls a rs)) ∧ Below w.heap.size w w' := by
  obtain ⟨q, hq⟩ : ∃ q, q = Hp.chk ls a rs := ⟨_, rfl⟩
  have hq2 := hq
  rw [← hq]
  unfold Hp.chk at hq2
  rw [if_neg (by omega)] at hq2
  have CS := fun wr (hb : Below w.heap.size w wr) => rhStarts v ls wr (hv.below hb (Nat.le_refl _)) hr hll
  have CP := fun wr => rhPlace a wr ha.1 ha.2
  obtain ⟨A, c, rfl, -⟩ := id hv
  obtain ⟨A2, c2, rfl, -⟩ := id hvr
  have hllI : ¬ (ls.length : Int) > 65536 := by omega
  have hrlI : ¬ (rs.length : Int) > 4096 := by omega
  cases hhs : Hp.heads ls with
  | none =>
    rw [hhs] at CS hq2
    simp only at hq2
    subst hq2
    replace CS := Lib.hid CS
    replace hhs := Lib.hid hhs
    replace hv := Lib.hid hv
    replace hvr := Lib.hid hvr
    replace hr := Lib.hid hr
    replace hrr := Lib.hid hrr
    clear hq
    by_cases hp : Hp.place a
    · rw [decide_eq_true hp] at CP
      replace CP := Lib.hid CP
      clear hp
      go_enter Tryz.func5, Tryz.ntmps5
      go_wp2_with fail
      refine (CS.out w (B.refl w)).mono ?_
      rintro _ w1 ⟨_, rfl, b1, rfl⟩
      replace b1 := Lib.hid b1
      go_wp2_with fail
      refine (CP.out _).mono ?_
      rintro _ w2 ⟨rfl, rfl⟩
      go_wp2_with fail
      go_returns
      exact ⟨rfl, b1.out⟩
    · rw [decide_eq_false hp] at CP
      replace CP := Lib.hid CP
      clear hp
      go_enter Tryz.func5, Tryz.ntmps5
      go_wp2_with fail
      refine (CS.out w (B.refl w)).mono ?_
      rintro _ w1 ⟨_, rfl, b1, rfl⟩
      replace b1 := Lib.hid b1
      go_wp2_with fail
      refine (CP.out _).mono ?_
      rintro _ w2 ⟨rfl, rfl⟩
      go_wp2_with fail
      go_returns
      exact ⟨rfl, b1.out⟩
  | some hs =>
    rw [hhs] at CS hq2
    simp only at hq2
    have CA := fun wr (hb : Below w.heap.size w wr) => rhAll (.slice A2 rs.length c2) (.slice A ls.length c) rs ls hs a wr hhs (hvr.below hb (Nat.le_refl _)) (hv.below hb (Nat.le_refl _)) hrr hr hll ha
    have CF := fun wr (hb : Below w.heap.size w wr) i (hi : i ∈ hs) => rhFields (.slice A ls.length c) ls i wr (hv.below hb (Nat.le_refl _)) hr (Hp.heads_head hhs hi)
    have CAF := fun wr (hb : Below w.heap.size w wr) o i (ho : Sees .u32 wr o (Hp.fields ls i)) => rhAll o (.slice A ls.length c) (Hp.fields ls i) ls hs a wr hhs ho (hv.below hb (Nat.le_refl _)) (Hp.fields_range hr i) hr hll ha
    replace CS := Lib.hid CS
    replace CF := Lib.hid CF
    replace CAF := Lib.hid CAF
    replace hhs := Lib.hid hhs
    replace hv := Lib.hid hv
    replace hvr := Lib.hid hvr
    replace hr := Lib.hid hr
    replace hrr := Lib.hid hrr
    clear hq
    by_cases hp : Hp.place a
    · rw [decide_eq_true hp] at CP
      replace CP := Lib.hid CP
      by_cases hro : Hp.okws (Hp.mem hs) a rs = true
      · rw [hro] at CA
        replace CA := Lib.hid CA
        replace hp := Lib.hid hp
        replace hro := Lib.hid hro
        replace hq2 := Lib.hid hq2
        go_enter Tryz.func5, Tryz.ntmps5
        go_wp2_with fail
        refine (CS.out w (B.refl w)).mono ?_
        rintro _ w1 ⟨_, rfl, b1, v1, rfl, own1⟩
        have hs1 := own1.sees
        have hs1b := hs1
        obtain ⟨A1, c1, rfl, k1, k2, -⟩ := hs1
        rw [List.length_map] at k1
        have hlI : hs.length ≤ 9223372036854775807 := by unfold maxLen at k2; omega
        rw [List.length_map] at hs1b ⊢
        replace hs1b := Lib.hid hs1b
        replace b1 := Lib.hid b1
        clear own1 k1 k2
        go_wp2_with fail
        refine (CP.out _).mono ?_
        rintro _ w2 ⟨rfl, rfl⟩
        go_wp2_with fail
        refine (CA.out _ b1.out).mono ?_
        rintro _ w3 ⟨rfl, b3⟩
        have B3 := Lib.hid (B.call b1.out b3)
        have hs3 := Lib.hid (hs1b.out.below b3 (Nat.le_refl _))
        clear b3
        go_wp2_with fail
        go_loopw [9] (fun p wr => ∃ (k : Nat), p = .int .i64 (k : Int) ∧ k ≤ hs.length ∧ (∀ j (hj : j < hs.length), j < k → Hp.okws (Hp.mem hs) a (Hp.fields ls hs[j]) = true) ∧ Below w.heap.size w wr ∧ Below w3.heap.size w3 wr)
          (fun p _ => hs.length - (intOf p).toNat)
        case atStart => exact ⟨0, rfl, by omega, fun j hj h => by omega, B3.out, B.refl _⟩
        case round =>
          obtain ⟨k, rfl, hk, hpre, hb, hb3⟩ := hrel
          by_cases hkl : k < hs.length
          · have hsr := hs3.out.below hb3 (Nat.le_refl _)
            obtain ⟨A4, c4, e4, -, -, hcc⟩ := hsr
            obtain ⟨b, off, rfl, hc⟩ := hcc (by intro e; rw [List.map_eq_nil_iff] at e; subst e; simp at hkl)
            simp only [Value.slice.injEq] at e4
            obtain ⟨rfl, -, rfl⟩ := e4
            have hci := hc k (by rw [List.length_map]; exact hkl)
            rw [List.getElem_map] at hci
            have hkI : (k : Int) < (hs.length : Int) := by omega
            have hmem := List.getElem_mem hkl
            obtain ⟨x, hx⟩ : ∃ x, x = hs[k] := ⟨_, rfl⟩
            rw [← hx] at hci hmem
            replace hx := Lib.hid hx
            replace hpre := Lib.hid hpre
            have HB := Lib.hid hb
            have HB3 := Lib.hid hb3
            have CFx := Lib.hid (CF.out _ hb x hmem)
            clear hc hcc hb hb3
            go_wp2_with fail
            refine CFx.out.mono ?_
            rintro _ w5 ⟨o, rfl, ho, rfl⟩
            have CAx := CAF.out _ HB.out o x ho
            obtain ⟨Ao, co, rfl, -⟩ := ho.len
            by_cases hfo : Hp.okws (Hp.mem hs) a (Hp.fields ls x) = true
            · rw [hfo] at CAx
              replace CAx := Lib.hid CAx
              replace hfo := Lib.hid hfo
              clear ho
              go_wp2_with fail
              refine CAx.out.mono ?_
              rintro _ w6 ⟨rfl, b6⟩
              have B6 := Lib.hid (B.call HB.out b6)
              have B36 := Lib.hid (B.call HB3.out b6)
              clear b6
              go_wp2_with fail
              exact ⟨⟨k + 1, by rw [show ((k + 1 : Nat) : Int) = (k : Int) + 1 by omega], by omega, fun j hj h => by
                by_cases hjk : j = k
                · subst hjk; rw [← hx.out]; exact hfo.out
                · exact hpre.out j hj (by omega), B6.out, B36.out⟩, by simp only [intOf]; omega⟩
            · have hff : Hp.okws (Hp.mem hs) a (Hp.fields ls x) = false := by simpa using hfo
              rw [hff] at CAx
              replace CAx := Lib.hid CAx
              have hq3 := hq2.out
              rw [if_neg (fun h => hfo (h.2.2 x hmem))] at hq3
              subst hq3
              clear ho hfo hff
              go_wp2_with fail
              refine CAx.out.mono ?_
              rintro _ w6 ⟨rfl, b6⟩
              have B6 := Lib.hid (B.call HB.out b6)
              clear b6
              go_wp2_with fail
              go_returns
              exact ⟨rfl, B6.out⟩
          · obtain rfl : k = hs.length := by omega
            have hq3 := hq2.out
            rw [if_pos ⟨hp.out, hro.out, fun i hi => by obtain ⟨j, hj, rfl⟩ := List.getElem_of_mem hi; exact hpre j hj hj⟩] at hq3
            subst hq3
            have HB := Lib.hid hb
            replace hpre := Lib.hid hpre
            clear hb hb3
            go_wp2_with fail
            go_returns
            exact ⟨rfl, HB.out⟩
      · have hrf : Hp.okws (Hp.mem hs) a rs = false := by simpa using hro
        rw [hrf] at CA
        replace CA := Lib.hid CA
        rw [if_neg (fun h => hro h.2.1)] at hq2
        subst hq2
        clear hp hro hrf
        go_enter Tryz.func5, Tryz.ntmps5
        go_wp2_with fail
        refine (CS.out w (B.refl w)).mono ?_
        rintro _ w1 ⟨_, rfl, b1, v1, rfl, own1⟩
        replace b1 := Lib.hid b1
        clear own1
        go_wp2_with fail
        refine (CP.out _).mono ?_
        rintro _ w2 ⟨rfl, rfl⟩
        go_wp2_with fail
        refine (CA.out _ b1.out).mono ?_
        rintro _ w3 ⟨rfl, b3⟩
        have B3 := Lib.hid (B.call b1.out b3)
        clear b3
        go_wp2_with fail
        go_returns
        exact ⟨rfl, B3.out⟩
    · rw [decide_eq_false hp] at CP
      replace CP := Lib.hid CP
      replace CA := Lib.hid CA
      rw [if_neg (fun h => hp h.1)] at hq2
      subst hq2
      clear hp
      go_enter Tryz.func5, Tryz.ntmps5
      go_wp2_with fail
      refine (CS.out w (B.refl w)).mono ?_
      rintro _ w1 ⟨_, rfl, b1, v1, rfl, own1⟩
      replace b1 := Lib.hid b1
      clear own1
      go_wp2_with fail
      refine (CP.out _).mono ?_
      rintro _ w2 ⟨rfl, rfl⟩
      go_wp2_with fail
      go_returns
      exact ⟨rfl, b1.out⟩

end Go.Proofs.YtgohnekaolgblaaGreat

/- (*gimletref29.mover).moved: what the mover is; words that stay, things that were moved: contracts. -/
namespace Go.Proofs.YtgohnekaolgblaaGreat
open Go.RowKit

/-- Where each thing stands. -/
def nows (ls : List Int) (o : List Nat) : List Int := (List.range o.length).map fun k => (Hp.q ls o k : Int)
theorem nows_length (ls : List Int) (o : List Nat) : (nows ls o).length = o.length := by simp [nows]
theorem nows_get (ls : List Int) (o : List Nat) (k : Nat) (hk : k < o.length) : (nows ls o)[k]'(by rw [nows_length]; exact hk) = (Hp.q ls o k : Int) := by simp [nows]
theorem nows_snoc (ls : List Int) (o : List Nat) (i : Nat) : nows ls (o ++ [i]) = nows ls o ++ [(Hp.sum ls o : Int)] := by
  unfold nows
  rw [List.length_append, List.length_singleton, List.range_succ, List.map_append]
  congr 1
  · apply List.map_congr_left
    intro k hk
    rw [Hp.q_pre (List.prefix_append o [i]) k (by have := List.mem_range.1 hk; omega)]
  · simp only [List.map_cons, List.map_nil, List.cons.injEq, and_true]
    rw [Hp.q_pre (List.prefix_append o [i]) o.length (Nat.le_refl _), Hp.q_all]

/-- The mover in its block: what was moved, where it stands, the words. -/
structure RM (w : World) (bm lo : Nat) (vl : Value) (a to : Int) (xs ys zs : List Int) (vw vn vt : Value) : Prop where
  cells : VB w bm 71 #[vl, .int .u32 a, .int .u32 to, vw, vn, vt]
  was : Owns 3 .i64 lo w vw xs
  now : Owns 3 .i64 lo w vn ys
  out : Owns 22 .u32 lo w vt zs
  apart : ∀ g, vw.ownBlock = some g → vn.ownBlock ≠ some g
  lo_bm : bm < lo
def RMover (w : World) (bm lo : Nat) (vl : Value) (ls : List Int) (a to : Int) (o : List Nat) (out : List Int) (vw vn vt : Value) : Prop := RM w bm lo vl a to (nums o) (nows ls o) out vw vn vt
/-- What may have turned. -/
def MvR (bm : Nat) (vw vn vt : Value) (k : Nat) : Prop := k = bm ∨ vw.ownBlock = some k ∨ vn.ownBlock = some k ∨ vt.ownBlock = some k
def SameOr (w : World) (v v' : Value) : Prop := v'.ownBlock = v.ownBlock ∨ ∃ g, v'.ownBlock = some g ∧ w.heap.size ≤ g
def RMPost (w w' : World) (bm lo : Nat) (vl : Value) (ls : List Int) (a to : Int) (o : List Nat) (out : List Int) (vw vn vt : Value) : Prop :=
  ∃ vw' vn' vt', RMover w' bm lo vl ls a to o out vw' vn' vt' ∧ GrowS (MvR bm vw vn vt) w w' ∧ SameOr w vw vw' ∧ SameOr w vn vn' ∧ SameOr w vt vt'
theorem RM.below {w w' : World} {bm lo : Nat} {vl : Value} {a to : Int} {xs ys zs : List Int} {vw vn vt : Value} (h : RM w bm lo vl a to xs ys zs vw vn vt) (b : Below w.heap.size w w') : RM w' bm lo vl a to xs ys zs vw vn vt :=
  ⟨h.cells.call b, row_keep h.was fun g hg => b.block g (h.was.lt g hg).2, row_keep h.now fun g hg => b.block g (h.now.lt g hg).2, row_keep h.out fun g hg => b.block g (h.out.lt g hg).2, h.apart, h.lo_bm⟩
theorem RMover.stays {w w' : World} {bm lo : Nat} {vl : Value} {ls : List Int} {a to : Int} {o : List Nat} {out : List Int} {vw vn vt : Value} (h : RMover w bm lo vl ls a to o out vw vn vt) (b : Below w.heap.size w w') : RMPost w w' bm lo vl ls a to o out vw vn vt :=
  ⟨vw, vn, vt, RM.below h b, (GrowS.refl _ w).below b, .inl rfl, .inl rfl, .inl rfl⟩

section
variable (w : World) (bm lo : Nat) (vl : Value) (ls : List Int) (hs : List Nat) (a to : Int) (o : List Nat) (out : List Int) (vw vn vt : Value) (u : Int) (B : Nat)

set_option maxHeartbeats 1000000 in
set_option maxRecDepth 100000 in
theorem moved_stays (hm : RMover w bm lo vl ls a to o out vw vn vt) (hu : 0 ≤ u ∧ u < 4294967296) (h : Hp.isAdr a u = false) :
    Calls Tryz.prog 29 #[.pointer (some ⟨bm, 0, none⟩), .int .u32 u] w fun e w' => e = .returned (.int .u32 u) ∧ w' = w := by
  have c1 := VB.cell (RM.cells hm) 1
  have cl := (RM.cells hm).lt
  simp at c1
  have hno : u % 2 = 1 ∨ u < a := by
    unfold Hp.isAdr at h
    simp only [Bool.and_eq_false_iff, beq_eq_false_iff_ne, decide_eq_false_iff_not] at h
    omega
  clear h hm
  by_cases hx2 : u % 2 = 1
  · clear hno
    go_enter Tryz.func29, Tryz.ntmps29
    go_wp2_with fail
    go_returns
    exact ⟨rfl, rfl⟩
  · have hx0 : u % 2 = 0 := by omega
    have hxa : u < a := by omega
    clear hno hx2
    go_enter Tryz.func29, Tryz.ntmps29
    go_wp2_with fail
    go_returns
    exact ⟨rfl, rfl⟩

set_option maxHeartbeats 1000000 in
set_option maxRecDepth 100000 in
theorem moved_was (hm : RMover w bm lo vl ls a to o out vw vn vt) (hhs : Hp.heads ls = some hs) (hl : Sees .u32 w vl ls) (hlr : ∀ x ∈ ls, 0 ≤ x ∧ x < 4294967296) (hls : ls.length ≤ 65536) (ha : 0 ≤ a ∧ a < 4294967296) (hto : 0 ≤ to ∧ to ≤ 2147483648) (hu : 0 ≤ u ∧ u < 4294967296)
    (hA : Hp.isAdr a u = true) (hok : Hp.okw (Hp.mem hs) a u = true) (hi : Hp.Inv ls hs o out) (k0 : Nat) (hk0 : k0 < o.length) (ho : o[k0] = Hp.idx a u) :
    Calls Tryz.prog 29 #[.pointer (some ⟨bm, 0, none⟩), .int .u32 u] w fun e w' => e = .returned (.int .u32 (to + 4 * (Hp.q ls o k0 : Int))) ∧ Below w.heap.size w w' := by
  have hA' := hA
  unfold Hp.isAdr at hA'
  simp only [Bool.and_eq_true, beq_iff_eq, decide_eq_true_eq] at hA'
  obtain ⟨hx0, hx1⟩ := hA'
  obtain ⟨i, hie⟩ : ∃ i, i = Hp.idx a u := ⟨_, rfl⟩
  rw [← hie] at ho
  have hAt : ∀ wr, wr = w ∨ wr = w.drew → Calls Tryz.prog 37 #[vl, .int .u32 a, .int .u32 u] wr fun e w' => e = .returned (.int .i64 (i : Int)) ∧ Below w.heap.size w w' := by
    intro wr hwr
    have hlr' : Sees .u32 wr vl ls ∧ Below w.heap.size w wr := by
      rcases hwr with rfl | rfl
      · exact ⟨hl, B.refl _⟩
      · exact ⟨hl, below_drew (B.refl _)⟩
    refine (rhAt vl ls hs a u wr hhs hlr'.1 hlr hls ha hu).mono ?_
    rintro _ w' ⟨r, rfl, hat, b⟩
    obtain ⟨f1, f2⟩ := hat.okw hA
    by_cases hr : 0 ≤ r
    · rw [(f1 hr).2, hie]
      exact ⟨rfl, B.call hlr'.2 b⟩
    · rw [f2 (by omega)] at hok
      cases hok
  have c0 := (RM.cells hm).cell 0
  have c1 := (RM.cells hm).cell 1
  have cl := (RM.cells hm).lt
  simp at c0 c1
  have hbd := hi.bound hhs
  have hnd := hi.nodup
  have hq := Hp.q_fits (ls := ls) (o := o) hk0 (j := 0) (Hp.wnAt_pos (Hp.heads_head hhs (hi.sub _ (List.getElem_mem hk0))))
  rw [← hi.len] at hq
  obtain ⟨Al, cpl, rfl, -⟩ := hl.len
  obtain ⟨P, hP⟩ : ∃ P, P = Hp.q ls o k0 := ⟨_, rfl⟩
  rw [← hP] at hq ⊢
  replace hP := Lib.hid hP
  replace hAt := Lib.hid hAt
  replace hm := Lib.hid hm
  replace hhs := Lib.hid hhs
  replace hl := Lib.hid hl
  replace hlr := Lib.hid hlr
  replace hok := Lib.hid hok
  replace hA := Lib.hid hA
  replace hi := Lib.hid hi
  replace hie := Lib.hid hie
  replace hnd := Lib.hid hnd
  go_enter Tryz.func29, Tryz.ntmps29
  go_wp2_with fail
  go_region_law (go_simp; go_at_call 37; with_reducible refine (hAt.out _ (by first | exact .inl rfl | exact .inr rfl)).mono ?_; rintro _ w1 ⟨rfl, b1⟩; replace b1 := Lib.hid b1)
  all_goals (
    have M1 := RM.below hm.out b1.out
    obtain ⟨Ao, co, rfl, o1, o2⟩ := M1.was.sees.len
    obtain ⟨An, cn, rfl, n1, n2⟩ := M1.now.sees.len
    have d2 := M1.cells.cell 2
    have d3 := M1.cells.cell 3
    have d4 := M1.cells.cell 4
    have dl := M1.cells.lt
    rw [nums_length] at o1
    rw [nows_length] at n1
    simp only [nums_length, nows_length] at d2 d3 d4
    simp at d2 d3 d4
    obtain ⟨go, cgo, hgo, go1, go2, -, -, hgc⟩ := M1.was.cells (by intro e; have := congrArg List.length e; rw [nums_length, List.length_nil] at this; omega)
    obtain ⟨gn, cgn, hgn, gn1, gn2, -, -, hnc⟩ := M1.now.cells (by intro e; have := congrArg List.length e; rw [nows_length, List.length_nil] at this; omega)
    simp only [Value.slice.injEq] at hgo hgn
    obtain ⟨rfl, -, -⟩ := hgo
    obtain ⟨rfl, -, -⟩ := hgn
    have hoc : ∀ k (hk : k < o.length), w1.cell? ⟨go, k, none⟩ = some (.int .i64 ((o[k] : Nat) : Int)) := fun k hk => by
      have := hgc k (by rw [nums_length]; exact hk)
      simpa [nums] using this
    have hnk : w1.cell? ⟨gn, k0, none⟩ = some (.int .i64 (Hp.q ls o k0 : Int)) := by
      have := hnc k0 (by rw [nows_length]; exact hk0)
      rw [nows_get ls o k0 hk0] at this
      exact this
    rw [← hP.out] at hnk
    have hPI : (P : Int) ≤ 65536 := by omega
    have hoI : (o.length : Int) ≤ 65536 := by omega
    have hkI : (k0 : Int) < (o.length : Int) := by omega
    replace hoc := Lib.hid hoc
    clear M1 hgc hnc hP hm
    go_wp2_with fail
    go_loopw [6] (fun q wr => ∃ k : Nat, q = .int .i64 (k : Int) ∧ k ≤ k0 ∧ wr = w1) (fun q _ => o.length - (intOf q).toNat)
    case atStart => exact ⟨0, rfl, by omega, rfl⟩
    case round =>
      obtain ⟨k, rfl, hk, rfl⟩ := hrel
      have hkl : k < o.length := by omega
      have hkI2 : (k : Int) < (o.length : Int) := by omega
      have ck := hoc.out k hkl
      by_cases hkk : k = k0
      · subst hkk
        rw [ho] at ck
        go_wp2_with fail
        go_quiet (fail)
        go_wp2_with fail
        go_returns
        exact ⟨rfl, below_drewT b1.out _⟩
      · have hne : o[k] ≠ i := fun e => hkk ((List.getElem_inj hnd.out).1 (e.trans ho.symm))
        obtain ⟨x, hx⟩ : ∃ x, x = o[k] := ⟨_, rfl⟩
        rw [← hx] at ck hne
        have hneI : ¬ (x : Int) = (i : Int) := by omega
        clear hx
        go_wp2_with fail
        exact ⟨⟨k + 1, by rw [show ((k + 1 : Nat) : Int) = (k : Int) + 1 by omega], by omega, by first | rfl | trivial⟩, by simp only [intOf]; omega⟩)
end

end Go.Proofs.YtgohnekaolgblaaGreat

/- (*gimletref29.mover).moved: a thing that is moved for the first time: contract. -/
namespace Go.Proofs.YtgohnekaolgblaaGreat
open Go.RowKit

section
variable {w w3 : World} {bm lo : Nat} {vl : Value} {a to : Int} {xs ys zs : List Int} {vw vn vt : Value}
theorem RM.nt (h : RM w bm lo vl a to xs ys zs vw vn vt) : (∀ g, vw.ownBlock = some g → vt.ownBlock ≠ some g) ∧ (∀ g, vn.ownBlock = some g → vt.ownBlock ≠ some g) := ⟨row_row_ne h.was h.out (by decide), row_row_ne h.now h.out (by decide)⟩
theorem RM.lt (h : RM w bm lo vl a to xs ys zs vw vn vt) {k : Nat} (hk : MvR bm vw vn vt k) : k < w.heap.size := by
  rcases hk with rfl | hk | hk | hk
  · exact h.cells.lt
  · exact (h.was.lt _ hk).2
  · exact (h.now.lt _ hk).2
  · exact (h.out.lt _ hk).2
theorem RM.keep (h : RM w bm lo vl a to xs ys zs vw vn vt) (hk : ∀ k, MvR bm vw vn vt k → w3.heap[k]? = w.heap[k]?) : RM w3 bm lo vl a to xs ys zs vw vn vt :=
  ⟨(hk _ (.inl rfl)).trans h.cells, row_keep h.was fun g hg => hk g (.inr (.inl hg)), row_keep h.now fun g hg => hk g (.inr (.inr (.inl hg))), row_keep h.out fun g hg => hk g (.inr (.inr (.inr hg))), h.apart, h.lo_bm⟩
/-- A row has grown by an append: what is kept. -/
theorem grown_row {E : TypeId} {B size n : Nat} {v : Value} {zs : List Value} {r : Option Nat} (h : w.ownsRow B E size v n zs) (g : w.grownBy w3 r) (hr : ∀ b, v.ownBlock = some b → r ≠ some b) : w3.ownsRow B E size v n zs :=
  row_keep h fun b hb => g.block b (World.ownsRow.lt h b hb).2 (fun e => hr b hb e.symm)
theorem sameOr_of {v v' : Value} {w0 : World} (h : v'.ownBlock = v.ownBlock ∨ v'.ownBlock = some w0.heap.size) (hs : w.heap.size ≤ w0.heap.size) : SameOr w v v' := by
  rcases h with e | e
  · exact .inl e
  · exact .inr ⟨_, e, hs⟩
theorem SameOr.ne {v v' u : Value} (h : SameOr w v v') (hu : ∀ g, u.ownBlock = some g → g < w.heap.size) (hne : ∀ g, v.ownBlock = some g → u.ownBlock ≠ some g) : ∀ g, v'.ownBlock = some g → u.ownBlock ≠ some g := by
  intro g hg hu'
  rcases h with e | ⟨g', e, hg'⟩
  · exact hne g (e ▸ hg) hu'
  · rw [e] at hg
    cases hg
    have := hu _ hu'
    omega
theorem SameOr.trans' {w1 : World} {v v' v'' : Value} (h : SameOr w v v') (h' : SameOr w1 v' v'') (hs : w.heap.size ≤ w1.heap.size) : SameOr w v v'' := by
  rcases h' with e | ⟨g, e, hg⟩
  · rcases h with e' | ⟨g, e', hg⟩
    · exact .inl (e.trans e')
    · exact .inr ⟨g, e.trans e', hg⟩
  · exact .inr ⟨g, e, by omega⟩
theorem MvR.back {vw' vn' vt' : Value} (h1 : SameOr w vw vw') (h2 : SameOr w vn vn') (h3 : SameOr w vt vt') {k : Nat} (hk : k < w.heap.size) (h : MvR bm vw' vn' vt' k) : MvR bm vw vn vt k := by
  have go : ∀ {v v' : Value}, SameOr w v v' → v'.ownBlock = some k → v.ownBlock = some k := by
    intro v v' h e
    rcases h with e' | ⟨g, e', hg⟩
    · exact e'.symm.trans e
    · rw [e'] at e
      cases e
      omega
  rcases h with h | h | h | h
  · exact .inl h
  · exact .inr (.inl (go h1 h))
  · exact .inr (.inr (.inl (go h2 h)))
  · exact .inr (.inr (.inr (go h3 h)))
theorem RM.setWas (h : RM w bm lo vl a to xs ys zs vw vn vt) {v3 : Value} {xs3 : List Int} (g3 : w.grownBy w3 vw.ownBlock) (o3 : Owns 3 .i64 lo w3 v3 xs3) (s3 : SameOr w vw v3) :
    RM (w3.setCell ⟨bm, 3, none⟩ v3) bm lo vl a to xs3 ys zs v3 vn vt ∧ GrowS (MvR bm vw vn vt) w (w3.setCell ⟨bm, 3, none⟩ v3) := by
  have hne : ∀ g, vw.ownBlock = some g → bm ≠ g := fun g hg => by have := (h.was.lt g hg).1; have := h.lo_bm; omega
  have hbm : ∀ b, lo ≤ b → (w3.setCell ⟨bm, 3, none⟩ v3).heap[b]? = w3.heap[b]? := fun b hb => Below.heap_setCell w3 ⟨bm, 3, none⟩ v3 b (by simp only; have := h.lo_bm; omega)
  refine ⟨⟨?_, row_keep o3 fun g hg => hbm g (o3.lt g hg).1, row_keep (grown_row h.now g3 fun b hb e => h.apart b e hb) fun g hg => hbm g (h.now.lt g hg).1, row_keep (grown_row h.out g3 fun b hb e => h.nt.1 b e hb) fun g hg => hbm g (h.out.lt g hg).1, s3.ne (fun g hg => (h.now.lt g hg).2) h.apart, h.lo_bm⟩, ?_⟩
  · have := (VB.grownAny h.cells g3 hne).set 3 v3
    simpa using this
  · exact ((GrowS.refl _ w).grown g3 fun g hg _ => .inr (.inl hg)).set (.inl rfl) _
theorem RM.setNow (h : RM w bm lo vl a to xs ys zs vw vn vt) {v3 : Value} {ys3 : List Int} (g3 : w.grownBy w3 vn.ownBlock) (o3 : Owns 3 .i64 lo w3 v3 ys3) (s3 : SameOr w vn v3) :
    RM (w3.setCell ⟨bm, 4, none⟩ v3) bm lo vl a to xs ys3 zs vw v3 vt ∧ GrowS (MvR bm vw vn vt) w (w3.setCell ⟨bm, 4, none⟩ v3) := by
  have hne : ∀ g, vn.ownBlock = some g → bm ≠ g := fun g hg => by have := (h.now.lt g hg).1; have := h.lo_bm; omega
  have hbm : ∀ b, lo ≤ b → (w3.setCell ⟨bm, 4, none⟩ v3).heap[b]? = w3.heap[b]? := fun b hb => Below.heap_setCell w3 ⟨bm, 4, none⟩ v3 b (by simp only; have := h.lo_bm; omega)
  refine ⟨⟨?_, row_keep (grown_row h.was g3 fun b hb e => h.apart b hb e) fun g hg => hbm g (h.was.lt g hg).1, row_keep o3 fun g hg => hbm g (o3.lt g hg).1, row_keep (grown_row h.out g3 fun b hb e => h.nt.2 b e hb) fun g hg => hbm g (h.out.lt g hg).1, ?_, h.lo_bm⟩, ?_⟩
  · have := (VB.grownAny h.cells g3 hne).set 4 v3
    simpa using this
  · have := s3.ne (fun g hg => (h.was.lt g hg).2) (fun g hg e => h.apart g e hg)
    exact fun g hg e => this g e hg
  · exact ((GrowS.refl _ w).grown g3 fun g hg _ => .inr (.inr (.inl hg))).set (.inl rfl) _
theorem RM.setWords (h : RM w bm lo vl a to xs ys zs vw vn vt) {v3 : Value} {zs3 : List Int} (g3 : w.grownBy w3 vt.ownBlock) (o3 : Owns 22 .u32 lo w3 v3 zs3) :
    RM (w3.setCell ⟨bm, 5, none⟩ v3) bm lo vl a to xs ys zs3 vw vn v3 ∧ GrowS (MvR bm vw vn vt) w (w3.setCell ⟨bm, 5, none⟩ v3) := by
  have hne : ∀ g, vt.ownBlock = some g → bm ≠ g := fun g hg => by have := (h.out.lt g hg).1; have := h.lo_bm; omega
  have hbm : ∀ b, lo ≤ b → (w3.setCell ⟨bm, 5, none⟩ v3).heap[b]? = w3.heap[b]? := fun b hb => Below.heap_setCell w3 ⟨bm, 5, none⟩ v3 b (by simp only; have := h.lo_bm; omega)
  refine ⟨⟨?_, row_keep (grown_row h.was g3 fun b hb e => h.nt.1 b hb e) fun g hg => hbm g (h.was.lt g hg).1, row_keep (grown_row h.now g3 fun b hb e => h.nt.2 b hb e) fun g hg => hbm g (h.now.lt g hg).1, row_keep o3 fun g hg => hbm g (o3.lt g hg).1, h.apart, h.lo_bm⟩, ?_⟩
  · have := (VB.grownAny h.cells g3 hne).set 5 v3
    simpa using this
  · exact ((GrowS.refl _ w).grown g3 fun g hg _ => .inr (.inr (.inr hg))).set (.inl rfl) _
end

end Go.Proofs.YtgohnekaolgblaaGreat
