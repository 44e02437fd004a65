/- gimletlaw29.HeapMoves: the walk. -/
import Derived.Test.YtgohnekaolgblaaHpLaw6
namespace Go.Proofs.Ytgohnekaolgblaa
open Go.RowKit

theorem Hp.fields_mem {ls : List Int} {i : Nat} {x : Int} (h : x ∈ Hp.fields ls i) : x ∈ ls := by
  obtain ⟨j, hj, rfl⟩ := List.getElem_of_mem h
  exact List.mem_of_getElem? (Hp.fields_get hj)
theorem Hp.lowB_fields {a to : Int} {ls : List Int} (h : Hp.lowB a to ls = false) (hs : List Nat) : ∀ i ∈ hs, Hp.noLow a to (Hp.fields ls i) := fun _ _ x hx => Hp.lowB_no h x (Hp.fields_mem hx)

/-- What is told of a heap that is moved where it may stand. -/
theorem Hp.moved_facts {ls : List Int} {hs : List Nat} {a : Int} {rs : List Int} (ok : Hp.Ok ls a rs hs) {to : Int} (ht : Hp.place to) (hl : ∀ x ∈ ls, 0 ≤ x ∧ x < 4294967296) (hr : ∀ x ∈ rs, 0 ≤ x ∧ x < 4294967296) {m r : List Int} (hm : Hp.move ls a rs to = (m, r)) :
    Hp.live ls a rs = (m.length, 0) ∧ Hp.moves ls a rs to = (m, r, 0) ∧ m.length ≤ ls.length ∧ r.length = rs.length ∧ (∀ x ∈ m, 0 ≤ x ∧ x < 4294967296) ∧ (∀ x ∈ r, 0 ≤ x ∧ x < 4294967296) := by
  have h1 := Hp.move_len ok to
  have h8 := Hp.move_len ok 8
  have h2 := Hp.move_range ok ⟨by have := ht.1; omega, ht.2.2⟩ hl hr
  have hc := Hp.ok_chk ok
  unfold Hp.live Hp.moves
  rw [if_pos hc, if_pos hc, if_pos ht]
  rw [hm] at h1 h2 ⊢
  simp only at h1 h2 ⊢
  exact ⟨by rw [h8.1, h1.1], by first | rfl | trivial, h1.2.1, h1.2.2, h2.1, h2.2⟩

set_option maxHeartbeats 4000000 in
set_option maxRecDepth 100000 in
theorem heapMovesWalk (vl vr : Value) (ls rs : List Int) (a to t2 : Int) (w : World) (hl : Sees .u32 w vl ls) (hlr : ∀ n ∈ ls, (Lit.int .u32 n).wf = true) (hv : Sees .u32 w vr rs) (hvr : ∀ n ∈ rs, (Lit.int .u32 n).wf = true) (ka : (Lit.int .u32 a).wf = true) (kt : (Lit.int .u32 to).wf = true) (k2 : (Lit.int .u32 t2).wf = true) :
    Calls Try.prog 6 #[vl, .int .u32 a, vr, .int .u32 to, .int .u32 t2] w fun e w' => e = .returned (.bool true) ∧ Below w.heap.size w w' := by
  have ha := wf_u32 ka
  have hto := wf_u32 kt
  have ht2 := wf_u32 k2
  have hr1 : ∀ x ∈ ls, 0 ≤ x ∧ x < 4294967296 := fun x hx => wf_u32 (hlr x hx)
  have hr2 : ∀ x ∈ rs, 0 ≤ x ∧ x < 4294967296 := fun x hx => wf_u32 (hvr x hx)
  clear hlr hvr ka kt k2
  obtain ⟨A1, c1, rfl, l1, l2⟩ := hl.len
  obtain ⟨A2, c2, rfl, l3, l4⟩ := hv.len
  unfold maxLen at l2 l4
  have AW := Lib.hid (hpAwake w)
  by_cases h1 : 500 < ls.length
  · clear hl hv hr1 hr2 ha hto ht2
    go_enter Try.func6, Try.ntmps6
    go_wp2_with fail
    refine AW.out.mono ?_
    rintro _ w1 ⟨rfl, b1⟩
    have BB := Lib.hid b1
    clear b1
    go_wp2_with fail
    go_returns
    exact ⟨rfl, BB.out⟩
  by_cases h2 : 100 < rs.length
  · clear hl hv hr1 hr2 ha hto ht2
    go_enter Try.func6, Try.ntmps6
    go_wp2_with fail
    refine AW.out.mono ?_
    rintro _ w1 ⟨rfl, b1⟩
    have BB := Lib.hid b1
    clear b1
    go_wp2_with fail
    go_returns
    exact ⟨rfl, BB.out⟩
  have SL := Lib.hid fun w' (h : Below w.heap.size w w') => hl.below h (Nat.le_refl _)
  have SR := Lib.hid fun w' (h : Below w.heap.size w w') => hv.below h (Nat.le_refl _)
  have HL := Lib.hid fun w' (h : Below w.heap.size w w') => hpLive _ _ ls rs a w' (SL.out w' h) hr1 (SR.out w' h) hr2 ha
  have HM := Lib.hid fun w' (h : Below w.heap.size w w') => hpMoves _ _ ls rs a to w' (SL.out w' h) hr1 (SR.out w' h) hr2 ha hto
  clear hl hv
  by_cases hc : Hp.chk ls a rs = 0
  · by_cases hp : Hp.place to
    · obtain ⟨hs, ok⟩ := Hp.chk_ok hc
      obtain ⟨m, r, hmr⟩ : ∃ m r, Hp.move ls a rs to = (m, r) := ⟨_, _, rfl⟩
      obtain ⟨eL, eM, hml, hrl, mr1, mr2⟩ := Hp.moved_facts ok hp hr1 hr2 hmr
      rw [eL] at HL
      rw [eM] at HM
      have LR := Lib.hid fun w' (h : Below w.heap.size w w') => hpLow _ rs a to w' (SR.out w' h) hr2
      have LL := Lib.hid fun w' (h : Below w.heap.size w w') => hpLow _ ls a to w' (SL.out w' h) hr1
      obtain ⟨d1, hd1⟩ : ∃ d, d = Hp.lowB a to rs := ⟨_, rfl⟩
      obtain ⟨d2, hd2⟩ : ∃ d, d = Hp.lowB a to ls := ⟨_, rfl⟩
      rw [← hd1] at LR
      rw [← hd2] at LL
      have RR := Lib.hid (And.intro hr1 (And.intro hr2 (And.intro ha (And.intro hto (And.intro ht2 (And.intro mr1 (And.intro mr2 (And.intro hml hrl))))))))
      have OK := Lib.hid ok
      have HP := Lib.hid hp
      replace hmr := Lib.hid hmr
      have hd := Lib.hid (And.intro hd1 hd2)
      have hc' := Lib.hid hc
      clear hr1 hr2 ha hto ht2 eL eM hml hrl mr1 mr2 ok hp hd1 hd2 hc
      go_enter Try.func6, Try.ntmps6
      go_wp2_with fail
      refine AW.out.mono ?_
      rintro _ w1 ⟨rfl, b1⟩
      have B1 := Lib.hid b1
      clear b1 AW
      go_wp2_with fail
      refine (HL.out _ B1.out).mono ?_
      rintro _ w2 ⟨rfl, b2⟩
      have B2 := Lib.hid (B.call B1.out b2)
      clear b2 B1 HL
      go_wp2_with fail
      refine (HM.out _ B2.out).mono ?_
      rintro _ w3 ⟨o1, o2, rfl, own1, own2, b3⟩
      have B3 := Lib.hid (B.call B2.out b3)
      obtain ⟨A3, c3, rfl, x1, y1⟩ := own1.sees.len
      obtain ⟨A4, c4, rfl, x2, y2⟩ := own2.sees.len
      unfold maxLen at y1 y2
      simp only at x1 x2 own1 own2 ⊢
      have SM := Lib.hid fun w' (h : Below w3.heap.size w3 w') => own1.sees.below h (Nat.le_refl _)
      have SQ := Lib.hid fun w' (h : Below w3.heap.size w3 w') => own2.sees.below h (Nat.le_refl _)
      clear own1 own2 b3 B2 HM
      go_wp2_with fail
      refine (LR.out _ B3.out).mono ?_
      rintro _ w4 ⟨rfl, b4⟩
      have B4 := Lib.hid (B.call B3.out b4)
      have C4 := Lib.hid b4
      clear b4 LR
      cases d1 with
      | true =>
        go_wp2_with fail
        go_returns
        exact ⟨by simp, B4.out⟩
      | false =>
        go_wp2_with fail
        refine (LL.out _ B4.out).mono ?_
        rintro _ w5 ⟨rfl, b5⟩
        have B5 := Lib.hid (B.call B4.out b5)
        have C5 := Lib.hid (B.call C4.out b5)
        clear b5 LL B4 C4
        cases d2 with
        | true =>
          go_wp2_with fail
          go_returns
          exact ⟨by simp, B5.out⟩
        | false =>
          have hlow := Hp.lowB_fields hd.out.2.symm hs
          have hlr := Hp.lowB_no hd.out.1.symm
          have hag := Hp.move_again OK.out HP.out hlow hlr
          have hrc := Hp.moved_reloc OK.out HP.out hlow hlr
          rw [hmr.out] at hag hrc
          simp only at hag hrc
          obtain ⟨⟨hs', ok'⟩, again⟩ := hag
          obtain ⟨hs2, hh2, rlc⟩ := hrc
          obtain rfl : hs2 = hs' := by have := ok'.heads; rw [hh2] at this; exact Option.some.inj this
          have hc2 := Hp.ok_chk ok'
          obtain ⟨X, Y, hXY⟩ : ∃ X Y, Hp.move ls a rs 2147483648 = (X, Y) := ⟨_, _, rfl⟩
          have hXY2 : Hp.move m to r 2147483648 = (X, Y) := by rw [again]; exact hXY
          have SAME := Lib.hid fun w' (h : Below w.heap.size w w') (h' : Below w3.heap.size w3 w') => hpSameOk _ _ _ _ ls rs m r a to w' X Y X Y (SL.out w' h) (SR.out w' h) (SM.out w' h') (SQ.out w' h') RR.out.1 RR.out.2.1 RR.out.2.2.2.2.2.1 RR.out.2.2.2.2.2.2.1 RR.out.2.2.1 RR.out.2.2.2.1 hc'.out hc2 RR.out.2.2.2.2.2.2.2.2.symm hXY hXY2 true (by simp)
          have CHK := Lib.hid fun w' (h' : Below w3.heap.size w3 w') => hpCheck _ _ m r to w' (SM.out w' h') RR.out.2.2.2.2.2.1 (SQ.out w' h') RR.out.2.2.2.2.2.2.1 RR.out.2.2.2.1.1 RR.out.2.2.2.1.2
          have MV2 := Lib.hid fun w' (h' : Below w3.heap.size w3 w') => hpMoves _ _ m r to t2 w' (SM.out w' h') RR.out.2.2.2.2.2.1 (SQ.out w' h') RR.out.2.2.2.2.2.2.1 RR.out.2.2.2.1 RR.out.2.2.2.2.1
          rw [hc2] at CHK
          have OK2 := Lib.hid ok'
          have hmm := Lib.hid ((again to).trans hmr.out)
          replace rlc := Lib.hid rlc
          replace hh2 := Lib.hid hh2
          replace hc2 := Lib.hid hc2
          clear hlow hlr again hXY hXY2 ok' hd hmr OK
          go_wp2_with fail
          refine (SAME.out _ B5.out C5.out).mono ?_
          rintro _ w6 ⟨rfl, b6⟩
          have B6 := Lib.hid (B.call B5.out b6)
          have C6 := Lib.hid (B.call C5.out b6)
          clear b6 SAME B5 C5
          go_wp2_with fail
          refine (CHK.out _ C6.out).mono ?_
          rintro _ w7 ⟨rfl, b7⟩
          have B7 := Lib.hid (B.call B6.out b7)
          have C7 := Lib.hid (B.call C6.out b7)
          clear b7 CHK B6 C6
          by_cases hp2 : Hp.place t2
          · obtain ⟨k, s, hks⟩ : ∃ k s, Hp.move m to r t2 = (k, s) := ⟨_, _, rfl⟩
            obtain ⟨_, eM2, hkl, hsl, kr1, kr2⟩ := Hp.moved_facts OK2.out hp2 RR.out.2.2.2.2.2.1 RR.out.2.2.2.2.2.2.1 hks
            rw [eM2] at MV2
            have lk := Hp.move_len OK2.out t2
            have lm := Hp.move_len OK2.out to
            rw [hks] at lk
            rw [hmm.out] at lm
            have hkm : k.length = m.length := by rw [lk.1, lm.1]
            have LM := Lib.hid fun w' (h' : Below w3.heap.size w3 w') => hpLow _ m to t2 w' (SM.out w' h') RR.out.2.2.2.2.2.1
            have LQ := Lib.hid fun w' (h' : Below w3.heap.size w3 w') => hpLow _ r to t2 w' (SQ.out w' h') RR.out.2.2.2.2.2.2.1
            obtain ⟨d3, hd3⟩ : ∃ d, d = Hp.lowB to t2 m := ⟨_, rfl⟩
            obtain ⟨d4, hd4⟩ : ∃ d, d = Hp.lowB to t2 r := ⟨_, rfl⟩
            rw [← hd3] at LM
            rw [← hd4] at LQ
            have KK := Lib.hid (And.intro hd3 (And.intro hd4 (And.intro hks (And.intro hkl (And.intro hsl (And.intro kr1 (And.intro kr2 hp2)))))))
            clear hd3 hd4 hks hkl hsl kr1 kr2 hp2 lk lm eM2
            go_wp2_with fail
            refine (MV2.out _ C7.out).mono ?_
            rintro _ w8 ⟨o3, o4, rfl, own3, own4, b8⟩
            have B8 := Lib.hid (B.call B7.out b8)
            have C8 := Lib.hid (B.call C7.out b8)
            obtain ⟨A5, c5, rfl, x3, y3⟩ := own3.sees.len
            obtain ⟨A6, c6, rfl, x4, y4⟩ := own4.sees.len
            unfold maxLen at y3 y4
            simp only at x3 x4 own3 own4 ⊢
            rw [hkm] at x3 own3 ⊢
            have SK := Lib.hid fun w' (h : Below w8.heap.size w8 w') => own3.sees.below h (Nat.le_refl _)
            have SS := Lib.hid fun w' (h : Below w8.heap.size w8 w') => own4.sees.below h (Nat.le_refl _)
            have HK := Lib.hid hkm
            clear own3 own4 b8 MV2 B7 C7 hkm
            go_wp2_with fail
            refine (LM.out _ C8.out).mono ?_
            rintro _ w9 ⟨rfl, b9⟩
            have B9 := Lib.hid (B.call B8.out b9)
            have C9 := Lib.hid (B.call C8.out b9)
            have D9 := Lib.hid b9
            clear b9 LM B8 C8
            cases d3 with
            | true =>
              go_wp2_with fail
              go_returns
              exact ⟨by simp, B9.out⟩
            | false =>
              go_wp2_with fail
              refine (LQ.out _ C9.out).mono ?_
              rintro _ w10 ⟨rfl, b10⟩
              have B10 := Lib.hid (B.call B9.out b10)
              have C10 := Lib.hid (B.call C9.out b10)
              have D10 := Lib.hid (B.call D9.out b10)
              clear b10 LQ B9 C9 D9
              cases d4 with
              | true =>
                go_wp2_with fail
                go_returns
                exact ⟨by simp, B10.out⟩
              | false =>
                have hag := Hp.move_again OK2.out KK.out.2.2.2.2.2.2.2 (Hp.lowB_fields KK.out.1.symm _) (Hp.lowB_no KK.out.2.1.symm)
                rw [KK.out.2.2.1] at hag
                simp only at hag
                obtain ⟨⟨hs3, ok3⟩, again2⟩ := hag
                have hc3 := Hp.ok_chk ok3
                obtain ⟨X, Y, hXY⟩ : ∃ X Y, Hp.move m to r 2147483648 = (X, Y) := ⟨_, _, rfl⟩
                have hXY2 : Hp.move k t2 s 2147483648 = (X, Y) := by rw [again2]; exact hXY
                have SAME := Lib.hid fun w' (h' : Below w3.heap.size w3 w') (h : Below w8.heap.size w8 w') => hpSameOk _ _ _ _ m r k s to t2 w' X Y X Y (SM.out w' h') (SQ.out w' h') (SK.out w' h) (SS.out w' h) RR.out.2.2.2.2.2.1 RR.out.2.2.2.2.2.2.1 KK.out.2.2.2.2.2.1 KK.out.2.2.2.2.2.2.1 RR.out.2.2.2.1 RR.out.2.2.2.2.1 hc2.out hc3 KK.out.2.2.2.2.1.symm hXY hXY2 true (by simp)
                have REL := Lib.hid fun w' (h' : Below w3.heap.size w3 w') => hpReloc _ m hs2 to t2 w' hh2.out (SM.out w' h') RR.out.2.2.2.2.2.1 (by have := OK2.out.ll; exact this) RR.out.2.2.2.1
                clear again2 hXY hXY2 ok3 hc3
                go_wp2_with fail
                refine (SAME.out _ C10.out D10.out).mono ?_
                rintro _ w11 ⟨rfl, b11⟩
                have B11 := Lib.hid (B.call B10.out b11)
                have C11 := Lib.hid (B.call C10.out b11)
                have D11 := Lib.hid (B.call D10.out b11)
                clear b11 SAME B10 C10 D10
                go_wp2_with fail
                refine (REL.out _ C11.out).mono ?_
                rintro _ w12 ⟨o5, out, rfl, own5, b12, hrl⟩
                have hok := rlc.out t2 KK.out.2.2.2.2.2.2.2 out hrl
                rw [KK.out.2.2.1] at hok
                simp only at hok
                subst hok
                have B12 := Lib.hid (B.call B11.out b12)
                have D12 := Lib.hid (B.call D11.out b12)
                obtain ⟨A7, c7, rfl, x5, y5⟩ := own5.sees.len
                have S5 := Lib.hid own5.sees
                clear own5 b12 hrl REL B11 C11 D11
                go_wp2_with fail
                refine (sameCells _ _ _ _ _ (SK.out _ D12.out) S5.out).mono ?_
                rintro _ w13 ⟨rfl, b13⟩
                have B13 := Lib.hid (B.call B12.out b13)
                clear b13
                rw [show decide (out = out) = true by simp]
                go_wp2_with fail
                go_returns
                exact ⟨rfl, B13.out⟩
          · have eM2 : Hp.moves m to r t2 = ([], [], 5) := by
              unfold Hp.moves
              rw [if_pos hc2.out, if_neg hp2]
            rw [eM2] at MV2
            go_wp2_with fail
            refine (MV2.out _ C7.out).mono ?_
            rintro _ w8 ⟨o3, o4, rfl, own3, own4, b8⟩
            have B8 := Lib.hid (B.call B7.out b8)
            obtain ⟨A5, c5, rfl, x3, y3⟩ := own3.sees.len
            obtain ⟨A6, c6, rfl, x4, y4⟩ := own4.sees.len
            clear own3 own4 b8
            go_wp2_with fail
            go_returns
            exact ⟨by simp, B8.out⟩
    · have eM : Hp.moves ls a rs to = ([], [], 5) := by
        unfold Hp.moves
        rw [if_pos hc, if_neg hp]
      have eL : Hp.live ls a rs = ((Hp.move ls a rs 8).1.length, 0) := by
        unfold Hp.live
        rw [if_pos hc]
      rw [eM] at HM
      rw [eL] at HL
      clear hr1 hr2 ha hto ht2 eL eM hc hp
      go_enter Try.func6, Try.ntmps6
      go_wp2_with fail
      refine AW.out.mono ?_
      rintro _ w1 ⟨rfl, b1⟩
      have B1 := Lib.hid b1
      clear b1 AW
      go_wp2_with fail
      refine (HL.out _ B1.out).mono ?_
      rintro _ w2 ⟨rfl, b2⟩
      have B2 := Lib.hid (B.call B1.out b2)
      clear b2 B1 HL
      go_wp2_with fail
      refine (HM.out _ B2.out).mono ?_
      rintro _ w3 ⟨o1, o2, rfl, own1, own2, b3⟩
      have B3 := Lib.hid (B.call B2.out b3)
      obtain ⟨A3, c3, rfl, x1, y1⟩ := own1.sees.len
      obtain ⟨A4, c4, rfl, x2, y2⟩ := own2.sees.len
      clear own1 own2 b3
      go_wp2_with fail
      go_returns
      exact ⟨by simp, B3.out⟩
  · obtain ⟨c, hcc⟩ : ∃ c, c = Hp.chk ls a rs := ⟨_, rfl⟩
    have eM : Hp.moves ls a rs to = ([], [], c) := by
      unfold Hp.moves
      rw [if_neg hc, hcc]
    have eL : Hp.live ls a rs = (0, c) := by
      unfold Hp.live
      rw [if_neg hc, hcc]
    rw [eM] at HM
    rw [eL] at HL
    rw [← hcc] at hc
    have hc0 : (c == 0) = false := by simpa using hc
    clear hr1 hr2 ha hto ht2 eL eM hcc
    go_enter Try.func6, Try.ntmps6
    go_wp2_with fail
    refine AW.out.mono ?_
    rintro _ w1 ⟨rfl, b1⟩
    have B1 := Lib.hid b1
    clear b1 AW
    go_wp2_with fail
    refine (HL.out _ B1.out).mono ?_
    rintro _ w2 ⟨rfl, b2⟩
    have B2 := Lib.hid (B.call B1.out b2)
    clear b2 B1 HL
    go_wp2_with fail
    refine (HM.out _ B2.out).mono ?_
    rintro _ w3 ⟨o1, o2, rfl, own1, own2, b3⟩
    have B3 := Lib.hid (B.call B2.out b3)
    obtain ⟨A3, c3, rfl, x1, y1⟩ := own1.sees.len
    obtain ⟨A4, c4, rfl, x2, y2⟩ := own2.sees.len
    clear own1 own2 b3
    go_wp2_with fail
    go_returns
    exact ⟨by simp, B3.out⟩

end Go.Proofs.Ytgohnekaolgblaa
