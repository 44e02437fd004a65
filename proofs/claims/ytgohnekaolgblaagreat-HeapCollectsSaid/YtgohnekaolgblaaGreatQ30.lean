/- (*gimletref29.mover).moved: a thing that is moved for the first time: contract. -/
import Derived.Test.YtgohnekaolgblaaGreatQ24
import Derived.Deep.CutRange
namespace Go.Proofs.YtgohnekaolgblaaGreat
open Go.RowKit

theorem grown_alloc {w w3 : World} {ob : Obj} {r : Option Nat} (g : (w.alloc ob).grownBy w3 r) : w.grownBy w3 r :=
  ⟨g.os, g.tape, g.output, by have := g.size; simp at this; omega, fun k hk hn => (g.block k (by simp; omega) hn).trans (Below.heap_alloc w ob k hk)⟩
theorem grown_undrew {w w3 : World} {r : Option Nat} (g : w.drew.grownBy w3 r) : w.grownBy w3 r := ⟨g.os, g.tape, g.output, g.size, g.block⟩

theorem SameOr.older {w w1 : World} {v v' : Value} (h : SameOr w1 v v') (hs : w.heap.size ≤ w1.heap.size) : SameOr w v v' := by
  rcases h with h | ⟨g, e, hg⟩
  · exact .inl h
  · exact .inr ⟨g, e, by omega⟩

section
variable (w : World) (bm lo : Nat) (vl : Value) (ls : List Int) (hs : List Nat) (a tw : Int) (o : List Nat) (out : List Int) (vw vn vt : Value) (u : Int) (Bb : Nat)

set_option maxHeartbeats 4000000 in
set_option maxRecDepth 100000 in
theorem moved_new (hm : RMover w bm lo vl ls a tw o out vw vn vt) (hhs : Hp.heads ls = some hs) (hl : SeesB .u32 Bb w vl ls) (hB : Bb ≤ bm ∧ Bb ≤ lo) (hlo : lo ≤ w.heap.size) (hlr : ∀ x ∈ ls, 0 ≤ x ∧ x < 4294967296) (hls : ls.length ≤ 65536) (ha : 0 ≤ a ∧ a < 4294967296) (hto : 0 ≤ tw ∧ tw ≤ 2147483648) (hu : 0 ≤ u ∧ u < 4294967296)
    (hA : Hp.isAdr a u = true) (hok : Hp.okw (Hp.mem hs) a u = true) (hi : Hp.Inv ls hs o out) (hio : Hp.idx a u ∉ o) :
    Calls Tryz.prog 29 #[.pointer (some ⟨bm, 0, none⟩), .int .u32 u] w fun e w' => e = .returned (.int .u32 (tw + 4 * (out.length : Int))) ∧ RMPost w w' bm lo vl ls a tw (o ++ [Hp.idx a u]) (out ++ Hp.thing ls (Hp.idx a u)) vw vn vt := by
  have hA' := hA
  unfold Hp.isAdr at hA'
  simp only [Bool.and_eq_true, beq_iff_eq, decide_eq_true_eq] at hA'
  obtain ⟨hx0, hx1⟩ := hA'
  obtain ⟨-, hih, hhead⟩ := Hp.okw_head hhs hok hA
  obtain ⟨i, hie⟩ : ∃ i, i = Hp.idx a u := ⟨_, rfl⟩
  rw [← hie] at hio hih hhead ⊢
  have hAt : ∀ wr, wr = w ∨ wr = w.drew → Calls Tryz.prog 37 #[vl, .int .u32 a, .int .u32 u] wr fun e w' => e = .returned (.int .i64 (i : Int)) ∧ Below w.heap.size w w' := by
    intro wr hwr
    have hlr' : Sees .u32 wr vl ls ∧ Below w.heap.size w wr := by
      rcases hwr with rfl | rfl
      · exact ⟨hl.sees, B.refl _⟩
      · exact ⟨hl.sees, below_drew (B.refl _)⟩
    refine (rhAt vl ls hs a u wr hhs hlr'.1 hlr hls ha hu).mono ?_
    rintro _ w' ⟨r, rfl, hat, b⟩
    obtain ⟨f1, f2⟩ := hat.okw hA
    by_cases hr : 0 ≤ r
    · rw [(f1 hr).2, ← hie]
      exact ⟨rfl, B.call hlr'.2 b⟩
    · rw [f2 (by omega)] at hok
      cases hok
  have c0 := (RM.cells hm).cell 0
  have c1 := (RM.cells hm).cell 1
  have cl := (RM.cells hm).lt
  simp at c0 c1
  have hbd := hi.bound hhs
  have hsum := hi.len
  obtain ⟨hw1, hw2⟩ := Hp.thing_head hhead
  obtain ⟨hlt, hyes, hfit⟩ := hhead
  obtain ⟨hp1, hp2, hp3, hp4⟩ := Wd.words_pos hyes
  have hls0 := hl
  obtain ⟨Al, cpl, rfl, q1, q2, q3⟩ := hl
  obtain ⟨bl, offl, rfl, hblB, hlc⟩ := q3 (by intro e; subst e; simp at hlt)
  unfold maxLen at q2
  have hri := hlr _ (List.getElem_mem hlt)
  have hci := hlc i hlt
  obtain ⟨hd, hhd⟩ : ∃ x, x = ls[i] := ⟨_, rfl⟩
  rw [← hhd] at hri hci hyes hfit hp1 hp4 hw1
  obtain ⟨wn, hwn⟩ : ∃ x, x = Hp.wn hd := ⟨_, rfl⟩
  rw [← hwn] at hfit hp1 hp4 hw1
  have HW : ∀ w, Calls Tryz.prog 28 #[.int .u32 hd] w fun e w' => e = .returned (.tuple #[.int .i64 (wn : Int), .bool true]) ∧ w' = w := fun w => by
    have h := refWords hd w hri.1 hri.2
    rw [hyes] at h
    have e : (Wd.words hd).1 = (wn : Int) := by
      rw [hwn]; unfold Hp.wn
      have := Wd.unhead_size hd
      have : 0 ≤ (Wd.words hd).1 := by
        unfold Wd.words
        split
        · split <;> simp only <;> omega
        · simp
      omega
    rw [e] at h
    exact h
  have hblw : bl < w.heap.size := by have := hci; simpa using World.block_lt_of_cell? w _ hci
  obtain ⟨iI, hiI, hzI, hsI, hbI⟩ := info_parts3 (show (Tryz.prog.info? 3).map (fun i => (i.zero, i.size, i.bytes)) = some (some (.int .i64 0), 1, 8) by kernel_rfl)
  obtain ⟨iU, hiU, hzU, hsU, hbU⟩ := info_parts3 (show (Tryz.prog.info? 22).map (fun i => (i.zero, i.size, i.bytes)) = some (some (.int .u32 0), 1, 4) by kernel_rfl)
  replace hiI := Lib.hid hiI
  replace hzI := Lib.hid hzI
  replace hsI := Lib.hid hsI
  replace hbI := Lib.hid hbI
  replace hiU := Lib.hid hiU
  replace hzU := Lib.hid hzU
  replace hsU := Lib.hid hsU
  replace hbU := Lib.hid hbU
  obtain ⟨th, hth⟩ : ∃ th, th = Hp.thing ls i := ⟨_, rfl⟩
  rw [← hth] at hw2 ⊢
  replace hth := Lib.hid hth
  replace HW := Lib.hid HW
  replace hAt := Lib.hid hAt
  replace hm := Lib.hid hm
  replace hhs := Lib.hid hhs
  replace hls0 := Lib.hid hls0
  replace hlr := Lib.hid hlr
  replace hok := Lib.hid hok
  replace hA := Lib.hid hA
  replace hi := Lib.hid hi
  replace hie := Lib.hid hie
  replace hlc := Lib.hid hlc
  replace hw1 := Lib.hid hw1
  replace hw2 := Lib.hid hw2
  replace hsum := Lib.hid hsum
  replace hio := Lib.hid hio
  clear hhd hwn hp2 hp3
  go_enter Tryz.func29, Tryz.ntmps29
  go_upto_region 3 with fail
  go_cut [5] from 10 to 30 (fun q wx => q = .int .i64 (i : Int) ∧ Below w.heap.size w wx)
  case first =>
    go_region_law (go_simp; go_at_call 37; with_reducible refine (hAt.out _ (by first | exact .inl rfl | exact .inr rfl)).mono ?_; rintro _ w1 ⟨rfl, b1⟩; replace b1 := Lib.hid b1)
    all_goals (go_wp2_with fail; go_meet)
    all_goals exact ⟨rfl, b1.out⟩
  case rest =>
    obtain ⟨rfl, b1⟩ := hcut
    replace b1 := Lib.hid b1
    obtain ⟨w1, rfl⟩ : ∃ w1, w1 = wc := ⟨_, rfl⟩
    have M1 := RM.below hm.out b1.out
    obtain ⟨Ao, co, rfl, o1, o2⟩ := M1.was.sees.len
    obtain ⟨An, cn, rfl, n1, n2⟩ := M1.now.sees.len
    obtain ⟨At, ct, rfl, t1, t2⟩ := M1.out.sees.len
    rw [nums_length] at o1
    rw [nows_length] at n1
    simp only [nums_length, nows_length] at M1 ⊢
    have d0 := M1.cells.cell 0
    have d2 := M1.cells.cell 2
    have d3 := M1.cells.cell 3
    have d4 := M1.cells.cell 4
    have d5 := M1.cells.cell 5
    have dl := M1.cells.lt
    simp at d0 d2 d3 d4 d5
    have hoI : (o.length : Int) ≤ 65536 := by omega
    have hci1 := (b1.out.cell (p := ⟨bl, offl + i, none⟩) hblw).trans hci
    have hs1 := b1.out.size
    have hOC := Lib.hid M1.was
    replace M1 := Lib.hid M1
    clear hm
    go_wp2_with fail
    go_loopw [6] (fun q wr => ∃ k : Nat, q = .int .i64 (k : Int) ∧ k ≤ o.length ∧ wr = w1) (fun q _ => o.length - (intOf q).toNat)
    case atStart => exact ⟨0, rfl, by omega, rfl⟩
    case round =>
      obtain ⟨k, rfl, hk, rfl⟩ := hrel
      by_cases hkl : k < o.length
      · obtain ⟨go, cgo, hgo, go1, go2, -, -, hgc⟩ := hOC.out.cells (by intro e; have := congrArg List.length e; rw [nums_length, List.length_nil] at this; omega)
        simp only [Value.slice.injEq] at hgo
        obtain ⟨rfl, -, -⟩ := hgo
        have ck : wr.cell? ⟨go, k, none⟩ = some (.int .i64 ((o[k] : Nat) : Int)) := by
          have := hgc k (by rw [nums_length]; exact hkl)
          simpa [nums] using this
        have hkI2 : (k : Int) < (o.length : Int) := by omega
        have hne : o[k] ≠ i := fun e => hio.out (e ▸ List.getElem_mem hkl)
        obtain ⟨x, hx⟩ : ∃ x, x = o[k] := ⟨_, rfl⟩
        rw [← hx] at ck hne
        have hneI : ¬ (x : Int) = (i : Int) := by omega
        clear hx hgc
        go_wp2_with fail
        exact ⟨⟨k + 1, by rw [show ((k + 1 : Nat) : Int) = (k : Int) + 1 by omega], by omega, by first | rfl | trivial⟩, by simp only [intOf]; omega⟩
      · obtain rfl : k = o.length := by omega
        have hiI2 : (i : Int) < (ls.length : Int) := by omega
        go_wp2_with fail
        refine (HW.out _).mono ?_
        rintro _ w4 ⟨rfl, rfl⟩
        go_upto_region 13 with (first
          | (at_builtin; refine app_at Tryz.underlying54 hiI.out hzI.out hsI.out hbI.out rfl (.tmp 81) (.tmp 83) rfl rfl rfl (Sees.one .i64 w4 _ (i : Int) _ rfl) (M1.out.was.alloc _) (by simp; omega) (by rw [nums_length]; simp; omega) (by rw [nums_length]; unfold maxLen; simp; omega) ?_; intro v3 w3 own3 g3 loc3
             obtain ⟨A3, k3, rfl, _, _⟩ := own3.sees.len
             obtain ⟨n3, hn3⟩ : ∃ n, n = (nums o ++ [(i : Int)]).length := ⟨_, rfl⟩
             rw [← hn3] at own3 loc3 ⊢
             replace hn3 := Lib.hid hn3
             have V3 := VB.grownAny M1.out.cells (grown_alloc g3) (fun g hg => by have := (M1.out.was.lt g hg).1; have := M1.out.lo_bm; omega)
             have c33 := V3.cell 3
             have f33 := V3.free 3
             have l33 := V3.lt
             simp at c33
             have S3 := Lib.hid (RM.setWas M1.out (grown_alloc g3) own3 (sameOr_of loc3 (by simp)))
             have T3 := Lib.hid (sameOr_of (w := w4) loc3 (by simp))
             clear own3 g3 loc3 V3)
          | fail)
        obtain ⟨W3, hW3⟩ : ∃ W, W = w3.setCell ⟨bm, 3, none⟩ (.slice A3 n3 k3) := ⟨_, rfl⟩
        rw [← hW3] at S3 ⊢
        obtain ⟨M3, G3⟩ := S3.out
        have HL3 := Lib.hid ((hls0.out.keep (Nat.le_refl _) (fun b _ hb => b1.out.block b hb)).grow G3 (fun b hb h => by
          rcases h with h | h | h | h
          · omega
          · have := (M1.out.was.lt b h).1; omega
          · have := (M1.out.now.lt b h).1; omega
          · have := (M1.out.out.lt b h).1; omega))
        have e2 := M3.cells.cell 2
        have e4 := M3.cells.cell 4
        have e5 := M3.cells.cell 5
        have el := M3.cells.lt
        simp at e2 e4 e5
        have hs3 := G3.size
        have lit13 := Lib.hid (show Sees .i64 (W3.alloc (.cells #[.int .i64 (out.length : Int)] 3)).drew (.slice (some ⟨W3.heap.size, 0, none⟩) 1 1) [(out.length : Int)] from Sees.one .i64 W3 _ _ _ rfl)
        have own13 := Lib.hid (show Owns 3 .i64 lo (W3.alloc (.cells #[.int .i64 (out.length : Int)] 3)).drew (.slice An o.length cn) (nows ls o) from M3.now.alloc _)
        have HS5 : ∀ w5, (W3.alloc (.cells #[.int .i64 (out.length : Int)] 3)).drew.grownBy w5 (Value.slice An o.length cn).ownBlock → w5.cell? ⟨bm, 4, none⟩ = some (.slice An o.length cn) ∧ w5.frozen? ⟨bm, 4, none⟩ = false ∧ bm < w5.heap.size := fun w5 g5 => by
          have V5 := VB.grownAny M3.cells (grown_alloc (grown_undrew g5)) (fun g hg => by have := (M3.now.lt g hg).1; have := M3.lo_bm; omega)
          exact ⟨V5.cell 4, V5.free 4, V5.lt⟩
        replace HS5 := Lib.hid HS5
        replace M3 := Lib.hid M3
        replace G3 := Lib.hid G3
        clear hW3 S3 c33 f33 l33 d0 d2 d3 d4 d5 dl hOC
        go_cut [] from 34 to 100 (fun wx => ∃ (A5 : Option Addr) (k5 : Nat), RM wx bm lo (.slice (some ⟨bl, offl, none⟩) ls.length cpl) a tw (nums o ++ [(i : Int)]) (nows ls o ++ [(out.length : Int)]) out (.slice A3 n3 k3) (.slice A5 ((nows ls o).length + 1) k5) (.slice At out.length ct) ∧ GrowS (MvR bm (.slice A3 n3 k3) (.slice An o.length cn) (.slice At out.length ct)) W3 wx ∧ SameOr W3 (.slice An o.length cn) (.slice A5 ((nows ls o).length + 1) k5))
        case first =>
          go_region_law (refine step_app_at (u := .slice (some ⟨W3.heap.size, 0, none⟩) 1 1) (v := .slice An o.length cn) Tryz.underlying54 hiI.out hzI.out hsI.out hbI.out rfl (.tmp 91) (.tmp 97) rfl (by simp [go_sem]) (by simp [go_sem]) lit13.out own13.out (by simp; omega) (by rw [nows_length]; simp; omega) (by rw [nows_length]; unfold maxLen; simp; omega) ?_; intro v5 w5 own5 g5 loc5; obtain ⟨A5, k5, rfl, _, _⟩ := own5.sees.len; obtain ⟨e54, f54, l54⟩ := HS5.out w5 g5)
          all_goals (
            simp only [List.length_append, List.length_singleton] at own5 loc5
            obtain ⟨M5, G5⟩ := RM.setNow M3.out (grown_alloc (grown_undrew g5)) own5 (sameOr_of loc5 (by simp))
            have T5 := sameOr_of (w := W3) loc5 (by simp)
            go_wp2_with fail
            go_meet)
          all_goals exact ⟨A5, k5, M5, G5, T5⟩
        case rest =>
          obtain ⟨A5, k5, M5, G5, T5⟩ := hcut
          replace T5 := Lib.hid T5
          obtain ⟨W5, rfl⟩ : ∃ W5, W5 = wc := ⟨_, rfl⟩
          have G15 := G3.out.thenS G5 (fun k hk h => MvR.back T3.out (.inl rfl) (.inl rfl) hk h)
          have HL5 := Lib.hid (HL3.out.grow G5 (fun b hb h => by
            rcases h with h | h | h | h
            · omega
            · have := (M3.out.was.lt b h).1; omega
            · have := (M3.out.now.lt b h).1; omega
            · have := (M3.out.out.lt b h).1; omega))
          have hs5 := G5.size
          have r0 := M5.cells.cell 0
          have r2 := M5.cells.cell 2
          have r5 := M5.cells.cell 5
          have rl := M5.cells.lt
          simp at r0 r2 r5
          have hoI2 : (out.length : Int) ≤ 65536 := by omega
          replace M5 := Lib.hid M5
          replace G5 := Lib.hid G5
          replace G15 := Lib.hid G15
          clear e2 e4 e5 el HS5 lit13 own13
          go_wp2_with fail
          go_quiet (fail)
          go_wp2_with fail
          obtain ⟨W6, hW6⟩ : ∃ W, W = W5.drewN nq := ⟨_, rfl⟩
          rw [← hW6]
          have b6 : Below W5.heap.size W5 W6 := by rw [hW6]; exact below_drewT (B.refl _) _
          have M6 := RM.below M5.out b6
          have HL6 := HL5.out.keep (Nat.le_refl _) (fun b _ hb => b6.block b hb)
          have hs6 := b6.size
          have G6 := Lib.hid (GrowS.below G15.out b6)
          clear hW6 r0 r2 r5 rl G15 M5 HL5
          have r0 := M6.cells.cell 0
          have r5 := M6.cells.cell 5
          have rl := M6.cells.lt
          simp at r0 r5
          have f5 := M6.cells.free 5
          have HST : ∀ w7, W6.drew.grownBy w7 (Value.slice At out.length ct).ownBlock → w7.cell? ⟨bm, 5, none⟩ = some (.slice At out.length ct) ∧ w7.frozen? ⟨bm, 5, none⟩ = false ∧ bm < w7.heap.size := fun w7 g7 => by
            have V7 := VB.grownAny M6.cells (grown_undrew g7) (fun g hg => by have := (M6.out.lt g hg).1; have := M6.lo_bm; omega)
            exact ⟨V7.cell 5, V7.free 5, V7.lt⟩
          have HTH : Sees .u32 W6.drew (.slice (some ⟨bl, offl + i, none⟩) (i + wn - i) (cpl - i)) th := by
            show Sees .u32 W6 _ _
            obtain ⟨A', c', he, _, _, h3⟩ := HL6
            obtain ⟨b', off', he2, _, hc'⟩ := h3 (by intro e; subst e; simp at hlt)
            subst he2
            simp only [Value.slice.injEq, Option.some.injEq, Addr.mk.injEq] at he
            obtain ⟨⟨rfl, rfl, -⟩, -, rfl⟩ := he
            rw [hth.out]
            unfold Hp.thing
            rw [hw1.out, show i + wn - i = wn by omega]
            exact Sees.cut hc' i wn (cpl - i) _ (fun _ => rfl) (by omega) (by omega) (by unfold maxLen; omega)
          have OT6 : Owns 22 .u32 lo W6.drew (.slice At out.length ct) out := M6.out
          have hloW : lo ≤ W6.drew.heap.size := by show lo ≤ W6.heap.size; omega
          replace HST := Lib.hid HST
          replace HTH := Lib.hid HTH
          replace OT6 := Lib.hid OT6
          replace M6 := Lib.hid M6
          have s1 : IntKind.i64.wrap ((i : Int) + (wn : Int)) = (i : Int) + (wn : Int) := by rw [IntKind.wrap_i64]; omega
          have s2 : 0 ≤ (i : Int) + (wn : Int) := by omega
          have s3 : (i : Int) + (wn : Int) ≤ (cpl : Int) := by omega
          have s4 : ((i : Int) + (wn : Int)).toNat = i + wn := by omega
          have s5 : ¬ cpl = i := by omega
          clear HL6 b6
          go_region_law (refine step_app_at (u := .slice (some ⟨bl, offl + i, none⟩) (i + wn - i) (cpl - i)) (v := .slice At out.length ct) Tryz.underlying23 hiU.out hzU.out hsU.out hbU.out rfl (.tmp 117) (.tmp 126) rfl (by simp [go_sem]) (by simp [go_sem]) HTH.out OT6.out hloW (by rw [hw2.out, hw1.out]; omega) (by rw [hw2.out, hw1.out]; unfold maxLen; omega) ?_; intro v7 w7 own7 g7 loc7; obtain ⟨A7, k7, rfl, _, _⟩ := own7.sees.len; obtain ⟨e75, f75, l75⟩ := HST.out w7 g7)
          all_goals (
            simp only [List.length_append] at own7 loc7
            obtain ⟨M7, G7⟩ := RM.setWords M6.out (grown_undrew g7) own7
            have T7 := Lib.hid (SameOr.older (w := w) (sameOr_of (w := W6) loc7 (Nat.le_refl _)) (by omega))
            have T3' := Lib.hid (SameOr.older (w := w) T3.out hs1)
            have T5' := Lib.hid (SameOr.older (w := w) T5.out (by omega))
            have GG := Lib.hid (((GrowS.below (GrowS.refl _ w) b1.out).thenS G6.out (fun _ _ h => h)).thenS G7 (fun k hk h => MvR.back T3'.out T5'.out (.inl rfl) hk h))
            replace M7 := Lib.hid M7
            clear own7 g7 loc7 e75 f75 l75 G7
            go_wp2_with fail
            go_returns
            refine ⟨rfl, .slice A3 n3 k3, .slice A5 ((nows ls o).length + 1) k5, .slice A7 (out.length + th.length) k7, ?_, ?_, ?_, ?_, T7.out⟩
            · unfold RMover
              rw [show nums (o ++ [i]) = nums o ++ [(i : Int)] by simp [nums], nows_snoc, ← hsum.out]
              exact M7.out
            · have h := GG.out
              rw [nums_length, nows_length]
              exact h
            · have h := T3'.out
              rw [nums_length]
              exact h
            · have h := T5'.out
              rw [nows_length] at h ⊢
              exact h)
end

end Go.Proofs.YtgohnekaolgblaaGreat
