/- gimletref04.getWords: the loop. -/
import Derived.Test.YtdlfmchpaohoaaaRefKind
namespace Go.Proofs.Ytdlfmchpaohoaaa
open Go.RowKit

/-- Behind a call that leaves what was there, and a new block. -/
theorem VB.call {w w' : World} {t : Nat} {T : TypeId} {cs : Array Value} (h : VB w t T cs) (b : Below w.heap.size w w') : VB w' t T cs := h.below b h.lt

/-- The function's result is written at its end. -/
theorem fin2 {w W : World} (h : Below w.heap.size w W) (i j : Nat) (u u' : Value) : Below w.heap.size w ((W.setCell ⟨w.heap.size, i, none⟩ u).setCell ⟨w.heap.size, j, none⟩ u') :=
  (h.setCell (p := ⟨w.heap.size, i, none⟩) (Nat.le_refl _) _).setCell (p := ⟨w.heap.size, j, none⟩) (Nat.le_refl _) _

def wordsRes (n q : Nat) (r : Int × Int) : Int × Int × Int × Int := if r.1 = 0 then ((n : Int), (q : Int) + n, 0, 0) else (0, 0, r.1, r.2)

set_option maxHeartbeats 2000000 in
theorem refWords_run (v : Value) (bs : List Int) (at_ most : Int) (w : World) (hv : Sees .u8 w v bs) (hb : Byt bs) (hm : bs.length ≤ 140737488351232)
    (n q : Nat) (hg : Leb.getU bs at_ = ((n : Int), (q : Int), 0, 0)) (hn : n < 4294967296) (hn1 : (n : Int) ≤ most) (hq : q ≤ bs.length) (r : Int × Int) (hr : Kind.run bs n q = r) :
    Calls Try.prog 48 #[v, .int .i64 at_, .int .i64 most] w fun e w' => e = .returned (tupW (wordsRes n q r)) ∧ Below w.heap.size w w' := by
  have HV := Lib.hid hv; clear hv
  have HB := Lib.hid hb; clear hb
  have HG := Lib.hid hg; clear hg
  have HR := Lib.hid hr; clear hr
  have hmn : ¬ most < (n : Int) := by omega
  go_enter Try.func48, Try.ntmps48
  go_wp2_with fail
  refine (refGetU _ _ _ _ (HV.out.alloc _) HB.out hm).mono ?_
  rintro e w1 ⟨rfl, b1⟩
  rw [HG.out]
  simp only [tupU]
  have v1 := ((VB.new w 33 #[.int .i64 0, .int .i64 0]).call b1).alloc (.cells #[.int .i64 0, .int .i64 0] 33)
  have bw := B.alloc (B.call (B.alloc (B.refl w) _) b1) (.cells #[.int .i64 0, .int .i64 0] 33)
  have V1 := Lib.hid v1; clear v1
  go_wp2_with fail
  go_loopw [10, 12] (fun nx i wr => ∃ k : Nat, nx = .int .i64 ((q + k : Nat) : Int) ∧ i = .int .i64 k ∧ k ≤ n ∧ q + k ≤ bs.length ∧ Kind.run bs (n - k) (q + k) = r ∧ VB wr w.heap.size 33 #[.int .i64 0, .int .i64 0] ∧ Below w.heap.size w wr)
    (fun _ i _ => n - (intOf i).toNat)
  case atStart => exact ⟨0, rfl, rfl, Nat.zero_le _, by omega, HR.out, V1.out, bw⟩
  case round =>
    obtain ⟨k, rfl, rfl, hk, hqk, hrun, hvb, hbel⟩ := hrel
    have HRUN := Lib.hid hrun; clear hrun
    have HVB := Lib.hid hvb; clear hvb
    have HBEL := Lib.hid hbel; clear hbel
    clear b1 bw
    by_cases hlt : k < n
    · have sv := HV.out.below HBEL.out (Nat.le_refl _)
      have hby := refByte v bs ((q : Int) + (k : Int)) wr sv (by omega)
      have HN : n - k = (n - (k + 1)) + 1 := by omega
      have HN1 := Lib.hid HN; clear HN
      have htn : ((q : Int) + (k : Int)).toNat = q + k := by omega
      by_cases hl : q + k < bs.length
      · have hbr : Kind.byteAt bs ((q : Int) + (k : Int)) = (bs[q + k], (q : Int) + (k : Int) + 1, 0, 0) := by
          unfold Kind.byteAt; rw [if_neg (by omega), htn, List.getElem?_eq_getElem hl]
        rw [hbr] at hby
        clear htn hbr sv
        by_cases hc : bs[q + k] = 127
        · rw [hc] at hby
          have HBY := Lib.hid hby; clear hby
          have HC := Lib.hid hc; clear hc
          go_wp2_with fail
          refine HBY.out.mono ?_
          rintro e w2 ⟨rfl, b2⟩
          simp only [tupB]
          have v2 := (HVB.out.call b2).alloc (.cells #[.int .i64 0, .int .i64 0] 33)
          have bw2 := B.alloc (B.call HBEL.out b2) (.cells #[.int .i64 0, .int .i64 0] 33)
          have VV := Lib.hid v2; clear v2
          have BB := Lib.hid bw2; clear bw2
          go_wp2_with fail
          refine ⟨⟨k + 1, by go_num, by go_num, by omega, by omega, ?_, VV.out, BB.out⟩, by simp only [intOf]; omega⟩
          rw [← HRUN.out, HN1.out, Kind.run_hit hl HC.out]; rfl
        · have HC := Lib.hid hc; clear hc
          have HBY := Lib.hid hby; clear hby
          have hr : r = (140, ((q + k : Nat) : Int)) := by rw [← HRUN.out, HN1.out, Kind.run_miss hl HC.out]
          have HR2 := Lib.hid hr; clear hr
          have hne : (bs[q + k] == 127) = false := by rw [beq_eq_false_iff_ne]; exact HC.out
          go_wp2_with fail
          refine HBY.out.mono ?_
          rintro e w2 ⟨rfl, b2⟩
          simp only [tupB]
          have v2 := HVB.out.call b2
          have f0 := v2.cell 0
          have f1 := v2.cell 1
          have f2 := v2.free 0
          have f3 := v2.free 1
          have f4 := v2.lt
          simp at f0 f1
          clear v2
          go_wp2_with fail
          refine bodyPost_ret (v := tupW (0, 0, 140, (q : Int) + (k : Int))) (by simp [results, Try.results48, go_sem, f0, f1, f4, tupW]) rfl ⟨?_, ?_⟩
          · rw [HR2.out]; simp [wordsRes]
          · exact B.alloc (fin2 (B.call HBEL.out b2) _ _ _ _) _
      · have hp : q + k = bs.length := by omega
        have hbr : Kind.byteAt bs ((q : Int) + (k : Int)) = (0, 0, 4, (q : Int) + (k : Int)) := by
          unfold Kind.byteAt; rw [if_neg (by omega), htn, List.getElem?_eq_none (by omega)]
        rw [hbr] at hby
        have hr : r = (4, (bs.length : Int)) := by rw [← HRUN.out, HN1.out, Kind.run_end (by omega)]
        have HR2 := Lib.hid hr; clear hr
        have HBY := Lib.hid hby; clear hby hbr sv htn
        have HP := Lib.hid hp; clear hp
        go_wp2_with fail
        refine HBY.out.mono ?_
        rintro e w2 ⟨rfl, b2⟩
        simp only [tupB]
        have v2 := HVB.out.call b2
        have f0 := v2.cell 0
        have f1 := v2.cell 1
        have f2 := v2.free 0
        have f3 := v2.free 1
        have f4 := v2.lt
        simp at f0 f1
        clear v2
        go_wp2_with fail
        go_region
        all_goals go_wp2_with fail
        refine bodyPost_ret (v := tupW (0, 0, 4, (q : Int) + (k : Int))) (by simp [results, Try.results48, go_sem, f0, f1, f4, tupW]) rfl ⟨?_, ?_⟩
        · rw [HR2.out, ← HP.out]; simp [wordsRes]
        · exact (B.alloc (fin2 (B.call HBEL.out b2) _ _ _ _) _).drew
    · obtain rfl : k = n := by omega
      have f0 := HVB.out.cell 0
      have f1 := HVB.out.cell 1
      have f2 := HVB.out.free 0
      have f3 := HVB.out.free 1
      have f4 := HVB.out.lt
      simp at f0 f1
      have hr : r = (0, 0) := by rw [← HRUN.out, Nat.sub_self]; rfl
      have HR2 := Lib.hid hr; clear hr
      go_wp2_with fail
      refine bodyPost_ret (v := tupW ((k : Int), (q : Int) + k, 0, 0)) (by simp [results, Try.results48, go_sem, f0, f1, tupW]) rfl ⟨?_, ?_⟩
      · rw [HR2.out]; rfl
      · exact fin2 HBEL.out _ _ _ _

end Go.Proofs.Ytdlfmchpaohoaaa
