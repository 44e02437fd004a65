/- gimletref02.Bad, name.Runes: contracts. -/
import Derived.Test.YtdlfmchpaohoaaaDoorNmRunes
namespace Go.Proofs.YtdlfmchpaohoaaaDoor
open Go.RowKit

theorem Nm.badAt_cases (xs : List Int) : Nm.badAt xs = -1 ∨ ∃ a : Nat, Nm.badAt xs = (a : Int) ∧ a < xs.length := Nm.badFrom_cases xs _ _

theorem refBad (v : Value) (xs : List Int) (w : World) (hv : Sees .u8 w v xs) (hb : Byt xs) (hm : xs.length ≤ 2000000) :
    Calls Tryd.prog 14 #[v] w fun e w' => e = .returned (.int .i64 (Nm.badAt xs)) ∧ Below w.heap.size w w' := by
  obtain ⟨A, cap, rfl, _, _⟩ := hv.len
  have HV := Lib.hid hv; clear hv
  go_enter Tryd.func14, Tryd.ntmps14
  go_wp2_with fail
  refine (refRunes _ xs _ HV.out hb hm).mono ?_
  rintro _ w1 ⟨⟨hbad, v1, rfl, s1⟩ | ⟨⟨a, hbad⟩, rfl⟩, b1⟩
  · have HBA := Lib.hid hbad; clear hbad s1
    go_wp2_with fail
    go_returns
    rw [HBA.out]
    exact ⟨rfl, B.alloc b1 _⟩
  · have HBA := Lib.hid hbad; clear hbad
    rw [HBA.out]
    go_wp2_with fail
    go_returns
    exact ⟨by rw [HBA.out]; rfl, B.alloc b1 _⟩

theorem Owns.iterAt {E : TypeId} {k : IntKind} {B : Nat} {w : World} {v : Value} {xs : List Int} (h : Owns E k B w v xs) (j : Nat) (hj : j < B) (s : ByteArray) (p : Nat) : Owns E k B (w.iterAt j s p) v xs := by
  obtain ⟨h1, h2⟩ := h
  refine ⟨h1, ?_⟩
  rcases h2 with h2 | ⟨g, cap, cur, hv, hg, hh, r⟩
  · exact .inl h2
  · exact .inr ⟨g, cap, cur, hv, hg, by rw [Lib.iterAt_other _ _ _ _ _ (by omega)]; exact hh, r⟩

set_option maxHeartbeats 2000000 in
theorem nmRunes (v : Value) (xs : List Int) (w : World) (hv : Sees .u8 w v xs) (hb : Byt xs) (hT : Tabs w) (hm : xs.length ≤ 2000000) :
    Calls Tryd.prog 10 #[v] w fun e w' => Nm.RunesOut xs e w' ∧ Below w.heap.size w w' := by
  obtain ⟨i0, hi, hz0, hz1, hz2⟩ := info_parts Tryd.infoInt
  obtain ⟨A, cap, rfl, _, _⟩ := hv.len
  have HV := Lib.hid hv; clear hv
  have HB := Lib.hid hb; clear hb
  have HT := Lib.hid hT; clear hT
  have hss := str_size xs
  go_enter Tryd.func10, Tryd.ntmps10
  go_wp2_with fail
  refine (nmBad _ xs _ (HV.out.alloc _) HB.out (HT.out.alloc _) (by omega)).mono ?_
  rintro _ w1 ⟨rfl, b1⟩
  have hbe1 : Below (w.heap.size + 1) (w.alloc (.cells #[.int .i64 0, .int .i64 0] 27)) w1 := b1.mono (by simp)
  have hz1' := b1.size
  simp only [World.size_alloc] at hz1'
  obtain ⟨f0, f1, f2, f3, f4⟩ := bcell2 b1
  rcases Nm.badAt_cases xs with hbad | ⟨a, hbad, hal⟩
  · have HBA := Lib.hid hbad
    unfold Nm.badAt at hbad
    rw [hbad]
    have e1 := run_str (P := Tryd.prog) (T := 22) (E := 5) (S := 9) Tryd.underlying22 Tryd.underlying5 Tryd.underlying9 ((HV.out.alloc (.cells #[.int .i64 0, .int .i64 0] 27)).below b1 (Nat.le_refl _))
    have HBE1 := Lib.hid hbe1
    clear hbad b1 hbe1
    go_wp2_with fail
    go_loopw [5] (fun o wr => ∃ (pos fuel : Nat) (acc : List Int), wr.heap[w1.heap.size]? = some (.stringIter (str xs) pos) ∧ Owns 3 .i64 (w1.heap.size + 1) wr o acc ∧ Below w1.heap.size w1 wr ∧ w1.heap.size + 1 ≤ wr.heap.size ∧
        acc ++ Nm.runesFrom xs fuel pos = Nm.runesFrom xs xs.length 0 ∧ xs.length ≤ pos + fuel ∧ pos ≤ xs.length ∧ acc.length ≤ pos)
      (fun _ wr => xs.length - wr.iterPos w1.heap.size)
    case atStart => exact ⟨0, xs.length, [], World.iter_heap w1 _ 0, Owns.nil _ _ _ _, (Below.refl _ _).alloc (Nat.le_refl _) _, by simp [World.iter], rfl, by omega, by omega, by simp⟩
    case round =>
      obtain ⟨pos, fuel, acc, hit, hown, hbel, hsz, hrf, hfu, hps, hal⟩ := hrel
      have hip : wr.iterPos w1.heap.size = pos := by simp only [World.iterPos, hit]
      by_cases hp : pos < xs.length
      · have hnx : ∀ ty, (Instr.next (.pointer (some ⟨w1.heap.size, 0, none⟩)) true ty).run Tryd.prog wr = _ := fun ty => Lib.run_next_any_at wr w1.heap.size (str xs) pos ty hit (by omega)
        simp only [Nm.dec_eq HB.out] at hnx
        obtain ⟨f, rfl⟩ : ∃ f, fuel = f + 1 := ⟨fuel - 1, by omega⟩
        have d1 := Nm.dec_pos xs pos
        have d2 := Nm.dec_fits xs pos hp
        have dl := Nm.dec_le HB.out pos
        have hit2 := Lib.iterAt_heap wr w1.heap.size (str xs) pos (pos + (Nm.dec xs pos).2) hit
        have bel2 := iterAt_below hbel (Nat.le_refl _) (str xs) (pos + (Nm.dec xs pos).2)
        have own2 := Owns.iterAt hown w1.heap.size (by omega) (str xs) (pos + (Nm.dec xs pos).2)
        have hrf' : (acc ++ [((Nm.dec xs pos).1 : Int)]) ++ Nm.runesFrom xs f (pos + (Nm.dec xs pos).2) = Nm.runesFrom xs xs.length 0 := by rw [← hrf]; simp only [Nm.runesFrom, if_pos hp, List.append_assoc, List.singleton_append]
        have hsz2 : w1.heap.size + 1 ≤ (wr.iterAt w1.heap.size (str xs) (pos + (Nm.dec xs pos).2)).heap.size := by rw [Lib.iterAt_size]; exact hsz
        have HRF' := Lib.hid hrf'; have HIT := Lib.hid hit2; have HBE := Lib.hid bel2; have HO := Lib.hid own2; have HS := Lib.hid hsz2
        clear hit hown hbel hrf hrf' hit2 bel2 own2 hsz2
        generalize Nm.dec xs pos = d at *
        obtain ⟨d, k⟩ := d
        simp only at *
        go_wp2_with (at_builtin; refine app_own Tryd.underlying24 hi hz0 hz1 hz2 rfl _ _ rfl rfl rfl HO.out (Below.refl (w1.heap.size + 1) _) HS.out (by omega) (by unfold maxLen; omega) ?_; intro v2 w2 o2 b2 z2)
        have hi2 : w2.heap[w1.heap.size]? = some (.stringIter (str xs) (pos + k)) := (b2.block w1.heap.size (by omega)).trans HIT.out
        refine ⟨⟨pos + k, f, acc ++ [(d : Int)], hi2, o2, HBE.out.trans (b2.mono (by omega)), z2, HRF'.out, by omega, by omega, by simp; omega⟩, ?_⟩
        rw [hip]; simp only [World.iterPos, hi2]; omega
      · have hnx : ∀ ty, (Instr.next (.pointer (some ⟨w1.heap.size, 0, none⟩)) true ty).run Tryd.prog wr = _ := fun ty => Lib.run_next_end_at wr w1.heap.size (str xs) pos ty hit (by omega)
        have hacc : acc = Nm.runesFrom xs xs.length 0 := by rw [← hrf, Nm.runesFrom_end xs fuel pos hp, List.append_nil]
        have HAC := Lib.hid hacc
        obtain ⟨A1, k1, rfl, _, _⟩ := hown.sees.len
        have g0 : wr.cell? ⟨w.heap.size, 0, none⟩ = some (.int .i64 0) := (hbel.cell (p := ⟨w.heap.size, 0, none⟩) (by simp only; omega)).trans f0
        have g1 : wr.cell? ⟨w.heap.size, 1, none⟩ = some (.int .i64 0) := (hbel.cell (p := ⟨w.heap.size, 1, none⟩) (by simp only; omega)).trans f1
        have g2 : wr.frozen? ⟨w.heap.size, 0, none⟩ = false := (hbel.frozen (p := ⟨w.heap.size, 0, none⟩) (by simp only; omega)).trans f2
        have g3 : wr.frozen? ⟨w.heap.size, 1, none⟩ = false := (hbel.frozen (p := ⟨w.heap.size, 1, none⟩) (by simp only; omega)).trans f3
        have g4 : w.heap.size < wr.heap.size := by omega
        have HO := Lib.hid hown; have HBE := Lib.hid hbel
        clear hrf hacc hown hbel hit
        go_wp2_with fail
        refine bodyPost_ret (v := .tuple #[.slice A1 acc.length k1, .agg #[.int .i64 0, .int .i64 0]]) (by simp [results, Tryd.results10, go_sem, g0, g1]) rfl ⟨.inl ⟨HBA.out, _, rfl, ?_⟩, bend (HBE1.out.trans (HBE.out.mono (by omega)))⟩
        rw [← HAC.out]
        have ho := HO.out.mono (show w.heap.size + 1 ≤ w1.heap.size + 1 by omega)
        exact (Owns.setNew (Owns.setNew ho ho _ _) ho _ _).sees
  · have HBA := Lib.hid hbad
    unfold Nm.badAt at hbad
    rw [hbad]
    have HBE1 := Lib.hid hbe1
    clear hbad b1 hbe1
    go_wp2_with fail
    refine bodyPost_ret (v := .tuple #[.slice none 0 0, .agg #[.int .i64 4, .int .i64 (a : Int)]]) (by simp [results, Tryd.results10, go_sem, f0, f1]) rfl ⟨.inr ⟨⟨a, HBA.out⟩, ?_⟩, bend HBE1.out⟩
    rw [HBA.out]

end Go.Proofs.YtdlfmchpaohoaaaDoor
