/- name.Bad: contract. -/
import Derived.Test.YtdlfmchpaohoaaaDoorUtf8
import Derived.Lib.OthersKept
namespace Go.Proofs.YtdlfmchpaohoaaaDoor
open Go.RowKit

/-- Where bytes are no text of runes, from a place on: -1, where they are one. -/
def Nm.badFrom (xs : List Int) : Nat → Nat → Int
  | 0, _ => -1
  | f + 1, p => if p < xs.length then (if Nm.bad xs p then (p : Int) else Nm.badFrom xs f (p + (Nm.dec xs p).2)) else -1

theorem Nm.badFrom_end (xs : List Int) (f p : Nat) (h : ¬ p < xs.length) : Nm.badFrom xs f p = -1 := by
  cases f with
  | zero => rfl
  | succ f => simp only [Nm.badFrom, if_neg h]

theorem iter_below {w w' : World} {k : Nat} {s : ByteArray} {p : Nat} (h : w.heap[k]? = some (.stringIter s p)) (hb : Below w.heap.size w w') : w'.heap[k]? = some (.stringIter s p) := by
  have hlt : k < w.heap.size := (Array.getElem?_eq_some_iff.1 h).1
  exact (hb.block k hlt).trans h

theorem iterAt_below {w wr : World} {k : Nat} (hbel : Below w.heap.size w wr) (hk : w.heap.size ≤ k) (s : ByteArray) (p : Nat) : Below w.heap.size w (wr.iterAt k s p) :=
  hbel.trans ⟨rfl, rfl, rfl, by rw [Lib.iterAt_size]; exact Nat.le_refl _, fun j hj => Lib.iterAt_other wr k j s p (by omega)⟩

theorem str_extract (xs : List Int) (p : Nat) : (str xs).extract p xs.length = str (xs.drop p) := by
  apply ByteArray.ext
  apply Array.ext'
  simp only [str, ByteArray.data_extract, Array.toList_extract, List.map_drop]
  rw [List.extract_eq_take_drop, List.take_of_length_le (by simp)]

theorem decodeGo_drop {xs : List Int} (hb : Byt xs) {p : Nat} (hp : p < xs.length) : Lib.decodeGo (str (xs.drop p)) = Nm.dec xs p := by
  unfold Lib.decodeGo
  rw [str_size, if_neg (by simp; omega), Nm.dec_eq (fun n hn => hb n (List.mem_of_mem_drop hn)), Nm.dec_drop]

set_option maxHeartbeats 1000000 in
theorem nmBad (v : Value) (xs : List Int) (w : World) (hv : Sees .u8 w v xs) (hb : Byt xs) (hT : Tabs w) (hm : xs.length ≤ 140737488351232) :
    Calls Tryd.prog 13 #[v] w fun e w' => e = .returned (.int .i64 (Nm.badFrom xs xs.length 0)) ∧ Below w.heap.size w w' := by
  have e1 := run_str (P := Tryd.prog) (T := 22) (E := 5) (S := 9) Tryd.underlying22 Tryd.underlying5 Tryd.underlying9 hv
  have HT := Lib.hid hT; clear hT
  have HB := Lib.hid hb; clear hb
  have hsz := str_size xs
  obtain ⟨A, cap, rfl, _, _⟩ := hv.len
  clear hv
  go_enter Tryd.func13, Tryd.ntmps13
  go_wp2_with fail
  go_loopw [4, 5, 6, 7] (fun _ _ _ _ wr => ∃ pos fuel : Nat, wr.heap[w.heap.size]? = some (.stringIter (str xs) pos) ∧ Below w.heap.size w wr ∧ Nm.badFrom xs fuel pos = Nm.badFrom xs xs.length 0 ∧ xs.length ≤ pos + fuel ∧ pos ≤ xs.length)
    (fun _ _ _ _ wr => xs.length - wr.iterPos w.heap.size)
  case atStart => exact ⟨0, xs.length, World.iter_heap w _ 0, (Below.refl _ _).alloc (Nat.le_refl _) _, rfl, by omega, by omega⟩
  case round =>
    obtain ⟨pos, fuel, hit, hbel, hbf, hfu, hps⟩ := hrel
    have hlt0 : w.heap.size < wr.heap.size := (Array.getElem?_eq_some_iff.1 hit).1
    have hip : wr.iterPos w.heap.size = pos := by simp only [World.iterPos, hit]
    by_cases hp : pos < xs.length
    · have hnx : ∀ ty, (Instr.next (.pointer (some ⟨w.heap.size, 0, none⟩)) true ty).run Tryd.prog wr = _ := fun ty => Lib.run_next_any_at wr w.heap.size (str xs) pos ty hit (by omega)
      simp only [Nm.dec_eq HB.out] at hnx
      obtain ⟨f, rfl⟩ : ∃ f, fuel = f + 1 := ⟨fuel - 1, by omega⟩
      have d1 := Nm.dec_pos xs pos
      have d2 := Nm.dec_fits xs pos hp
      have hit2 := Lib.iterAt_heap wr w.heap.size (str xs) pos (pos + (Nm.dec xs pos).2) hit
      have bel2 := iterAt_below hbel (Nat.le_refl _) (str xs) (pos + (Nm.dec xs pos).2)
      have hstep : ¬ Nm.bad xs pos → Nm.badFrom xs f (pos + (Nm.dec xs pos).2) = Nm.badFrom xs xs.length 0 := fun h => by rw [← hbf]; simp only [Nm.badFrom, if_pos hp, if_neg h]
      have hhit : Nm.bad xs pos → Nm.badFrom xs xs.length 0 = pos := fun h => by rw [← hbf]; simp only [Nm.badFrom, if_pos hp, if_pos h]
      have HS := Lib.hid hstep; clear hstep
      have HH := Lib.hid hhit; clear hhit
      have hg := decodeGo_drop HB.out hp
      have hx := str_extract xs pos
      rw [← hx] at hg
      have HG := Lib.hid hg; clear hg hx hit
      have HBE := Lib.hid bel2; clear bel2
      have HIT := Lib.hid hit2; clear hit2
      have hbd : Nm.bad xs pos ↔ (Nm.dec xs pos).1 = 65533 ∧ (Nm.dec xs pos).2 = 1 := by unfold Nm.bad; rw [Prod.ext_iff]
      have HBD := Lib.hid hbd; clear hbd hbf hbel
      generalize Nm.dec xs pos = d at *
      obtain ⟨d, k⟩ := d
      simp only at *
      by_cases hr : d = 65533
      · subst hr
        by_cases hk : k = 1
        · subst hk
          go_wp2_with fail
          refine (decodeRune _ _ (HT.out.below HBE.out)).mono ?_
          rintro _ w1 ⟨rfl, b1⟩
          rw [HG.out]
          go_wp2_with fail
          go_returns
          rw [HH.out (HBD.out.2 (by simp))]
          exact ⟨rfl, HBE.out.trans (b1.mono (by rw [Lib.iterAt_size]; omega))⟩
        · have hk' : ((k : Int) == 1) = false := by simp; omega
          go_wp2_with fail
          refine (decodeRune _ _ (HT.out.below HBE.out)).mono ?_
          rintro _ w1 ⟨rfl, b1⟩
          rw [HG.out]
          go_wp2_with fail
          have hi1 := iter_below HIT.out b1
          refine ⟨⟨pos + k, f, hi1, HBE.out.trans (b1.mono (by rw [Lib.iterAt_size]; omega)), HS.out (fun h => hk (HBD.out.1 h).2), by omega, by omega⟩, ?_⟩
          rw [hip]; simp only [World.iterPos, hi1]; omega
      · have hr' : ((d : Int) == 65533) = false := by simp; omega
        go_wp2_with fail
        refine ⟨⟨pos + k, f, HIT.out, HBE.out, HS.out (fun h => hr (HBD.out.1 h).1), by omega, by omega⟩, ?_⟩
        rw [hip]; simp only [World.iterPos, HIT.out]; omega
    · have hnx : ∀ ty, (Instr.next (.pointer (some ⟨w.heap.size, 0, none⟩)) true ty).run Tryd.prog wr = _ := fun ty => Lib.run_next_end_at wr w.heap.size (str xs) pos ty hit (by omega)
      have hres : Nm.badFrom xs xs.length 0 = -1 := by rw [← hbf, Nm.badFrom_end xs fuel pos hp]
      clear hit hbf
      go_wp2_with fail
      go_returns
      rw [hres]
      exact ⟨rfl, hbel⟩

end Go.Proofs.YtdlfmchpaohoaaaDoor
