/- The laws NameMakes and NameLong: the walks. -/
import Derived.Test.YtdlfmchpaohoaaaDoorNmAwake
import Derived.Test.YtdlfmchpaohoaaaDoorNmOf2
import Derived.Test.YtdlfmchpaohoaaaDoorLentInts
import Derived.Test.YtdlfmchpaohoaaaDoorSame
namespace Go.Proofs.YtdlfmchpaohoaaaDoor
open Go.RowKit

theorem Nm.ofRes_byt (l : List Int) : Byt (Nm.ofRes l).1 := by
  unfold Nm.ofRes
  by_cases h : l.all Nm.isRune = true
  · rw [if_pos h]; exact Nm.ofs_byt (List.all_eq_true.1 h)
  · rw [if_neg h]; intro n hn; simp at hn

theorem Nm.put_byt {xs : List Int} (hb : Byt xs) : Byt (Nm.put xs).1 := by
  unfold Nm.put
  by_cases h : 1048576 < (xs.length : Int)
  · rw [if_pos h]; intro n hn; simp at hn
  · rw [if_neg h]
    by_cases h1 : 0 ≤ Nm.badAt xs
    · rw [if_pos h1]; intro n hn; simp at hn
    · rw [if_neg h1]; exact Byt.append (Leb.putU_byte4 _ (by omega) (by omega)) hb

set_option maxRecDepth 100000 in
set_option maxHeartbeats 4000000 in
theorem nameMakes_small (v : Value) (l : List Int) (xs : List Int) (w : World) (hv : Sees .i64 w v l) (hb : Byt xs) (hT : Tabs w) (hl : l.length ≤ 500) (hm : xs.length ≤ 2000) :
    Calls Tryd.prog 6 #[v, .string (str xs)] w fun e w' => e = .returned (.bool true) ∧ Below w.heap.size w w' := by
  obtain ⟨A, cap, rfl, _, _⟩ := hv.len
  have HV := Lib.hid hv; clear hv
  have HB := Lib.hid hb; clear hb
  have HT := Lib.hid hT; clear hT
  have h1 : ¬ 500 < (l.length : Int) := by omega
  have h2 : ¬ 2000 < (xs.length : Int) := by omega
  have hss := str_size xs
  have Y1 := Lib.hid (Nm.ofRes_byt l)
  have Y2 := Lib.hid (Nm.put_byt HB.out)
  obtain ⟨L, hL⟩ : ∃ L, L = (Nm.ofRes l).1 := ⟨_, rfl⟩
  obtain ⟨E, hE⟩ : ∃ E, E = (Nm.ofRes l).2 := ⟨_, rfl⟩
  obtain ⟨M, hM⟩ : ∃ M, M = (Nm.put xs).1 := ⟨_, rfl⟩
  obtain ⟨F, hF⟩ : ∃ F, F = (Nm.put xs).2 := ⟨_, rfl⟩
  rw [← hL] at Y1
  rw [← hM] at Y2
  have HL := Lib.hid hL; have HE := Lib.hid hE; have HM := Lib.hid hM; have HF := Lib.hid hF
  clear hL hE hM hF
  go_enter Tryd.func6, Tryd.ntmps6
  go_wp2_with fail
  refine (lentInts _ l _ HV.out (by omega)).mono ?_
  rintro _ w1 ⟨⟨v1, rfl, o1⟩, b1⟩
  obtain ⟨A1, k1, rfl, _, _⟩ := o1.len
  have O1 := Lib.hid o1; have B1 := Lib.hid b1; have T1 := Lib.hid (HT.out.below b1); clear o1 b1
  go_wp2_with fail
  refine (nmOf _ l _ O1.out (by omega)).mono ?_
  rintro _ w2 ⟨⟨v2, rfl, o2⟩, b2⟩
  rw [← HL.out] at o2
  rw [← HE.out]
  obtain ⟨A2, k2, rfl, _, _⟩ := o2.len
  have O2 := Lib.hid o2; have B2 := Lib.hid (B.call B1.out b2); have T2 := Lib.hid (T1.out.below b2); clear o2 b2
  go_wp2_with fail
  refine (refOf _ l _ (HV.out.below B2.out (Nat.le_refl _)) (by omega)).mono ?_
  rintro _ w3 ⟨⟨v3, rfl, o3⟩, b3⟩
  rw [← HL.out] at o3
  rw [← HE.out]
  obtain ⟨A3, k3, rfl, _, _⟩ := o3.len
  have O3 := Lib.hid o3; have B3 := Lib.hid (B.call B2.out b3); have T3 := Lib.hid (T2.out.below b3); have O23 := Lib.hid (O2.out.below b3 (Nat.le_refl _)); clear o3 b3
  go_wp2_with fail
  refine (nmPut xs _ HB.out T3.out (by omega)).mono ?_
  rintro _ w4 ⟨⟨v4, rfl, o4⟩, b4⟩
  rw [← HM.out] at o4
  rw [← HF.out]
  obtain ⟨A4, k4, rfl, _, _⟩ := o4.len
  have O4 := Lib.hid o4; have B4 := Lib.hid (B.call B3.out b4); have T4 := Lib.hid (T3.out.below b4); have O24 := Lib.hid (O23.out.below b4 (Nat.le_refl _)); have O34 := Lib.hid (O3.out.below b4 (Nat.le_refl _)); clear o4 b4
  go_wp2_with fail
  refine (refPut xs _ HB.out (by omega)).mono ?_
  rintro _ w5 ⟨⟨v5, rfl, o5⟩, b5⟩
  rw [← HM.out] at o5
  rw [← HF.out]
  obtain ⟨A5, k5, rfl, _, _⟩ := o5.len
  have O5 := Lib.hid o5; have B5 := Lib.hid (B.call B4.out b5); have T5 := Lib.hid (T4.out.below b5); have O25 := Lib.hid (O24.out.below b5 (Nat.le_refl _)); have O35 := Lib.hid (O34.out.below b5 (Nat.le_refl _)); have O45 := Lib.hid (O4.out.below b5 (Nat.le_refl _)); clear o5 b5
  go_wp2_with fail
  refine (sameBytes O25.out O35.out Y1.out Y1.out true (by simp)).mono ?_
  rintro _ _ ⟨rfl, rfl⟩
  go_wp2_with fail
  refine (sameBytes O45.out O5.out Y2.out Y2.out true (by simp)).mono ?_
  rintro _ _ ⟨rfl, rfl⟩
  go_wp2_with fail
  refine (awake02 _ T5.out).mono ?_
  rintro _ w6 ⟨rfl, b6⟩
  go_wp2_with fail
  go_returns
  exact ⟨rfl, B.call B5.out b6⟩

theorem nameMakes_big (v : Value) (l : List Int) (xs : List Int) (w : World) (hv : Sees .i64 w v l) (h : 500 < l.length ∨ 2000 < xs.length) :
    Calls Tryd.prog 6 #[v, .string (str xs)] w fun e w' => e = .returned (.bool true) ∧ Below w.heap.size w w' := by
  obtain ⟨A, cap, rfl, _, _⟩ := hv.len
  have hss := str_size xs
  clear hv
  by_cases h1 : 500 < (l.length : Int)
  · clear h
    go_enter Tryd.func6, Tryd.ntmps6
    go_wp2_with fail
    go_returns
    exact ⟨rfl, Below.refl _ _⟩
  · have h2 : 2000 < (xs.length : Int) := by omega
    clear h
    go_enter Tryd.func6, Tryd.ntmps6
    go_wp2_with fail
    go_returns
    exact ⟨rfl, Below.refl _ _⟩

theorem nameMakesWalk (a : Option Addr) (len cap : Nat) (zs : List Int) (s : ByteArray) (w : World) (hT : Tabs w) (h1 : IsRow .i64 w a len cap zs) :
    Calls Tryd.prog 6 #[.slice a len cap, .string s] w fun e w' => e = .returned (.bool true) ∧ Below w.heap.size w w' := by
  obtain ⟨s1, l1, b1⟩ := h1.sees
  rw [← str_bts s]
  by_cases h : (zs.take len).length ≤ 500 ∧ (bts s).length ≤ 2000
  · exact nameMakes_small _ _ _ w s1 (bts_byt s) hT h.1 h.2
  · exact nameMakes_big _ _ _ w s1 (by omega)

theorem Nm.badFrom_ascii (xs : List Int) (h : ∀ j, Nm.bt xs j < 128) : ∀ f p, Nm.badFrom xs f p = -1
  | 0, p => rfl
  | f + 1, p => by
    simp only [Nm.badFrom]
    by_cases hp : p < xs.length
    · have hd : Nm.dec xs p = (Nm.bt xs p, 1) := by unfold Nm.dec Lib.decodeN; rw [if_pos (h p)]
      have hnb : ¬ Nm.bad xs p := by
        unfold Nm.bad; rw [hd]; intro hh
        have := (Prod.mk.inj hh).1
        have := h p
        omega
      rw [if_pos hp, if_neg hnb]
      exact Nm.badFrom_ascii xs h f _
    · rw [if_neg hp]

/-- So many noughts. -/
theorem zeros (N : Nat) : ∃ xs : List Int, xs.length = N ∧ Byt xs ∧ Nm.badAt xs = -1 ∧ ∀ j (hj : j < xs.length), xs[j] = 0 := by
  refine ⟨List.replicate N 0, by simp, ?_, ?_, fun j hj => by simp⟩
  · intro n hn; rw [List.mem_replicate] at hn; omega
  · refine Nm.badFrom_ascii _ (fun j => ?_) _ _
    unfold Nm.bt
    rw [List.getD_eq_getElem?_getD, List.getElem?_replicate]
    split <;> simp

set_option maxHeartbeats 2000000 in
theorem nameLongWalk (one : Bool) (w : World) (hT : Tabs w) :
    Calls Tryd.prog 5 #[.bool one] w fun e w' => e = .returned (.bool true) ∧ Below w.heap.size w w' := by
  obtain ⟨i0, hi, hz0, hz1, hz2⟩ := info_parts Tryd.infoU8
  have HT := Lib.hid hT; clear hT
  cases one with
  | true =>
    obtain ⟨xs, hx, hb, hbad, h0⟩ := zeros 1048577
    have hput : Nm.put xs = ([], 3) := by unfold Nm.put; rw [if_pos (by omega)]
    have HP := Lib.hid hput; have HX := Lib.hid hx; have HB := Lib.hid hb; have H0 := Lib.hid h0
    clear hput hx hb hbad h0
    go_enter Tryd.func5, Tryd.ntmps5
    go_wp2_with (at_make; refine make_row Tryd.underlying22 hi hz0 hz1 rfl rfl (.tmp 10) (.tmp 10) rfl 1048577 rfl rfl (by rw [hz2]; omega) (by omega) ?_; intro w1 R1 b1 z1; have s1 : Sees .u8 w1 (.slice (some ⟨w.heap.size, 0, none⟩) 1048577 1048577) xs := (by have := row_sees R1.out xs 1048577 (by rw [HX.out]; exact Nat.le_refl _) (by rw [HX.out]; exact Nat.le_refl _) (by unfold maxLen; omega) (fun j hj => by rw [H0.out j hj]); rwa [HX.out] at this); have e1 := run_str (P := Tryd.prog) (T := 22) (E := 5) (S := 9) Tryd.underlying22 Tryd.underlying5 Tryd.underlying9 s1; have B1 := Lib.hid b1; have T1 := Lib.hid (HT.out.below b1); clear b1 R1 s1 z1)
    refine (nmPut xs _ HB.out T1.out (by rw [HX.out]; omega)).mono ?_
    rintro _ w2 ⟨⟨v2, rfl, o2⟩, b2⟩
    rw [HP.out] at o2 ⊢
    obtain ⟨A2, k2, rfl, _, _⟩ := o2.len
    have B2 := Lib.hid (B.call B1.out b2); have T2 := Lib.hid (T1.out.below b2); clear o2 b2
    go_wp2_with fail
    refine (awake02 _ T2.out).mono ?_
    rintro _ w3 ⟨rfl, b3⟩
    go_wp2_with fail
    go_returns
    exact ⟨rfl, B.call B2.out b3⟩
  | false =>
    obtain ⟨xs, hx, hb, hbad, h0⟩ := zeros 1048576
    have hput : Nm.put xs = (Leb.putU 4 xs.length ++ xs, 0) := by unfold Nm.put; rw [if_neg (by omega), if_neg (by omega)]
    have hlen : (Leb.putU 4 xs.length ++ xs).length = 1048579 := by
      have h3 : (Leb.putU 4 1048576).length = 3 := by decide
      have hz : (xs.length : Int) = 1048576 := by omega
      rw [List.length_append, hz, h3, hx]
    obtain ⟨L, hL⟩ : ∃ L, L = Leb.putU 4 xs.length ++ xs := ⟨_, rfl⟩
    rw [← hL] at hput hlen
    have hlz : (L.length : Int) = 1048579 := by omega
    have HP := Lib.hid hput; have HX := Lib.hid hx; have HB := Lib.hid hb; have H0 := Lib.hid h0; have HLZ := Lib.hid hlz
    clear hput hx hb hbad h0 hlen hL hlz
    go_enter Tryd.func5, Tryd.ntmps5
    go_wp2_with (at_make; refine make_row Tryd.underlying22 hi hz0 hz1 rfl rfl (.tmp 10) (.tmp 10) rfl 1048576 rfl rfl (by rw [hz2]; omega) (by omega) ?_; intro w1 R1 b1 z1; have s1 : Sees .u8 w1 (.slice (some ⟨w.heap.size, 0, none⟩) 1048576 1048576) xs := (by have := row_sees R1.out xs 1048576 (by rw [HX.out]; exact Nat.le_refl _) (by rw [HX.out]; exact Nat.le_refl _) (by unfold maxLen; omega) (fun j hj => by rw [H0.out j hj]); rwa [HX.out] at this); have e1 := run_str (P := Tryd.prog) (T := 22) (E := 5) (S := 9) Tryd.underlying22 Tryd.underlying5 Tryd.underlying9 s1; have B1 := Lib.hid b1; have T1 := Lib.hid (HT.out.below b1); clear b1 R1 s1 z1)
    refine (nmPut xs _ HB.out T1.out (by rw [HX.out]; omega)).mono ?_
    rintro _ w2 ⟨⟨v2, rfl, o2⟩, b2⟩
    rw [HP.out] at o2 ⊢
    obtain ⟨A2, k2, rfl, _, _⟩ := o2.len
    have B2 := Lib.hid (B.call B1.out b2); have T2 := Lib.hid (T1.out.below b2); clear o2 b2
    have hlz := HLZ.out
    go_wp2_with fail
    refine (awake02 _ T2.out).mono ?_
    rintro _ w3 ⟨rfl, b3⟩
    go_wp2_with fail
    go_returns
    exact ⟨rfl, B.call B2.out b3⟩

end Go.Proofs.YtdlfmchpaohoaaaDoor
