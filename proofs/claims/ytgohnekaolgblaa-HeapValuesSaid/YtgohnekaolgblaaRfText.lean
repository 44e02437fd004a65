/- gimletref27.text, same, place: contracts. -/
import Derived.Test.YtgohnekaolgblaaRfNum
import Derived.Test.YtgohnekaolgblaaWdLay
import Derived.Test.YtgohnekaolgblaaRow
namespace Go.Proofs.Ytgohnekaolgblaa
open Go.RowKit

/-- A row of noughts that was just made is owned. -/
theorem Owns.row {E : TypeId} {k : IntKind} {w : World} {g n B : Nat} (h : w.rowIs g E n (fun _ => Value.int k 0)) (hB : B ≤ g) (hm : n ≤ maxLen) : Owns E k B w (.slice (some ⟨g, 0, none⟩) n n) (List.replicate n 0) := by
  have hr := row_toList h
  have hl : (List.range n).map (fun _ => Value.int k 0) = (List.replicate n (0 : Int)).map (Value.int k) := by
    apply List.ext_getElem?
    intro i
    by_cases hi : i < n <;> simp [hi]
  rw [hl] at hr
  refine ⟨by simp, .inr ⟨g, n, _, by simp, hB, hr, by simp, hm, by simp, ?_⟩⟩
  simp only [Nat.mul_one]
  exact List.take_of_length_le (by simp)

theorem Wd.add_byte (old b : Int) (j : Nat) (hj : j < 4) (h0 : 0 ≤ old) (h1 : old < 256 ^ j) (b0 : 0 ≤ b) (b1 : b ≤ 255) : (old + b % 4294967296 * 2 ^ (8 * j)) % 4294967296 = old + b * 256 ^ j := by
  rcases (show j = 0 ∨ j = 1 ∨ j = 2 ∨ j = 3 by omega) with rfl | rfl | rfl | rfl <;> simp at h1 ⊢ <;> omega

set_option maxHeartbeats 2000000 in
set_option maxRecDepth 100000 in
theorem rfText (s : ByteArray) (w : World) (hs : s.size ≤ 4096) :
    Calls Try.prog 106 #[.string s] w fun e w' => ∃ o, e = .returned o ∧ Owns 22 .u32 w.heap.size w' o (Wd.tw (Wd.byt s) ((s.size + 3) / 4)) ∧ Below w.heap.size w w' := by
  obtain ⟨i0, hi, hz0, hz1, hz2⟩ := info_parts (show (Try.prog.info? 22).map (fun i => (i.zero, i.size, i.bytes)) = some (some (.int .u32 0), 1, 4) by kernel_rfl)
  obtain ⟨m, hm⟩ : ∃ m, m = (s.size + 3) / 4 := ⟨_, rfl⟩
  rw [← hm]
  replace hm := Lib.hid hm
  have hm4 : m ≤ 1024 := by have := hm.out; omega
  have hmv : (s.size + 3 : Int).tdiv 4 = (m : Int) := by
    have := hm.out
    rw [Int.tdiv_eq_ediv_of_nonneg (by omega)]
    omega
  have hsz : ((s.size + 3 : Nat) : Int) = (s.size : Int) + 3 := by omega
  go_enter Try.func106, Try.ntmps106
  go_wp2_with (at_make; (refine make_row Try.underlying24 hi hz0 hz1 rfl rfl (.tmp 8) (.tmp 8) rfl m rfl rfl (by rw [hz2]; omega) (by omega) ?_; intro w1 R1 b1 z1; have O1 := Lib.hid (Owns.row (B := w.heap.size) R1.out (Nat.le_refl _) (by unfold maxLen; omega)); have B1 := Lib.hid b1; clear R1 b1))
  go_loopw [4] (fun q wr => ∃ i : Nat, q = .int .i64 (i : Int) ∧ i ≤ s.size ∧ Owns 22 .u32 w.heap.size wr (.slice (some ⟨w.heap.size, 0, none⟩) m m) (Wd.tw ((Wd.byt s).take i) m) ∧ Below w.heap.size w wr)
    (fun q _ => s.size - (intOf q).toNat)
  case atStart =>
    refine ⟨0, rfl, by omega, ?_, B1.out⟩
    have := O1.out
    simpa [Wd.tw_nil] using this
  case round =>
    obtain ⟨i, rfl, hi', o5, b5⟩ := hrel
    by_cases hil : i < s.size
    · have hmi : i / 4 < m := by have := hm.out; omega
      have hlen : (Wd.tw ((Wd.byt s).take i) m).length = m := Wd.tw_length _ _
      obtain ⟨g, cap5, he5, hg5, hg5', _, _, hc5⟩ := o5.cells (by intro e; rw [e] at hlen; simp at hlen; omega)
      simp only [Value.slice.injEq, Option.some.injEq, Addr.mk.injEq] at he5
      obtain ⟨⟨rfl, -, -⟩, -, rfl⟩ := he5
      have hc := hc5 (i / 4) (by rw [hlen]; omega)
      have hold : (Wd.tw ((Wd.byt s).take i) m)[i / 4]'(by rw [hlen]; omega) = Wd.wv ((((Wd.byt s).take i).drop (4 * (i / 4))).take 4) := by
        apply Option.some.inj
        rw [← List.getElem?_eq_getElem, Wd.tw_get _ _ _ hmi]
      rw [hold] at hc
      obtain ⟨old, hod⟩ : ∃ x, x = Wd.wv ((((Wd.byt s).take i).drop (4 * (i / 4))).take 4) := ⟨_, rfl⟩
      rw [← hod] at hc
      have y4 := o5.free (i / 4)
      replace hod := Lib.hid hod
      have O5 := Lib.hid o5
      have B5 := Lib.hid b5
      clear o5 b5 hc5 hold hlen
      go_wp2_with fail
      go_region
      go_wp2_with fail
      go_roundw
      case measure => simp only [intOf]; omega
      case rel =>
        have hb : (Wd.byt s)[i]'(by rw [Wd.byt_length]; exact hil) = (s[i].toNat : Int) := by simp [Wd.byt]; rfl
        have hbb := Wd.byt_byt s _ (List.getElem_mem (by rw [Wd.byt_length]; exact hil : i < (Wd.byt s).length))
        rw [hb] at hbb
        have hl4 : ((((Wd.byt s).take i).drop (4 * (i / 4))).take 4).length = i % 4 := by simp [Wd.byt_length]; omega
        have hwl := Wd.wv_lt ((((Wd.byt s).take i).drop (4 * (i / 4))).take 4) (fun n hn => Wd.byt_byt s n (List.mem_of_mem_take (List.mem_of_mem_drop (List.mem_of_mem_take hn))))
        rw [hl4, ← hod.out] at hwl
        rw [Wd.add_byte old _ (i % 4) (Nat.mod_lt _ (by decide)) hwl.1 hwl.2 hbb.1 hbb.2]
        have ho := O5.out.set (i / 4) (old + s[i].toNat * 256 ^ (i % 4))
        rw [hod.out, ← hb, ← Wd.tw_step _ _ _ (by rw [Wd.byt_length]; exact hil) hmi] at ho
        refine ⟨i + 1, rfl, by omega, ?_, (B5.out.setCell (Nat.le_refl _) _).drew⟩
        rw [hod.out, ← hb]
        exact ho
    · have hie : i = s.size := by omega
      subst hie
      have O5 := Lib.hid o5
      have B5 := Lib.hid b5
      clear o5 b5
      go_wp2_with fail
      go_returns
      refine ⟨_, rfl, ?_, B5.out⟩
      have := O5.out
      rwa [List.take_of_length_le (by rw [Wd.byt_length]; exact Nat.le_refl _)] at this

/-- gimletref27.place. -/
theorem rfPlace (a : Int) (w : World) (h0 : 0 ≤ a) (h1 : a < 4294967296) :
    Calls Try.prog 71 #[.int .u32 a] w fun e w' => e = .returned (.bool (decide (Wd.place a))) ∧ w' = w := by
  have hrem : a.tmod 4 = a % 4 := Int.tmod_eq_emod_of_nonneg h0
  go_enter Try.func71, Try.ntmps71
  go_wp2
  all_goals go_returns
  all_goals refine ⟨congrArg Ending.returned (congrArg Value.bool (Bool.eq_iff_iff.2 ?_)), rfl⟩
  all_goals simp only [decide_eq_true_eq]
  all_goals unfold Wd.place
  all_goals first | omega | (simp; omega)

set_option maxHeartbeats 1000000 in
/-- gimletref27.same. -/
theorem rfSame (va vb : Value) (xs ys : List Int) (w : World) (ha : Sees .u32 w va xs) (hb : Sees .u32 w vb ys) (hle : xs.length ≤ ys.length) :
    Calls Try.prog 108 #[va, vb] w fun e w' => e = .returned (.bool (decide (xs = ys))) ∧ Below w.heap.size w w' := by
  obtain ⟨A, c, rfl, ha1, ha2, ha3⟩ := ha
  obtain ⟨A', c', rfl, hb1, hb2, hb3⟩ := hb
  unfold maxLen at ha2 hb2
  obtain ⟨r, hr⟩ : ∃ r, r = decide (xs = ys) := ⟨_, rfl⟩
  rw [← hr]
  replace hr := Lib.hid hr
  obtain ⟨n, hn⟩ : ∃ n, n = xs.length := ⟨_, rfl⟩
  obtain ⟨n', hn'⟩ : ∃ n, n = ys.length := ⟨_, rfl⟩
  rw [← hn, ← hn']
  rw [← hn'] at hb1 hle
  rw [← hn] at ha1 hle
  have HN := Lib.hid (And.intro hn.symm hn'.symm)
  replace ha3 := Lib.hid ha3
  replace hb3 := Lib.hid hb3
  clear hn hn'
  go_enter Try.func108, Try.ntmps108
  go_wp2_with fail
  go_loopw [5] (fun q wr => ∃ i : Nat, q = .int .i64 (i : Int) ∧ i ≤ n ∧ xs.take i = ys.take i ∧ Below w.heap.size w wr) (fun q _ => n - (intOf q).toNat)
  case atStart => exact ⟨0, rfl, by omega, by simp, B.refl w⟩
  case round =>
    obtain ⟨i, rfl, hi, hpre, hbel⟩ := hrel
    by_cases hil : i < n
    · have hx : i < xs.length := by have := HN.out.1; omega
      have hy : i < ys.length := by have := HN.out.2; omega
      obtain ⟨b1, o1, rfl, hc1⟩ := ha3.out (by intro e; subst e; simp at hx)
      obtain ⟨b2, o2, rfl, hc2⟩ := hb3.out (by intro e; subst e; simp at hy)
      have d1 := cellK hbel (hc1 i hx)
      have d2 := cellK hbel (hc2 i hy)
      have HB := Lib.hid hbel
      replace hpre := Lib.hid hpre
      clear hc1 hc2 hbel
      by_cases he : xs[i] = ys[i]
      · rw [he] at d1
        go_wp2_with fail
        go_quiet (fail)
        go_wp2_with fail
        go_roundw
        case measure => simp only [intOf]; omega
        case rel =>
          refine ⟨i + 1, rfl, by omega, ?_, below_drewN HB.out _⟩
          rw [List.take_add_one, List.take_add_one, List.getElem?_eq_getElem hx, List.getElem?_eq_getElem hy, he, hpre.out]
      · have hne : decide (xs = ys) = false := by
          simp only [decide_eq_false_iff_not]
          intro e; subst e; exact he rfl
        rw [← hr.out] at hne
        replace hne := Lib.hid hne
        go_wp2_with fail
        go_quiet (fail)
        go_wp2_with fail
        go_returns
        exact ⟨by rw [hne.out]; rfl, below_drewN HB.out _⟩
    · have hie : i = n := by omega
      have he : r = decide (n = n') := by
        have h1 := HN.out.1
        have h2 := HN.out.2
        rw [hr.out]
        by_cases hnn : n = n'
        · rw [List.take_of_length_le (by omega), List.take_of_length_le (by omega)] at hpre
          simp [hpre, hnn]
        · have : xs ≠ ys := by intro e; rw [e] at h1; omega
          simp [this, hnn]
      replace he := Lib.hid he
      clear hpre
      subst hie
      have HB := Lib.hid hbel
      clear hbel
      go_wp2_with fail
      go_returns
      refine ⟨?_, HB.out⟩
      rw [he.out]
      by_cases hnn : i = n' <;> simp [hnn] <;> omega

end Go.Proofs.Ytgohnekaolgblaa
