/- heap.place, names, fields, things: contracts. -/
import Derived.Test.YtgohnekaolgblaaHpPlain
import Derived.Test.YtgohnekaolgblaaHpMap
import Derived.Test.YtgohnekaolgblaaSees
import Derived.Test.YtgohnekaolgblaaBits
import Derived.Test.YtgohnekaolgblaaBase
namespace Go.Proofs.Ytgohnekaolgblaa
open Go.RowKit

theorem hpPlace (a : Int) (w : World) (h0 : 0 ≤ a) (h1 : a < 4294967296) : Calls Try.prog 65 #[.int .u32 a] w fun e w' => e = .returned (.bool (decide (Hp.place a))) ∧ w' = w := by
  have hm : bits .and .u32 a 7 = a % 8 := bits_mask .u32 a 3 (by decide)
  by_cases c1 : 8 ≤ a
  · by_cases c2 : a % 8 = 0
    · by_cases c3 : a ≤ 2147483648
      · rw [show decide (Hp.place a) = true by simpa using ⟨c1, c2, c3⟩]
        go_enter Try.func65, Try.ntmps65
        go_wp2
        go_returns
        exact ⟨rfl, rfl⟩
      · rw [show decide (Hp.place a) = false from decide_eq_false fun h => by have := h.2.2; omega]
        go_enter Try.func65, Try.ntmps65
        go_wp2
        go_returns
        exact ⟨rfl, rfl⟩
    · rw [show decide (Hp.place a) = false from decide_eq_false fun h => by have := h.2.1; omega]
      have c2' : (a % 8 == 0) = false := by simpa using c2
      go_enter Try.func65, Try.ntmps65
      go_wp2
      go_returns
      exact ⟨rfl, rfl⟩
  · rw [show decide (Hp.place a) = false from decide_eq_false fun h => by have := h.1; omega]
    go_enter Try.func65, Try.ntmps65
    go_wp2
    go_returns
    exact ⟨rfl, rfl⟩

/-- What names tells: the place, where the word is an address; else 0. -/
theorem hpNames (u a : Int) (w : World) (h0 : 0 ≤ u) (h1 : u < 4294967296) (k0 : 0 ≤ a) (k1 : a < 4294967296) : Calls Try.prog 67 #[.int .u32 u, .int .u32 a] w fun e w' => e = .returned (.tuple #[.int .i64 (((if Hp.isAdr a u = true then Hp.idx a u else 0 : Nat)) : Int), .bool (Hp.isAdr a u && Hp.whole a u)]) ∧ w' = w := by
  have hm : bits .and .u32 u 1 = u % 2 := bits_mask .u32 u 1 (by decide)
  have hm2 : bits .and .u32 (u - a) 3 = (u - a) % 4 := bits_mask .u32 (u - a) 2 (by decide)
  by_cases c1 : u % 2 = 1
  · rw [show Hp.isAdr a u = false by simp [Hp.isAdr]; omega]
    go_enter Try.func67, Try.ntmps67
    go_wp2
    go_returns
    exact ⟨rfl, rfl⟩
  · have c1' : (u % 2 == 1) = false := by simpa using c1
    by_cases c2 : u < a
    · rw [show Hp.isAdr a u = false by simp [Hp.isAdr]; omega]
      go_enter Try.func67, Try.ntmps67
      go_wp2
      go_returns
      exact ⟨rfl, rfl⟩
    · rw [show Hp.isAdr a u = true by simp [Hp.isAdr]; omega]
      have hi : ((Hp.idx a u : Nat) : Int) = (u - a) / 4 := by unfold Hp.idx; omega
      rw [if_pos rfl, hi, Bool.true_and]
      obtain ⟨b, hb⟩ : ∃ b, b = Hp.whole a u := ⟨_, rfl⟩
      rw [← hb]
      unfold Hp.whole at hb
      by_cases c3 : (u - a) % 4 = 0
      · obtain rfl : b = true := by rw [hb, c3]; rfl
        clear hb
        go_enter Try.func67, Try.ntmps67
        go_wp2
        go_returns
        exact ⟨rfl, rfl⟩
      · obtain rfl : b = false := by rw [hb]; simpa using c3
        clear hb
        have c3' : ((u - a) % 4 == 0) = false := by simpa using c3
        go_enter Try.func67, Try.ntmps67
        go_wp2
        go_returns
        exact ⟨rfl, rfl⟩

/-- A slice of what is seen: where its address is known, and where it is not looked at. -/
theorem Sees.cut {k : IntKind} {w : World} {b off : Nat} {xs : List Int} (h : ∀ j (hj : j < xs.length), w.cell? ⟨b, off + j, none⟩ = some (.int k xs[j])) (l n cap' : Nat) (A : Option Addr) (hA : 0 < n → A = some ⟨b, off + l, none⟩) (hl : l + n ≤ xs.length) (hc : n ≤ cap') (hm : cap' ≤ maxLen) :
    Sees k w (.slice A n cap') ((xs.drop l).take n) := by
  have e : ((xs.drop l).take n).length = n := by simp; omega
  refine ⟨A, cap', by rw [e], by rw [e]; exact hc, hm, fun hne => ?_⟩
  have hn : 0 < n := by rw [← e]; exact List.length_pos_iff.2 hne
  refine ⟨b, off + l, hA hn, fun j hj => ?_⟩
  rw [e] at hj
  have := h (l + j) (by omega)
  rw [Nat.add_assoc, this]
  simp

set_option maxHeartbeats 1000000 in
theorem hpFields (v : Value) (ls : List Int) (i : Nat) (w : World) (hv : Sees .u32 w v ls) (hr : ∀ x ∈ ls, 0 ≤ x ∧ x < 4294967296) (hh : Hp.Head ls i) :
    Calls Try.prog 68 #[v, .int .i64 (i : Int)] w fun e w' => ∃ o, e = .returned o ∧ Sees .u32 w o (Hp.fields ls i) ∧ w' = w := by
  obtain ⟨hlt, hyes, hfit⟩ := hh
  obtain ⟨hp1, hp2, hp3, hp4⟩ := Wd.words_pos hyes
  obtain ⟨A, c, rfl, h1, h2, h3⟩ := hv
  obtain ⟨b, off, rfl, hc⟩ := h3 (by intro e; subst e; simp at hlt)
  unfold maxLen at h2
  obtain ⟨h, hhd⟩ : ∃ h, h = ls[i] := ⟨_, rfl⟩
  have hrr := hr _ (List.getElem_mem hlt)
  have hci := hc i hlt
  rw [← hhd] at hrr hci hyes hfit hp1 hp2 hp3 hp4
  have hfe : Hp.fields ls i = if (Wd.unhead h).1 = 2 then [] else (ls.drop (i + 1)).take (Hp.sz h) := by
    unfold Hp.fields
    rw [List.getElem?_eq_getElem hlt, ← hhd]
  obtain ⟨kd, n, s0, ok, hun⟩ : ∃ kd n s0 ok, Wd.unhead h = (kd, n, s0, ok) := ⟨_, _, _, _, rfl⟩
  have hs0 := Wd.unhead_size h
  unfold Hp.sz at hfe hp3
  have HU : ∀ w, Calls Try.prog 48 #[.int .u32 h] w fun e w' => e = .returned (.tuple #[.int .i64 kd, .int .i64 n, .int .i64 s0, .bool ok]) ∧ w' = w := fun w => by
    have h := wdUnhead h w hrr.1 hrr.2
    rw [hun] at h
    exact h
  rw [hun] at hfe hs0 hp2 hp3
  simp only at hfe hs0 hp2 hp3
  replace HU := Lib.hid HU
  have HC := Lib.hid hc
  clear hun hhd hr hc h3
  by_cases hk : kd = 2
  · rw [if_pos hk] at hfe
    subst hk
    replace hfe := Lib.hid hfe
    go_enter Try.func68, Try.ntmps68
    go_wp2_with fail
    refine (HU.out _).mono ?_
    rintro _ w1 ⟨rfl, hw1⟩
    subst hw1
    go_wp2_with fail
    go_returns
    exact ⟨_, rfl, by rw [hfe.out]; exact Sees.nil _ _, rfl⟩
  · rw [if_neg hk] at hfe
    have hk' : (kd == 2) = false := by simpa using hk
    have hsz := hp3 hk
    obtain ⟨s, hs⟩ : ∃ s : Nat, s = s0.toNat := ⟨_, rfl⟩
    obtain rfl : s0 = (s : Int) := by omega
    rw [← hs] at hfe hsz
    clear hp3 hs
    by_cases hcq : c = i + 1
    · have hs00 : s = 0 := by omega
      subst hs00
      replace hfe := Lib.hid hfe
      go_enter Try.func68, Try.ntmps68
      go_wp2_with fail
      refine (HU.out _).mono ?_
      rintro _ w1 ⟨rfl, hw1⟩
      subst hw1
      go_wp2_with fail
      go_returns
      exact ⟨_, rfl, by rw [hfe.out]; simpa using Sees.cut HC.out (i + 1) 0 0 _ (by omega) (by omega) (by omega) (by simp), rfl⟩
    · replace hfe := Lib.hid hfe
      go_enter Try.func68, Try.ntmps68
      go_wp2_with fail
      refine (HU.out _).mono ?_
      rintro _ w1 ⟨rfl, hw1⟩
      subst hw1
      go_wp2_with fail
      go_returns
      refine ⟨_, rfl, ?_, rfl⟩
      rw [hfe.out]
      show Sees .u32 _ (.slice _ (i + 1 + s - (i + 1)) _) _
      rw [show i + 1 + s - (i + 1) = s by omega]
      exact Sees.cut HC.out (i + 1) s (c - (i + 1)) _ (by intro _; rfl) (by omega) (by omega) (by unfold maxLen; omega)

def ThingsPost (ls : List Int) (w w' : World) (v : Value) : Prop :=
  match Hp.heads ls with
  | none => v = .map none
  | some hs => ∃ b n, v = .map (some b) ∧ w.heap.size ≤ b ∧ n ≤ ls.length ∧ IsSet w' b n (Hp.mem hs)

set_option maxHeartbeats 2000000 in
set_option maxRecDepth 100000 in
theorem hpThings (v : Value) (ls : List Int) (w : World) (hv : Sees .u32 w v ls) (hr : ∀ x ∈ ls, 0 ≤ x ∧ x < 4294967296) :
    Calls Try.prog 64 #[v] w fun e w' => ∃ o, e = .returned (.tuple #[o, .bool (Hp.heads ls).isSome]) ∧ ThingsPost ls w w' o ∧ Below w.heap.size w w' := by
  obtain ⟨A, c, rfl, h1, h2, h3⟩ := hv
  unfold maxLen at h2
  obtain ⟨q, hq⟩ : ∃ q, q = Hp.heads ls := ⟨_, rfl⟩
  have hq0 : q = Hp.from ls 0 := by rw [hq]; rfl
  unfold ThingsPost
  rw [← hq]
  replace hq := Lib.hid hq
  replace hq0 := Lib.hid hq0
  replace h3 := Lib.hid h3
  replace hr := Lib.hid hr
  have hmm := @run_makeMap Try.prog
  go_enter Try.func64, Try.ntmps64
  go_wp2_with fail
  go_loopw [5] (fun p wr => ∃ (i n : Nat) (acc : List Nat), p = .int .i64 (i : Int) ∧ i ≤ ls.length ∧ n ≤ i ∧ IsSet wr w.heap.size n (Hp.mem acc) ∧ q = (Hp.from ls i).map (acc ++ ·) ∧ Below w.heap.size w wr)
    (fun p _ => ls.length - (intOf p).toNat)
  case atStart => exact ⟨0, 0, [], rfl, by omega, by omega, by rw [show Hp.mem [] = fun _ => false by funext k; simp [Hp.mem]]; exact IsSet.made w, by rw [hq0.out]; simp, (B.refl w).alloc (Nat.le_refl _) _⟩
  case round =>
    obtain ⟨i, n, acc, rfl, hi, hni, hset, hqe, hb⟩ := hrel
    by_cases hil : i < ls.length
    · obtain ⟨b, off, rfl, hc⟩ := h3.out (by intro e; subst e; simp at hil)
      have hci := cellK hb (hc i hil)
      have hri := hr.out _ (List.getElem_mem hil)
      obtain ⟨h, hh⟩ : ∃ h, h = ls[i] := ⟨_, rfl⟩
      have hbad := Hp.from_bad ls i hil
      have hnext := Hp.from_next ls i hil
      rw [← hh] at hci hri hbad hnext
      obtain ⟨wn, ok, hwd⟩ : ∃ wn ok, Wd.words h = (wn, ok) := ⟨_, _, rfl⟩
      have hpos := Wd.words_pos (h := h)
      unfold Hp.wn at hbad hnext hpos
      have HW : ∀ w, Calls Try.prog 50 #[.int .u32 h] w fun e w' => e = .returned (.tuple #[.int .i64 wn, .bool ok]) ∧ w' = w := fun w => by
        have h := wdWords h w hri.1 hri.2
        rw [hwd] at h
        exact h
      have hw0 : 0 ≤ wn ∧ wn ≤ 5000 := by
        have hs := Wd.unhead_size h
        have e : wn = (Wd.words h).1 := by rw [hwd]
        rw [e]
        unfold Wd.words
        split
        · split <;> simp only <;> omega
        · simp
      rw [hwd] at hbad hnext hpos
      simp only at hbad hnext hpos
      obtain ⟨m, rfl⟩ : ∃ m : Nat, wn = (m : Int) := ⟨wn.toNat, by omega⟩
      simp only [Int.toNat_natCast] at hbad hnext hpos
      replace HW := Lib.hid HW
      have HB := Lib.hid hb
      have HS := Lib.hid hset
      replace hqe := Lib.hid hqe
      replace hbad := Lib.hid hbad
      replace hnext := Lib.hid hnext
      clear hc hb hset hh hwd
      cases ok
      · have hn0 : q = none := by rw [hqe.out, hbad.out (.inl rfl)]; rfl
        clear hq hq0 hqe hbad hnext hpos
        subst hn0
        go_wp2_with fail
        refine (HW.out _).mono ?_
        rintro _ w1 ⟨rfl, hw1⟩
        subst hw1
        go_wp2_with fail
        go_returns
        exact ⟨_, rfl, rfl, HB.out⟩
      · by_cases hfit : ls.length < i + m
        · have hn0 : q = none := by rw [hqe.out, hbad.out (.inr hfit)]; rfl
          clear hq hq0 hqe hbad hnext hpos
          subst hn0
          go_wp2_with fail
          refine (HW.out _).mono ?_
          rintro _ w1 ⟨rfl, hw1⟩
          subst hw1
          go_wp2_with fail
          go_returns
          exact ⟨_, rfl, rfl, HB.out⟩
        · have hm1 := (hpos rfl).1
          clear hpos
          go_wp2_with fail
          refine (HW.out _).mono ?_
          rintro _ w1 ⟨rfl, hw1⟩
          subst hw1
          go_wp2_with (first | (at_mapUpdate; refine put_set _ rfl _ _ _ rfl w.heap.size n _ rfl HS.out (by unfold maxLen; omega) i (by omega) rfl rfl ?_; intro w2 hs2 hg2) | go_in)
          go_roundw
          case measure => simp only [intOf]; omega
          case rel =>
            refine ⟨i + m, n + 1, acc ++ [i], by simp, by omega, by omega, ?_, ?_, ?_⟩
            · have e : Hp.mem (acc ++ [i]) = fun j => if j = i then true else Hp.mem acc j := by
                funext j
                by_cases e : j = i <;> simp [Hp.mem, e]
              rw [e]
              exact hs2
            · rw [hqe.out, hnext.out trivial (by omega), Option.map_map]
              congr 1
              funext l
              simp
            · exact HB.out.grown hg2 (Nat.le_of_lt HS.out.lt) (fun j hj => by cases hj; exact Nat.le_refl _)
    · have hie : i = ls.length := by omega
      have hqs : q = some acc := by rw [hqe, Hp.from_end ls i (by omega)]; simp
      clear hq hq0 hqe
      subst hqs
      have HB := Lib.hid hb
      have HS := Lib.hid hset
      clear hb hset
      go_wp2_with fail
      go_returns
      exact ⟨_, rfl, ⟨w.heap.size, rfl, Nat.le_refl _, n, by omega, HS.out⟩, HB.out⟩

end Go.Proofs.Ytgohnekaolgblaa
