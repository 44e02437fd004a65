/- reader.value: contract. -/
import Derived.Test.YtgohnekaolgblaaRdValC
import Derived.Test.YtgohnekaolgblaaRdValD
import Derived.Test.YtgohnekaolgblaaRdValE
import Derived.Test.YtgohnekaolgblaaRdValF
import Derived.Test.YtgohnekaolgblaaRdBound
namespace Go.Proofs.Ytgohnekaolgblaa
open Go.RowKit

theorem Wd.of_even {u : Int} {n : Int} (h : Wd.of u = (n, false)) : Wd.of u = (0, false) := by
  unfold Wd.of at h ⊢
  split at h
  · rename_i he; rw [if_pos he]
  · simp at h

theorem ValPost.bad {w : World} {br : Nat} {vl : Value} {a : Int} {e : Ending} {w' : World} {k n : Int} {nx m : Nat} (he : e = .returned (.agg #[.int .i64 k, .int .i64 n, .string ⟨#[]⟩, .slice none 0 0])) (hr : VB w' br 114 (Rd5 vl a nx m true)) (hg : GrowS (fun k => k = br) w w') : ValPost w br vl a none e w' :=
  ⟨_, _, nx, m, true, he, Tr.at_leaf _ _ _ _ _, hr, hg, rfl⟩

set_option maxHeartbeats 1000000 in
theorem wdValue (g : Nat) : ValHyp g := by
  induction g with
  | zero =>
    intro u d next many vA ls vc a br B w hdg hr hs hB hu hlr hn hm hl
    rcases hof : Wd.of u with ⟨n, is⟩
    refine (val_num u d next many vA ls.length vc a br w n is hof true (by simp; omega) (.inr rfl) hr hu (by omega) hm).mono ?_
    rintro e w' ⟨he, hr', hg⟩
    exact ValPost.bad he hr' hg
  | succ g ih =>
    intro u d next many vA ls vc a br B w hdg hr hs hB hu hlr hn hm hl
    rcases hof : Wd.of u with ⟨n, is⟩
    rw [Wd.rd, hof]
    by_cases hm2 : 16384 ≤ many
    · rw [if_pos hm2]
      refine (val_num u d next many vA ls.length vc a br w n is hof true (by simp; omega) (.inr rfl) hr hu (by omega) hm).mono ?_
      rintro e w' ⟨he, hr', hg⟩
      exact ValPost.bad he hr' hg
    rw [if_neg hm2]
    cases is
    · rw [if_neg (by simp)]
      replace hof := Wd.of_even hof
      by_cases hua : u = (a + 4 * next) % 4294967296
      · rw [if_neg (by simpa using hua)]
        by_cases hlt : next < ls.length
        · have hh : ls[next]? = some ls[next] := List.getElem?_eq_getElem hlt
          rw [hh]
          obtain ⟨h, hhd⟩ : ∃ h, h = ls[next] := ⟨_, rfl⟩
          rw [← hhd] at hh ⊢
          have hh0 := hlr h (List.mem_of_getElem? hh)
          simp only
          rcases hun : Wd.unhead h with ⟨k, n', s, is'⟩
          unfold Wd.rdBody
          rw [hun]
          simp only
          have hsz := Wd.unhead_size h
          rw [hun] at hsz
          simp only at hsz
          have hwnn : ∃ wn : Nat, (Wd.words h).1 = (wn : Int) ∧ wn ≤ 5000 := by
            cases is'
            · rw [Wd.unhead_not hun]; exact ⟨0, rfl, by omega⟩
            · rw [Wd.unhead_words hun]
              by_cases hk : k = 2
              · rw [if_pos hk]; exact ⟨(1 + (s + 3) / 4).toNat, by simp only; omega, by omega⟩
              · rw [if_neg hk]; exact ⟨(1 + s).toNat, by simp only; omega, by omega⟩
          obtain ⟨wn, hwn, hw5⟩ := hwnn
          rw [hwn]
          simp only [Int.toNat_natCast]
          by_cases hbad : is' = false ∨ ls.length < next + wn ∨ (k = 0 ∧ s = 0)
          · rw [if_pos hbad]
            refine (val_head u d next many vA ls vc a br w h k n' s is' wn hof hua hh hun hwn hbad hw5 hr B hs hB hu hh0 (by omega) (by omega) (by omega)).mono ?_
            rintro e w' ⟨he, hr', hg⟩
            exact ValPost.bad he hr' hg
          · rw [if_neg hbad]
            have hb1 : is' = true := by cases is' <;> simp_all
            have hb2 : next + wn ≤ ls.length := by omega
            have hb3 : ¬ (k = 0 ∧ s = 0) := fun e => hbad (.inr (.inr e))
            subst hb1
            have hwo := Wd.unhead_words hun
            have hok := (Wd.unhead_ok hun).1
            obtain ⟨sn, rfl⟩ := Int.eq_ofNat_of_zero_le hsz.1
            have hwv : (wn : Int) = if k = 2 then 1 + ((sn : Int) + 3) / 4 else 1 + (sn : Int) := by
              rw [← hwn, hwo]
            have hw1 : 1 ≤ wn := by split at hwv <;> omega
            have hwo' : Wd.words h = ((wn : Int), true) := by rw [hwo, ← hwv]
            have HS := hs
            obtain ⟨A', cap', he, hvc, hvm, hcc⟩ := hs
            obtain ⟨b, off, rfl, hbB, hcell⟩ := hcc (by intro e; subst e; simp at hlt)
            simp only [Value.slice.injEq] at he
            obtain ⟨rfl, -, rfl⟩ := he
            unfold maxLen at hvm
            have hc : w.cell? ⟨b, off + next, none⟩ = some (.int .u32 h) := by rw [hhd]; exact hcell next hlt
            have hlr' := hr.lt
            have hbr : ¬ b = br := by omega
            have hbw : b < w.heap.size := by omega
            obtain ⟨own, hown⟩ : ∃ own, own = (ls.drop (next + 1)).take (wn - 1) := ⟨_, rfl⟩
            rw [← hown]
            have hol : own.length = wn - 1 := by rw [hown, List.length_take, List.length_drop]; omega
            have hou : ∀ x ∈ own, 0 ≤ x ∧ x < 4294967296 := fun x hx => hlr x (by rw [hown] at hx; exact List.mem_of_mem_drop (List.mem_of_mem_take hx))
            have hoc : ∀ j (hj : j < own.length), w.cell? ⟨b, off + (next + 1) + j, none⟩ = some (.int .u32 own[j]) := by
              intro j hj
              have h1 := hcell (next + 1 + j) (by omega)
              have h2 : own[j] = ls[next + 1 + j]'(by omega) := by subst hown; simp
              rw [h2, ← h1, Nat.add_assoc off]
            have hdn : d ≤ 200 := by omega
            have hmn : many < 16384 := by omega
            by_cases hk2 : k = 2
            · subst hk2
              rw [if_pos rfl]
              rw [if_pos rfl] at hwv
              have hs4 : sn ≤ 4 * (wn - 1) := by omega
              have fin : ∀ e w', (e = .returned (.agg #[.int .i64 2, .int .i64 0, .string (str ((Wd.bys own).take sn)), .slice none 0 0]) ∧ VB w' br 114 (Rd5 (.slice (some ⟨b, off, none⟩) ls.length vc) a (next + wn) (many + 1) (Wd.late own sn (4 * own.length))) ∧ GrowS (fun k => k = br) w w') → ValPost w br (.slice (some ⟨b, off, none⟩) ls.length vc) a (Wd.rdText own sn (next + wn) (many + 1)) e w' := by
                rintro e w' ⟨he, hr', hg⟩
                have hlate : Wd.late own sn (4 * own.length) = !(((Wd.bys own).drop sn).all (fun x => x == 0)) := by
                  unfold Wd.late
                  rw [List.take_of_length_le (by rw [Wd.bys_length]; exact Nat.le_refl _)]
                refine ⟨_, .mk 2 0 (str ((Wd.bys own).take sn)) [], _, _, _, he, Tr.at_leaf _ _ _ _ _, hr', hg, ?_⟩
                unfold Wd.rdText
                rw [hlate]
                by_cases hall : ((Wd.bys own).drop sn).all (fun x => x == 0) = true
                · rw [if_pos hall, hall]; exact ⟨rfl, rfl, rfl, rfl⟩
                · rw [if_neg hall]; simpa using hall
              by_cases hcq : vc = next + 1
              · subst hcq
                exact (val_text0 u d next many b off ls a br w h n' sn wn hof hua hh hun hwo' hb2 hw1 hw5 hvc hvm hs4 own hol (Lib.hid hou) B hbB hB hr hc hbr hbw hu hh0 hdn hmn hl).mono fin
              · exact (val_text1 u d next many b off ls vc a br w h n' sn wn hof hua hh hun hwo' hb2 hw1 hw5 hvc hvm hcq hs4 own hol (Lib.hid hou) (Lib.hid hoc) B hbB hB hr hc hbr hbw hu hh0 hdn hmn hl).mono fin
            · rw [if_neg hk2]
              rw [if_neg hk2] at hwv
              obtain ⟨f, hf⟩ : ∃ f, f = fun u n m => Wd.rd ls a g u n m := ⟨_, rfl⟩
              rw [← hf]
              have HB : ∀ u n m t n' m', n ≤ ls.length → f u n m = some (t, n', m') → n' ≤ ls.length ∧ m' ≤ 16384 := by
                intro u n m t n' m' hn h
                rw [hf] at h
                exact Wd.rd_bound ls a g u n m t n' m' hn h
              have fin : ∀ (K : Int) e w', (∃ ts vL nx m bd, e = .returned (.agg #[.int .i64 K, .int .i64 n', .string ⟨#[]⟩, vL]) ∧ RowT (w.heap.size + 2) w' vL ts ∧ VB w' br 114 (Rd5 (.slice (some ⟨b, off, none⟩) ls.length vc) a nx m bd) ∧ GrowS (fun k => k = br) w w' ∧ AccPost (Wd.rdAcc f own [] (next + wn) (many + 1)) ts nx m bd) →
                  ValPost w br (.slice (some ⟨b, off, none⟩) ls.length vc) a (match Wd.rdAcc f own [] (next + wn) (many + 1) with | none => none | some (ts, n, m) => some (.mk K n' ⟨#[]⟩ ts, n, m)) e w' := by
                rintro K e w' ⟨ts, vL, nx, m, bd, he, hrow, hr', hg, hacc⟩
                refine ⟨_, .mk K n' ⟨#[]⟩ ts, nx, m, bd, he, Tr.at_mono (hrow.tree K n' ⟨#[]⟩) (fun b off h => ⟨by omega, h.2⟩), hr', hg, ?_⟩
                cases hq : Wd.rdAcc f own [] (next + wn) (many + 1) with
                | none => rw [hq] at hacc; exact hacc
                | some r =>
                  obtain ⟨ts', nx', m'⟩ := r
                  rw [hq] at hacc
                  obtain ⟨h1, h2, h3, h4⟩ := hacc
                  exact ⟨h1, by rw [h2], h3, h4⟩
              have hk01 : k = 0 ∨ k = 1 := by have := hok.1; have := hok.2.1; omega
              rcases hk01 with rfl | rfl
              · have hs0 : 0 < sn := by
                  rcases Nat.eq_zero_or_pos sn with h | h
                  · exact absurd ⟨rfl, by omega⟩ hb3
                  · exact h
                rw [if_neg (by decide)]
                exact (val_fields3 u d next many b off ls vc a br w h n' sn wn hof hua hh hun hwo' hb2 hw1 hw5 hvc hvm (by omega) hs0 own hol (Lib.hid hou) (Lib.hid hoc) B hbB hB f g (by omega) (Lib.hid hf) (Lib.hid ih) (Lib.hid HB) (Lib.hid HS) (Lib.hid hlr) hr hc hbr hbw hu hh0 hdn hmn hl).mono (fin 3)
              · rw [if_pos rfl]
                by_cases hcq : vc = next + 1
                · subst hcq
                  exact (val_fields4e u d next many b off ls a br w h n' sn wn hof hua hh hun hwo' hb2 hw1 hw5 hvc hvm own hol (Lib.hid hou) B hbB hB f hr hc hbr hbw hu hh0 hdn hmn hl).mono (fin 4)
                · exact (val_fields4 u d next many b off ls vc a br w h n' sn wn hof hua hh hun hwo' hb2 hw1 hw5 hvc hvm hcq own hol (Lib.hid hou) (Lib.hid hoc) B hbB hB f g (by omega) (Lib.hid hf) (Lib.hid ih) (Lib.hid HB) (Lib.hid HS) (Lib.hid hlr) hr hc hbr hbw hu hh0 hdn hmn hl).mono (fin 4)
        · rw [List.getElem?_eq_none (by omega)]
          refine (val_far u d next many vA ls vc a br w hof (.inr (by omega)) hr hu (by omega) (by omega) (by omega)).mono ?_
          rintro e w' ⟨he, hr', hg⟩
          exact ValPost.bad he hr' hg
      · rw [if_pos hua]
        refine (val_far u d next many vA ls vc a br w hof (.inl hua) hr hu (by omega) (by omega) (by omega)).mono ?_
        rintro e w' ⟨he, hr', hg⟩
        exact ValPost.bad he hr' hg
    · rw [if_pos rfl]
      refine (val_num u d next many vA ls.length vc a br w n true hof false (by simp; omega) (.inl rfl) hr hu (by omega) hm).mono ?_
      rintro e w' ⟨he, hr', hg⟩
      exact ⟨_, _, _, _, _, he, Tr.at_leaf _ _ _ _ _, hr', hg, rfl, rfl, rfl, rfl⟩

end Go.Proofs.Ytgohnekaolgblaa
