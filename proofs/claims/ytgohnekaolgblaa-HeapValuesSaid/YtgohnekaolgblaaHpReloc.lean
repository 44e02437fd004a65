/- gimletlaw29.relocated: contract. -/
import Derived.Test.YtgohnekaolgblaaHpLow
namespace Go.Proofs.Ytgohnekaolgblaa
open Go.RowKit

def Hp.fpos (ls : List Int) (hs : List Nat) (p : Nat) : Bool := hs.any (fun h => decide (h < p) && decide (p < h + 1 + (Hp.fields ls h).length))
def Hp.shift (a to x : Int) : Int := if x % 2 = 0 ∧ a ≤ x then (x - a + to) % 4294967296 else x
/-- The words, shifted below a bound. -/
structure Hp.Rl (ls : List Int) (hs : List Nat) (a to : Int) (b : Nat) (out : List Int) : Prop where
  len : out.length = ls.length
  val : ∀ p, out[p]? = (ls[p]?).map (fun x => if Hp.fpos ls hs p = true ∧ p < b then Hp.shift a to x else x)
theorem Hp.Rl.mono {ls : List Int} {hs : List Nat} {a to : Int} {b b' : Nat} {out : List Int} (h : Hp.Rl ls hs a to b out) (hb : b ≤ b') (hn : ∀ p, b ≤ p → p < b' → Hp.fpos ls hs p = false) : Hp.Rl ls hs a to b' out := by
  refine ⟨h.len, fun p => ?_⟩
  rw [h.val p]
  cases ls[p]? with
  | none => rfl
  | some x =>
    simp only [Option.map_some]
    by_cases hf : Hp.fpos ls hs p = true
    · by_cases hp : p < b
      · rw [if_pos ⟨hf, hp⟩, if_pos ⟨hf, by omega⟩]
      · rw [if_neg (fun h => hp h.2)]
        by_cases hp' : p < b'
        · rw [hn p (by omega) hp'] at hf; cases hf
        · rw [if_neg (fun h => hp' h.2)]
    · rw [if_neg (fun h => hf h.1), if_neg (fun h => hf h.1)]
theorem Hp.Rl.set {ls : List Int} {hs : List Nat} {a to : Int} {b : Nat} {out : List Int} (h : Hp.Rl ls hs a to b out) {x : Int} (hx : ls[b]? = some x) (hf : Hp.fpos ls hs b = true) : Hp.Rl ls hs a to (b + 1) (out.set b (Hp.shift a to x)) := by
  have hlt : b < ls.length := (List.getElem?_eq_some_iff.1 hx).1
  refine ⟨by rw [List.length_set]; exact h.len, fun p => ?_⟩
  by_cases e : p = b
  · subst e
    rw [List.getElem?_set_self (by rw [h.len]; exact hlt), hx]
    simp only [Option.map_some]
    rw [if_pos ⟨hf, by omega⟩]
  · rw [List.getElem?_set_ne (fun h => e h.symm), h.val p]
    cases ls[p]? with
    | none => rfl
    | some y =>
      simp only [Option.map_some]
      by_cases hp : Hp.fpos ls hs p = true ∧ p < b
      · rw [if_pos hp, if_pos ⟨hp.1, by omega⟩]
      · rw [if_neg hp, if_neg (fun h => hp ⟨h.1, by omega⟩)]
theorem Hp.Rl.keep {ls : List Int} {hs : List Nat} {a to : Int} {b : Nat} {out : List Int} (h : Hp.Rl ls hs a to b out) {x : Int} (hx : ls[b]? = some x) (hf : Hp.fpos ls hs b = true) (hs' : Hp.shift a to x = x) : Hp.Rl ls hs a to (b + 1) out := by
  have h2 := h.set hx hf
  rw [hs'] at h2
  have hv := h.val b
  rw [hx, Option.map_some, if_neg (fun h => by have := h.2; omega)] at hv
  obtain ⟨hlt, hg⟩ := List.getElem?_eq_some_iff.1 hv
  rw [← hg, List.set_getElem_self] at h2
  exact h2

/-- What is known of the heads, where the next one is i. -/
structure Hp.At (ls : List Int) (hs : List Nat) (i : Nat) (done rest : List Nat) : Prop where
  all : hs = done ++ rest
  from_ : Hp.from ls i = some rest
  before : ∀ h ∈ done, h + Hp.wnAt ls h ≤ i
  head : ∀ h ∈ done, Hp.Head ls h
theorem Hp.At.start {ls : List Int} {hs : List Nat} (h : Hp.heads ls = some hs) : Hp.At ls hs 0 [] hs := ⟨rfl, h, fun _ h => (by cases h), fun _ h => (by cases h)⟩
theorem Hp.At.fpos_lo {ls : List Int} {hs : List Nat} {i : Nat} {done rest : List Nat} (h : Hp.At ls hs i done rest) (p : Nat) (hp : i ≤ p) : Hp.fpos ls hs p = rest.any (fun h => decide (h < p) && decide (p < h + 1 + (Hp.fields ls h).length)) := by
  unfold Hp.fpos
  rw [h.all, List.any_append]
  have : done.any (fun h => decide (h < p) && decide (p < h + 1 + (Hp.fields ls h).length)) = false := by
    rw [List.any_eq_false]
    intro k hk
    have h1 := h.before k hk
    have h2 := Hp.fields_fit (h.head k hk)
    simp only [Bool.and_eq_true, decide_eq_true_eq, not_and]
    intro _
    omega
  rw [this, Bool.false_or]
theorem Hp.At.here {ls : List Int} {hs : List Nat} {i : Nat} {done rest : List Nat} (h : Hp.At ls hs i done rest) (hi : i < ls.length) : ∃ rest', rest = i :: rest' ∧ Hp.Head ls i ∧ Hp.At ls hs (i + Hp.wnAt ls i) (done ++ [i]) rest' ∧ ∀ p, i ≤ p → p < i + Hp.wnAt ls i → Hp.fpos ls hs p = (decide (i < p) && decide (p < i + 1 + (Hp.fields ls i).length)) := by
  have hf := h.from_
  by_cases hb : (Wd.words ls[i]).2 = false ∨ ls.length < i + Hp.wn ls[i]
  · rw [Hp.from_bad ls i hi hb] at hf; cases hf
  · simp only [not_or] at hb
    have hw : (Wd.words ls[i]).2 = true := by simpa using hb.1
    rw [Hp.from_next ls i hi hw (by omega)] at hf
    obtain ⟨rest', h1, rfl⟩ := Option.map_eq_some_iff.1 hf
    have hhd : Hp.Head ls i := ⟨hi, hw, by omega⟩
    have hwe : Hp.wn ls[i] = Hp.wnAt ls i := (Hp.thing_head hhd).1.symm
    rw [hwe] at h1
    refine ⟨rest', rfl, hhd, ⟨by rw [h.all]; simp, h1, fun k hk => ?_, fun k hk => ?_⟩, fun p hp1 hp2 => ?_⟩
    · rcases List.mem_append.1 hk with hk | hk
      · have := h.before k hk; omega
      · simp only [List.mem_singleton] at hk; subst hk; exact Nat.le_refl _
    · rcases List.mem_append.1 hk with hk | hk
      · exact h.head k hk
      · simp only [List.mem_singleton] at hk; subst hk; exact hhd
    · rw [h.fpos_lo p hp1, List.any_cons]
      have : rest'.any (fun h => decide (h < p) && decide (p < h + 1 + (Hp.fields ls h).length)) = false := by
        rw [List.any_eq_false]
        intro k hk
        have := (Hp.from_head ls _ _ _ (Nat.le_refl _) h1 k hk).1
        simp only [Bool.and_eq_true, decide_eq_true_eq, not_and]
        intro _
        omega
      rw [this, Bool.or_false]

set_option maxHeartbeats 4000000 in
set_option maxRecDepth 100000 in
theorem hpReloc (v : Value) (ls : List Int) (hs : List Nat) (a to : Int) (w : World) (hhs : Hp.heads ls = some hs) (hv : Sees .u32 w v ls) (hr : ∀ x ∈ ls, 0 ≤ x ∧ x < 4294967296) (hll : ls.length ≤ 65536) (ha : 0 ≤ a ∧ a < 4294967296) :
    Calls Try.prog 29 #[v, .int .u32 a, .int .u32 to] w fun e w' => ∃ o out, e = .returned o ∧ Owns 22 .u32 w.heap.size w' o out ∧ Below w.heap.size w w' ∧ Hp.Rl ls hs a to ls.length out := by
  obtain ⟨A, c, rfl, h1, h2⟩ := hv.len
  unfold maxLen at h2
  obtain ⟨i0, hi0, hz0, hz1, hz2⟩ := info_parts (show (Try.prog.info? 22).map (fun i => (i.zero, i.size, i.bytes)) = some (some (.int .u32 0), 1, 4) by kernel_rfl)
  have hla := Lib.hid (hv.alloc (.cells #[] 22))
  have hown := Lib.hid (Owns.empty 22 .u32 w)
  obtain ⟨_, _, he, _, _, h3⟩ := hv
  simp only [Value.slice.injEq] at he
  obtain ⟨rfl, -, rfl⟩ := he
  replace h3 := Lib.hid h3
  replace hr := Lib.hid hr
  have AT0 := Lib.hid (Hp.At.start hhs)
  clear hhs
  go_enter Try.func29, Try.ntmps29
  go_wp2_with (first
    | (at_builtin; refine app_at (B := w.heap.size) (xs := []) (ys := ls) Try.underlying24 hi0 hz0 hz1 hz2 rfl (.tmp 17) (.tmp 18) rfl rfl rfl hla.out hown.out (by simp) (by simp; omega) (by unfold maxLen; simp; omega) ?_; intro v1 w1 own1 g1 _)
    | fail)
  rw [List.nil_append] at own1
  obtain ⟨A1, c1, rfl, d1, d2⟩ := own1.sees.len
  unfold maxLen at d2
  have BW1 := Lib.hid ((B.alloc (B.refl w) (.cells #[] 22)).grown g1 (by simp) (fun g hg => (hown.out.lt g hg).1))
  have OWN1 := Lib.hid own1
  have RL0 : Hp.Rl ls hs a to 0 ls := ⟨rfl, fun p => by
    cases ls[p]? with
    | none => rfl
    | some x => simp⟩
  replace RL0 := Lib.hid RL0
  clear own1 g1 hown hla
  go_wp2_with fail
  go_loopw [8] (fun p wr => ∃ (i : Nat) (done rest : List Nat) (out : List Int), p = .int .i64 (i : Int) ∧ i ≤ ls.length ∧ Hp.At ls hs i done rest ∧ Hp.Rl ls hs a to i out ∧ Owns 22 .u32 w.heap.size wr (.slice A1 ls.length c1) out ∧ Below w.heap.size w wr)
    (fun p _ => ls.length - (intOf p).toNat)
  case atStart => exact ⟨0, [], hs, ls, rfl, by omega, AT0.out, RL0.out, OWN1.out, BW1.out⟩
  case round =>
    obtain ⟨i, done, rest, out, rfl, hi, hat, hrl, own, hb⟩ := hrel
    clear AT0 RL0 OWN1 BW1
    by_cases hil : i < ls.length
    · obtain ⟨b, off, rfl, hc⟩ := h3.out (by intro e; subst e; simp at hil)
      have hci := cellK hb (hc i hil)
      have hri := hr.out _ (List.getElem_mem hil)
      obtain ⟨rest', rfl, hhd, hat', hfp⟩ := hat.here hil
      have hfit := Hp.fields_fit hhd
      have hwl := hhd.fits
      have hyes := hhd.yes
      rw [← (Hp.thing_head hhd).1] at hwl
      have hwa := (Hp.thing_head hhd).1
      obtain ⟨wn, hwn⟩ : ∃ x, x = Hp.wnAt ls i := ⟨_, rfl⟩
      rw [← hwn] at hfit hwl hwa hat' hfp
      have hget : ∀ k, k < (Hp.fields ls i).length → ls[i + 1 + k]? = some (Hp.fields ls i)[k]! := fun k hk => by rw [getElem!_def, List.getElem?_eq_getElem hk, Hp.fields_get hk]
      have hfe : Hp.fields ls i = if (Wd.unhead ls[i]).1 = 2 then [] else (ls.drop (i + 1)).take (Hp.sz ls[i]) := by
        unfold Hp.fields
        rw [List.getElem?_eq_getElem hil]
      obtain ⟨h, hh⟩ : ∃ h, h = ls[i] := ⟨_, rfl⟩
      rw [← hh] at hci hri hyes hfe hwa
      obtain ⟨p1, p2, p3, p4⟩ := Wd.words_pos hyes
      obtain ⟨kd, nn, s0, okk, hun⟩ : ∃ kd nn s0 okk, Wd.unhead h = (kd, nn, s0, okk) := ⟨_, _, _, _, rfl⟩
      have hs0 := Wd.unhead_size h
      have HU : ∀ w, Calls Try.prog 49 #[.int .u32 h] w fun e w' => e = .returned (.tuple #[.int .i64 kd, .int .i64 nn, .int .i64 s0, .bool okk]) ∧ w' = w := fun w => by
        have h := refUnhead h w hri.1 hri.2
        rw [hun] at h
        exact h
      have HW : ∀ w, Calls Try.prog 51 #[.int .u32 h] w fun e w' => e = .returned (.tuple #[.int .i64 (wn : Int), .bool true]) ∧ w' = w := fun w => by
        have h' := refWords h w hri.1 hri.2
        rw [hyes] at h'
        have e : (Wd.words h).1 = (wn : Int) := by
          have h1 := p1
          rw [hwa]; unfold Hp.wn at h1 ⊢; omega
        rw [e] at h'
        exact h'
      unfold Hp.sz at hfe
      rw [hun] at hfe hs0
      simp only at hfe hs0
      obtain ⟨s, hs⟩ : ∃ s : Nat, s0 = (s : Int) := ⟨s0.toNat, by omega⟩
      subst hs
      simp only [Int.toNat_natCast] at hfe
      replace HU := Lib.hid HU
      replace HW := Lib.hid HW
      replace hat' := Lib.hid hat'
      replace hfp := Lib.hid hfp
      replace hget := Lib.hid hget
      have HB := Lib.hid hb
      have OWN := Lib.hid own
      obtain ⟨fl, hfl⟩ : ∃ n, n = (Hp.fields ls i).length := ⟨_, rfl⟩
      rw [← hfl] at hfit hfp hget
      have hfl2 : (kd = 2 → fl = 0) ∧ (kd ≠ 2 → fl = s) := by
        refine ⟨fun e => by rw [hfl, hfe, if_pos e]; rfl, fun e => ?_⟩
        have h2 := p3 (by rw [hun]; exact e)
        unfold Hp.sz at h2
        rw [hun] at h2
        simp only [Int.toNat_natCast] at h2
        rw [hfl, hfe, if_neg e, List.length_take, List.length_drop]
        have := hhd.fits
        rw [← hh] at this
        omega
      have RL1 := Lib.hid (hrl.mono (b' := i + 1) (by omega) (fun p h1 h2 => by
        have hpi : p = i := by omega
        subst hpi
        rw [hfp.out p (Nat.le_refl _) (by omega)]
        rw [show decide (p < p) = false by simp, Bool.false_and]))
      clear hb own hc hh hwn hwa hat hhd hrl hun hfe hfl p2 p3 hyes p1 p4
      go_wp2_with fail
      refine (HU.out _).mono ?_
      rintro _ w2 ⟨rfl, hw2⟩
      subst hw2
      go_wp2_with fail
      refine (HW.out _).mono ?_
      rintro _ w2 ⟨rfl, hw2⟩
      subst hw2
      by_cases hk : kd = 2
      · subst hk
        have hfl0 := hfl2.1 rfl
        go_wp2_with fail
        go_loopw [15] (fun p wr => p = .int .i64 0 ∧ Owns 22 .u32 w.heap.size wr (.slice A1 ls.length c1) out ∧ Below w.heap.size w wr) (fun p _ => 1 - (intOf p).toNat)
        case atStart => exact ⟨rfl, OWN.out, HB.out⟩
        case round =>
          obtain ⟨rfl, own, hb⟩ := hrel
          have OWN' := Lib.hid own
          have HB' := Lib.hid hb
          clear own hb OWN HB
          go_wp2_with fail
          go_roundw
          case measure => simp only [intOf]; omega
          case rel =>
            refine ⟨i + wn, _, _, out, by simp, by omega, hat'.out, RL1.out.mono (by omega) (fun p h1 h2 => ?_), OWN'.out, HB'.out⟩
            rw [hfp.out p (by omega) (by omega)]
            simp
            omega
          case roundEnd =>
            refine ⟨⟨i + wn, _, _, out, by simp, by omega, hat'.out, RL1.out.mono (by omega) (fun p h1 h2 => ?_), OWN'.out, HB'.out⟩, by simp only [intOf]; omega⟩
            rw [hfp.out p (by omega) (by omega)]
            simp
            omega
      · have hfls := hfl2.2 hk
        subst hfls
        have hk' : (kd == 2) = false := by simpa using hk
        go_wp2_with fail
        go_loopw [15] (fun p wr => ∃ (k : Nat) (out : List Int), p = .int .i64 (k : Int) ∧ k ≤ fl ∧ Hp.Rl ls hs a to (i + 1 + k) out ∧ Owns 22 .u32 w.heap.size wr (.slice A1 ls.length c1) out ∧ Below w.heap.size w wr) (fun p _ => fl - (intOf p).toNat)
        case atStart => exact ⟨0, out, rfl, by omega, RL1.out, OWN.out, HB.out⟩
        case round =>
          clear OWN HB RL1
          obtain ⟨k, out, rfl, hkl, hrl, own, hb⟩ := hrel
          by_cases hks : k < fl
          · have hlt : i + 1 + k < ls.length := by omega
            have hxg : ls[i + 1 + k]? = some ls[i + 1 + k] := List.getElem?_eq_getElem hlt
            have hxr := hr.out _ (List.getElem_mem hlt)
            have hov := hrl.val (i + 1 + k)
            obtain ⟨x, hx⟩ : ∃ x, x = ls[i + 1 + k] := ⟨_, rfl⟩
            rw [← hx] at hxg hxr
            rw [hxg, Option.map_some, if_neg (fun h => by have := h.2; omega)] at hov
            obtain ⟨hol, hoe⟩ := List.getElem?_eq_some_iff.1 hov
            have hfpk : Hp.fpos ls hs (i + 1 + k) = true := by
              rw [hfp.out _ (by omega) (by omega)]
              simp
              omega
            obtain ⟨g, cg, hge, _, _, _, _, hgc⟩ := own.cells (by intro e; rw [e] at hol; simp at hol)
            simp only [Value.slice.injEq] at hge
            obtain ⟨rfl, -, -⟩ := hge
            have hcx := hgc _ hol
            rw [hoe] at hcx
            have hfz := own.free (i + 1 + k)
            have RL := Lib.hid hrl
            have OWN := Lib.hid own
            have HB := Lib.hid hb
            have hrem : x.tmod 2 = x % 2 := Int.tmod_eq_emod_of_nonneg hxr.1
            replace hfpk := Lib.hid hfpk
            replace hxg := Lib.hid hxg
            clear hrl own hb hgc hx hov hol hoe
            by_cases e1 : x % 2 = 0
            · by_cases e2 : a ≤ x
              · have hsh : Hp.shift a to x = (x - a + to) % 4294967296 := by unfold Hp.shift; rw [if_pos ⟨e1, e2⟩]
                replace hsh := Lib.hid hsh
                go_wp2_with fail
                go_roundw
                case measure => simp only [intOf]; omega
                case rel =>
                  refine ⟨k + 1, out.set (i + 1 + k) (Hp.shift a to x), by simp, by omega, RL.out.set hxg.out hfpk.out, ?_, HB.out.setCell (p := ⟨_, _, none⟩) (by have := (OWN.out.lt _ rfl).1; exact this) _⟩
                  rw [hsh.out]
                  exact OWN.out.set _ _
              · have hsh : Hp.shift a to x = x := by unfold Hp.shift; rw [if_neg (fun h => e2 h.2)]
                replace hsh := Lib.hid hsh
                go_wp2_with fail
                go_roundw
                case measure => simp only [intOf]; omega
                case rel => exact ⟨k + 1, out, by simp, by omega, RL.out.keep hxg.out hfpk.out hsh.out, OWN.out, HB.out⟩
            · have e1' : (x % 2 == 0) = false := by simpa using e1
              have hsh : Hp.shift a to x = x := by unfold Hp.shift; rw [if_neg (fun h => e1 h.1)]
              replace hsh := Lib.hid hsh
              go_wp2_with fail
              go_roundw
              case measure => simp only [intOf]; omega
              case rel => exact ⟨k + 1, out, by simp, by omega, RL.out.keep hxg.out hfpk.out hsh.out, OWN.out, HB.out⟩
          · have hke : k = fl := by omega
            have RL := Lib.hid hrl
            have OWN := Lib.hid own
            have HB := Lib.hid hb
            clear hrl own hb
            go_wp2_with fail
            go_roundw
            case measure => simp only [intOf]; omega
            case rel =>
              refine ⟨i + wn, _, _, out, by simp, by omega, hat'.out, RL.out.mono (by omega) (fun p h1 h2 => ?_), OWN.out, HB.out⟩
              rw [hfp.out p (by omega) (by omega)]
              simp
              omega
    · have hie : i = ls.length := by omega
      subst hie
      have HB := Lib.hid hb
      have OWN := Lib.hid own
      have RL := Lib.hid hrl
      clear hb own hrl hat
      go_wp2_with fail
      go_returns
      exact ⟨_, out, rfl, OWN.out, HB.out, RL.out⟩

end Go.Proofs.Ytgohnekaolgblaa
