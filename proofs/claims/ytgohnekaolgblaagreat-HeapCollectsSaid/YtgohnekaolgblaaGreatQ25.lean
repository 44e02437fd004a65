/- gimletlaw29.relaid: contract (printed by wip/gen_rla.py). -/
import Derived.Test.YtgohnekaolgblaaGreatQ24
import Derived.Test.YtgohnekaolgblaaGreatQ19
namespace Go.Proofs.YtgohnekaolgblaaGreat
open Go.RowKit

set_option maxHeartbeats 4000000 in
set_option maxRecDepth 100000 in
theorem rlRelaid (v : Value) (ls : List Int) (hs : List Nat) (to : Int) (w : World) (hhs : Hp.heads ls = some hs) (hv : Sees .u32 w v ls) (hr : ∀ x ∈ ls, 0 ≤ x ∧ x < 4294967296) (hll : ls.length ≤ 65536) :
    Calls Tryz.prog 8 #[v, .int .u32 to] w fun e w' => ∃ o out, e = .returned o ∧ Owns 22 .u32 w.heap.size w' o out ∧ Below w.heap.size w w' ∧ Hp.Rl ls hs 16 to ls.length out := by
  obtain ⟨A, c, rfl, h1, h2⟩ := hv.len
  unfold maxLen at h2
  obtain ⟨i0, hi0, hz0, hz1, hz2⟩ := info_parts (show (Tryz.prog.info? 22).map (fun i => (i.zero, i.size, i.bytes)) = some (some (.int .u32 0), 1, 4) by kernel_rfl)
  have hla := Lib.hid (hv.alloc (.cells #[] 22))
  have hown := Lib.hid (Owns.empty 22 .u32 w)
  obtain ⟨_, _, he, _, _, h3⟩ := hv
  simp only [Value.slice.injEq] at he
  obtain ⟨rfl, -, rfl⟩ := he
  replace h3 := Lib.hid h3
  replace hr := Lib.hid hr
  have AT0 := Lib.hid (Hp.At.start hhs)
  clear hhs
  go_enter Tryz.func8, Tryz.ntmps8
  go_wp2_with (first
    | (at_builtin; refine app_at (B := w.heap.size) (xs := []) (ys := ls) Tryz.underlying23 hi0 hz0 hz1 hz2 rfl (.tmp 15) (.tmp 16) rfl rfl rfl hla.out hown.out (by simp) (by simp; omega) (by unfold maxLen; simp; omega) ?_; intro v1 w1 own1 g1 _)
    | fail)
  rw [List.nil_append] at own1
  obtain ⟨A1, c1, rfl, d1, d2⟩ := own1.sees.len
  unfold maxLen at d2
  have BW1 := Lib.hid ((B.alloc (B.refl w) (.cells #[] 22)).grown g1 (by simp) (fun g hg => (hown.out.lt g hg).1))
  have OWN1 := Lib.hid own1
  have RL0 : Hp.Rl ls hs 16 to 0 ls := ⟨rfl, fun p => by
    cases ls[p]? with
    | none => rfl
    | some x => simp⟩
  replace RL0 := Lib.hid RL0
  clear own1 g1 hown hla
  go_wp2_with fail
  go_loopw [6] (fun p wr => ∃ (i : Nat) (done rest : List Nat) (out : List Int), p = .int .i64 (i : Int) ∧ i ≤ ls.length ∧ Hp.At ls hs i done rest ∧ Hp.Rl ls hs 16 to i out ∧ Owns 22 .u32 w.heap.size wr (.slice A1 ls.length c1) out ∧ Below w.heap.size w wr)
    (fun p _ => ls.length - (intOf p).toNat)
  case atStart => exact ⟨0, [], hs, ls, rfl, by omega, AT0.out, RL0.out, OWN1.out, BW1.out⟩
  case round =>
    obtain ⟨i, done, rest, out, rfl, hi, hat, hrl, own, hb⟩ := hrel
    clear AT0 RL0 OWN1 BW1
    by_cases hil : i < ls.length
    · obtain ⟨b, off, rfl, hc⟩ := h3.out (by intro e; subst e; simp at hil)
      have hci := cellK hb (hc i hil)
      have hri := hr.out _ (List.getElem_mem hil)
      obtain ⟨rest', rfl, hhd, hat', hfp⟩ := hat.here hil
      have hfit := Hp.fields_fit hhd
      have hwl := hhd.fits
      have hyes := hhd.yes
      rw [← (Hp.thing_head hhd).1] at hwl
      have hwa := (Hp.thing_head hhd).1
      obtain ⟨wn, hwn⟩ : ∃ x, x = Hp.wnAt ls i := ⟨_, rfl⟩
      rw [← hwn] at hfit hwl hwa hat' hfp
      have hget : ∀ k, k < (Hp.fields ls i).length → ls[i + 1 + k]? = some (Hp.fields ls i)[k]! := fun k hk => by rw [getElem!_def, List.getElem?_eq_getElem hk, Hp.fields_get hk]
      have hfe : Hp.fields ls i = if (Wd.unhead ls[i]).1 = 2 then [] else (ls.drop (i + 1)).take (Hp.sz ls[i]) := by
        unfold Hp.fields
        rw [List.getElem?_eq_getElem hil]
      obtain ⟨h, hh⟩ : ∃ h, h = ls[i] := ⟨_, rfl⟩
      rw [← hh] at hci hri hyes hfe hwa
      obtain ⟨p1, p2, p3, p4⟩ := Wd.words_pos hyes
      obtain ⟨kd, nn, s0, okk, hun⟩ : ∃ kd nn s0 okk, Wd.unhead h = (kd, nn, s0, okk) := ⟨_, _, _, _, rfl⟩
      have hs0 := Wd.unhead_size h
      have HU : ∀ w, Calls Tryz.prog 27 #[.int .u32 h] w fun e w' => e = .returned (.tuple #[.int .i64 kd, .int .i64 nn, .int .i64 s0, .bool okk]) ∧ w' = w := fun w => by
        have h := refUnhead h w hri.1 hri.2
        rw [hun] at h
        exact h
      have HW : ∀ w, Calls Tryz.prog 28 #[.int .u32 h] w fun e w' => e = .returned (.tuple #[.int .i64 (wn : Int), .bool true]) ∧ w' = w := fun w => by
        have h' := refWords h w hri.1 hri.2
        rw [hyes] at h'
        have e : (Wd.words h).1 = (wn : Int) := by
          have h1 := p1
          rw [hwa]; unfold Hp.wn at h1 ⊢; omega
        rw [e] at h'
        exact h'
      unfold Hp.sz at hfe
      rw [hun] at hfe hs0
      simp only at hfe hs0
      obtain ⟨s, hs⟩ : ∃ s : Nat, s0 = (s : Int) := ⟨s0.toNat, by omega⟩
      subst hs
      simp only [Int.toNat_natCast] at hfe
      replace HU := Lib.hid HU
      replace HW := Lib.hid HW
      replace hat' := Lib.hid hat'
      replace hfp := Lib.hid hfp
      replace hget := Lib.hid hget
      have HB := Lib.hid hb
      have OWN := Lib.hid own
      obtain ⟨fl, hfl⟩ : ∃ n, n = (Hp.fields ls i).length := ⟨_, rfl⟩
      rw [← hfl] at hfit hfp hget
      have hfl2 : (kd = 2 → fl = 0) ∧ (kd ≠ 2 → fl = s) := by
        refine ⟨fun e => by rw [hfl, hfe, if_pos e]; rfl, fun e => ?_⟩
        have h2 := p3 (by rw [hun]; exact e)
        unfold Hp.sz at h2
        rw [hun] at h2
        simp only [Int.toNat_natCast] at h2
        rw [hfl, hfe, if_neg e, List.length_take, List.length_drop]
        have := hhd.fits
        rw [← hh] at this
        omega
      have RL1 := Lib.hid (hrl.mono (b' := i + 1) (by omega) (fun p h1 h2 => by
        have hpi : p = i := by omega
        subst hpi
        rw [hfp.out p (Nat.le_refl _) (by omega)]
        rw [show decide (p < p) = false by simp, Bool.false_and]))
      clear hb own hc hh hwn hwa hat hhd hrl hun hfe hfl p2 p3 hyes p1 p4
      go_wp2_with fail
      refine (HU.out _).mono ?_
      rintro _ w2 ⟨rfl, hw2⟩
      subst hw2
      go_wp2_with fail
      refine (HW.out _).mono ?_
      rintro _ w2 ⟨rfl, hw2⟩
      subst hw2
      by_cases hk : kd = 2
      · subst hk
        have hfl0 := hfl2.1 rfl
        go_wp2_with fail
        go_loopw [13] (fun p wr => p = .int .i64 0 ∧ Owns 22 .u32 w.heap.size wr (.slice A1 ls.length c1) out ∧ Below w.heap.size w wr) (fun p _ => 1 - (intOf p).toNat)
        case atStart => exact ⟨rfl, OWN.out, HB.out⟩
        case round =>
          obtain ⟨rfl, own, hb⟩ := hrel
          have OWN' := Lib.hid own
          have HB' := Lib.hid hb
          clear own hb OWN HB
          go_wp2_with fail
          go_roundw
          case measure => simp only [intOf]; omega
          case rel =>
            refine ⟨i + wn, _, _, out, by simp, by omega, hat'.out, RL1.out.mono (by omega) (fun p h1 h2 => ?_), OWN'.out, HB'.out⟩
            rw [hfp.out p (by omega) (by omega)]
            simp
            omega
          case roundEnd =>
            refine ⟨⟨i + wn, _, _, out, by simp, by omega, hat'.out, RL1.out.mono (by omega) (fun p h1 h2 => ?_), OWN'.out, HB'.out⟩, by simp only [intOf]; omega⟩
            rw [hfp.out p (by omega) (by omega)]
            simp
            omega
      · have hfls := hfl2.2 hk
        subst hfls
        have hk' : (kd == 2) = false := by simpa using hk
        go_wp2_with fail
        go_loopw [13] (fun p wr => ∃ (k : Nat) (out : List Int), p = .int .i64 (k : Int) ∧ k ≤ fl ∧ Hp.Rl ls hs 16 to (i + 1 + k) out ∧ Owns 22 .u32 w.heap.size wr (.slice A1 ls.length c1) out ∧ Below w.heap.size w wr) (fun p _ => fl - (intOf p).toNat)
        case atStart => exact ⟨0, out, rfl, by omega, RL1.out, OWN.out, HB.out⟩
        case round =>
          clear OWN HB RL1
          obtain ⟨k, out, rfl, hkl, hrl, own, hb⟩ := hrel
          by_cases hks : k < fl
          · have hlt : i + 1 + k < ls.length := by omega
            have hxg : ls[i + 1 + k]? = some ls[i + 1 + k] := List.getElem?_eq_getElem hlt
            have hxr := hr.out _ (List.getElem_mem hlt)
            have hov := hrl.val (i + 1 + k)
            obtain ⟨x, hx⟩ : ∃ x, x = ls[i + 1 + k] := ⟨_, rfl⟩
            rw [← hx] at hxg hxr
            rw [hxg, Option.map_some, if_neg (fun h => by have := h.2; omega)] at hov
            obtain ⟨hol, hoe⟩ := List.getElem?_eq_some_iff.1 hov
            have hfpk : Hp.fpos ls hs (i + 1 + k) = true := by
              rw [hfp.out _ (by omega) (by omega)]
              simp
              omega
            obtain ⟨g, cg, hge, _, _, _, _, hgc⟩ := own.cells (by intro e; rw [e] at hol; simp at hol)
            simp only [Value.slice.injEq] at hge
            obtain ⟨rfl, -, -⟩ := hge
            have hcx := hgc _ hol
            rw [hoe] at hcx
            have hfz := own.free (i + 1 + k)
            have RL := Lib.hid hrl
            have OWN := Lib.hid own
            have HB := Lib.hid hb
            have hrem : x.tmod 2 = x % 2 := Int.tmod_eq_emod_of_nonneg hxr.1
            replace hfpk := Lib.hid hfpk
            replace hxg := Lib.hid hxg
            clear hrl own hb hgc hx hov hol hoe
            by_cases e1 : x % 2 = 0
            · by_cases e2 : 16 ≤ x
              · have hsh : Hp.shift 16 to x = (x - 16 + to) % 4294967296 := by unfold Hp.shift; rw [if_pos ⟨e1, e2⟩]
                replace hsh := Lib.hid hsh
                go_wp2_with fail
                go_roundw
                case measure => simp only [intOf]; omega
                case rel =>
                  refine ⟨k + 1, out.set (i + 1 + k) (Hp.shift 16 to x), by simp, by omega, RL.out.set hxg.out hfpk.out, ?_, HB.out.setCell (p := ⟨_, _, none⟩) (by have := (OWN.out.lt _ rfl).1; exact this) _⟩
                  rw [hsh.out]
                  exact OWN.out.set _ _
              · have hsh : Hp.shift 16 to x = x := by unfold Hp.shift; rw [if_neg (fun h => e2 h.2)]
                replace hsh := Lib.hid hsh
                go_wp2_with fail
                go_roundw
                case measure => simp only [intOf]; omega
                case rel => exact ⟨k + 1, out, by simp, by omega, RL.out.keep hxg.out hfpk.out hsh.out, OWN.out, HB.out⟩
            · have e1' : (x % 2 == 0) = false := by simpa using e1
              have hsh : Hp.shift 16 to x = x := by unfold Hp.shift; rw [if_neg (fun h => e1 h.1)]
              replace hsh := Lib.hid hsh
              go_wp2_with fail
              go_roundw
              case measure => simp only [intOf]; omega
              case rel => exact ⟨k + 1, out, by simp, by omega, RL.out.keep hxg.out hfpk.out hsh.out, OWN.out, HB.out⟩
          · have hke : k = fl := by omega
            have RL := Lib.hid hrl
            have OWN := Lib.hid own
            have HB := Lib.hid hb
            clear hrl own hb
            go_wp2_with fail
            go_roundw
            case measure => simp only [intOf]; omega
            case rel =>
              refine ⟨i + wn, _, _, out, by simp, by omega, hat'.out, RL.out.mono (by omega) (fun p h1 h2 => ?_), OWN.out, HB.out⟩
              rw [hfp.out p (by omega) (by omega)]
              simp
              omega
    · have hie : i = ls.length := by omega
      subst hie
      have HB := Lib.hid hb
      have OWN := Lib.hid own
      have RL := Lib.hid hrl
      clear hb own hrl hat
      go_wp2_with fail
      go_returns
      exact ⟨_, out, rfl, OWN.out, HB.out, RL.out⟩

end Go.Proofs.YtgohnekaolgblaaGreat

/- gimletlaw29.plain, moved, put, get, said: contracts. -/
namespace Go.Proofs.YtgohnekaolgblaaGreat
open Go.RowKit

theorem Owns.row0 {E : TypeId} {k : IntKind} {w : World} {g n B : Nat} (h : w.rowIs g E n (fun _ => Value.int k 0)) (hB : B ≤ g) (hm : n ≤ maxLen) : Owns E k B w (.slice (some ⟨g, 0, none⟩) n n) (List.replicate n 0) := by
  have hr := row_toList h
  have hl : (List.range n).map (fun _ => Value.int k 0) = (List.replicate n (0 : Int)).map (Value.int k) := by
    apply List.ext_getElem?
    intro i
    by_cases hi : i < n <;> simp [hi]
  rw [hl] at hr
  refine ⟨by simp, .inr ⟨g, n, _, by simp, hB, hr, by simp, hm, by simp, ?_⟩⟩
  simp only [Nat.mul_one]
  exact List.take_of_length_le (by simp)

set_option maxRecDepth 100000 in
set_option maxHeartbeats 1000000 in
theorem rlPlain (v : Value) (ls : List Int) (w : World) (hv : Sees .u32 w v ls) (hll : ls.length ≤ 65536) :
    Calls Tryz.prog 7 #[v] w fun e w' => ∃ o, e = .returned o ∧ Owns 22 .u32 w.heap.size w' o (List.replicate ls.length 0) ∧ Below w.heap.size w w' := by
  obtain ⟨A, c, rfl, -, -⟩ := hv.len
  obtain ⟨iC, hiC, hzC, hsC, hbC⟩ := info_parts3 (show (Tryz.prog.info? 22).map (fun i => (i.zero, i.size, i.bytes)) = some (some (.int .u32 0), 1, 4) by kernel_rfl)
  replace hiC := Lib.hid hiC
  replace hzC := Lib.hid hzC
  replace hsC := Lib.hid hsC
  replace hbC := Lib.hid hbC
  clear hv
  go_enter Tryz.func7, Tryz.ntmps7
  go_wp2_with (at_make; refine make_row Tryz.underlying23 hiC.out hzC.out hsC.out rfl rfl (.tmp 4) (.tmp 4) rfl ls.length rfl rfl (by rw [hbC.out]; omega) (by omega) ?_; intro w1 R1 b1 z1; have O1 := Lib.hid (Owns.row0 (B := w.heap.size) R1.out (Nat.le_refl _) (by unfold maxLen; omega)); have B1 := Lib.hid b1; clear R1 b1)
  go_returns
  exact ⟨_, rfl, O1.out, B1.out⟩

set_option maxRecDepth 100000 in
set_option maxHeartbeats 1000000 in
theorem rlMoved (v : Value) (ls : List Int) (to : Int) (w : World) (hv : Sees .u32 w v ls) (hr : ∀ x ∈ ls, 0 ≤ x ∧ x < 4294967296) (hll : ls.length ≤ 65536) :
    Calls Tryz.prog 25 #[v, .int .u32 to] w fun e w' => ∃ o, e = .returned o ∧ Owns 22 .u32 w.heap.size w' o (ls.map (Hp.shift 16 to)) ∧ Below w.heap.size w w' := by
  obtain ⟨A, c, rfl, -, -, h3⟩ := hv
  obtain ⟨iC, hiC, hzC, hsC, hbC⟩ := info_parts3 (show (Tryz.prog.info? 22).map (fun i => (i.zero, i.size, i.bytes)) = some (some (.int .u32 0), 1, 4) by kernel_rfl)
  replace hiC := Lib.hid hiC
  replace hzC := Lib.hid hzC
  replace hsC := Lib.hid hsC
  replace hbC := Lib.hid hbC
  replace h3 := Lib.hid h3
  replace hr := Lib.hid hr
  have hllI : (ls.length : Int) ≤ 65536 := by omega
  go_enter Tryz.func25, Tryz.ntmps25
  go_wp2_with fail
  go_loopw [5, 6] (fun lv q wr => ∃ (i : Nat), q = .int .i64 (i : Int) ∧ i ≤ ls.length ∧ Owns 22 .u32 w.heap.size wr lv ((ls.take i).map (Hp.shift 16 to)) ∧ Below w.heap.size w wr)
    (fun _ q _ => ls.length - (intOf q).toNat)
  case atStart => exact ⟨0, rfl, by omega, Owns.nil _ _ _ _, B.refl w⟩
  case round =>
    obtain ⟨i, rfl, hi, hown, hb⟩ := hrel
    by_cases hil : i < ls.length
    · obtain ⟨b, off, rfl, hc⟩ := h3.out (by intro e; subst e; simp at hil)
      have hci := cellK hb (hc i hil)
      have hri := hr.out _ (List.getElem_mem hil)
      have htake : (ls.take (i + 1)).map (Hp.shift 16 to) = (ls.take i).map (Hp.shift 16 to) ++ [Hp.shift 16 to ls[i]] := by
        rw [List.take_add_one, List.getElem?_eq_getElem hil, List.map_append]; rfl
      obtain ⟨x, hx⟩ : ∃ x, x = ls[i] := ⟨_, rfl⟩
      rw [← hx] at hci hri htake
      have hilI : (i : Int) < (ls.length : Int) := by omega
      obtain ⟨xs, hxs⟩ : ∃ xs, xs = (ls.take i).map (Hp.shift 16 to) := ⟨_, rfl⟩
      rw [← hxs] at hown htake
      have hxl : xs.length ≤ 65536 := by rw [hxs]; simp; omega
      have hbs := hb.size
      have HB := Lib.hid hb
      have htk := Lib.hid htake
      clear hc hx hxs htake hb
      by_cases hs : x % 2 = 0 ∧ 16 ≤ x
      · obtain ⟨hx0, hx1⟩ := hs
        have hsh := Lib.hid (show Hp.shift 16 to x = IntKind.u32.wrap (x - 16 + to) by unfold Hp.shift; rw [if_pos ⟨hx0, hx1⟩]; rfl)
        go_wp2_with (at_builtin; refine app_own Tryz.underlying23 hiC.out hzC.out hsC.out hbC.out rfl _ _ rfl rfl rfl hown HB.out hbs (by omega) (by unfold maxLen; omega) ?_; intro v5 w5 own5 b5 z5)
        exact ⟨⟨i + 1, by rw [show ((i + 1 : Nat) : Int) = (i : Int) + 1 by omega], by omega, by rw [htk.out, hsh.out]; exact own5, b5⟩, by simp only [intOf]; omega⟩
      · have hsh := Lib.hid (show Hp.shift 16 to x = x by unfold Hp.shift; rw [if_neg hs])
        by_cases hx0 : x % 2 = 0
        · have hx1 : x < 16 := by omega
          clear hs
          go_wp2_with (at_builtin; refine app_own Tryz.underlying23 hiC.out hzC.out hsC.out hbC.out rfl _ _ rfl rfl rfl hown HB.out hbs (by omega) (by unfold maxLen; omega) ?_; intro v5 w5 own5 b5 z5)
          exact ⟨⟨i + 1, by rw [show ((i + 1 : Nat) : Int) = (i : Int) + 1 by omega], by omega, by rw [htk.out, hsh.out]; exact own5, b5⟩, by simp only [intOf]; omega⟩
        · clear hs
          go_wp2_with (at_builtin; refine app_own Tryz.underlying23 hiC.out hzC.out hsC.out hbC.out rfl _ _ rfl rfl rfl hown HB.out hbs (by omega) (by unfold maxLen; omega) ?_; intro v5 w5 own5 b5 z5)
          exact ⟨⟨i + 1, by rw [show ((i + 1 : Nat) : Int) = (i : Int) + 1 by omega], by omega, by rw [htk.out, hsh.out]; exact own5, b5⟩, by simp only [intOf]; omega⟩
    · obtain rfl : i = ls.length := by omega
      rw [List.take_of_length_le (Nat.le_refl _)] at hown
      replace hown := Lib.hid hown
      replace hb := Lib.hid hb
      go_wp2_with fail
      go_returns
      exact ⟨_, rfl, hown.out, hb.out⟩

end Go.Proofs.YtgohnekaolgblaaGreat

/- gimletlaw29.put, get, said: contracts. -/
namespace Go.Proofs.YtgohnekaolgblaaGreat
open Go.RowKit

/-- A word's bytes are laid, so many of them. -/
def putN (bs : List Int) (p : Nat) (x : Int) : Nat → List Int
  | 0 => bs
  | k + 1 => (putN bs p x k).set (p + k) (x / 256 ^ k % 256)
theorem putN_length (bs : List Int) (p : Nat) (x : Int) : ∀ k, (putN bs p x k).length = bs.length
  | 0 => rfl
  | k + 1 => by rw [putN, List.length_set, putN_length bs p x k]
theorem putN_get (bs : List Int) (p : Nat) (x : Int) (j : Nat) (hj : j < bs.length) : ∀ k, (putN bs p x k)[j]? = if p ≤ j ∧ j < p + k then some (x / 256 ^ (j - p) % 256) else bs[j]?
  | 0 => by rw [if_neg (by omega)]; rfl
  | k + 1 => by
    rw [putN, List.getElem?_set, putN_get bs p x j hj k]
    by_cases h : p + k = j
    · subst h
      rw [if_pos rfl, if_pos (by rw [putN_length]; exact hj), if_pos (by omega), show p + k - p = k by omega]
    · rw [if_neg h]
      by_cases h2 : p ≤ j ∧ j < p + k
      · rw [if_pos h2, if_pos (by omega)]
      · rw [if_neg h2, if_neg (by omega)]

set_option maxRecDepth 100000 in
set_option maxHeartbeats 1000000 in
theorem rlPut (v : Value) (bs : List Int) (at_ x : Int) (p lo : Nat) (w : World) (hv : Owns 5 .u8 lo w v bs) (hp : at_ = 16 + (p : Int)) (hl : p + 4 ≤ bs.length) (hb : bs.length ≤ 1000000) (hx : 0 ≤ x ∧ x < 4294967296) :
    Calls Tryz.prog 26 #[v, .int .u32 at_, .int .u32 x] w fun e w' => e = .returned (.tuple #[]) ∧ Owns 5 .u8 lo w' v (putN bs p x 4) ∧ GrowS (fun k => v.ownBlock = some k) w w' := by
  subst hp
  obtain ⟨g, c, rfl, -, -, -, -, -⟩ := hv.cells (by intro e; subst e; simp at hl)
  have hlI : (p : Int) + 4 ≤ (bs.length : Int) := by omega
  have hbI : (bs.length : Int) ≤ 1000000 := by omega
  replace hv := Lib.hid hv
  go_enter Tryz.func26, Tryz.ntmps26
  go_wp2_with fail
  go_loopw [6] (fun q wr => ∃ (k : Nat), q = .int .u32 (k : Int) ∧ k ≤ 4 ∧ Owns 5 .u8 lo wr (.slice (some ⟨g, 0, none⟩) bs.length c) (putN bs p x k) ∧ GrowS (fun k => (Value.slice (some ⟨g, 0, none⟩) bs.length c).ownBlock = some k) w wr)
    (fun q _ => 4 - (intOf q).toNat)
  case atStart => exact ⟨0, rfl, by omega, hv.out, GrowS.refl _ _⟩
  case round =>
    obtain ⟨k, rfl, hk, hown, hg⟩ := hrel
    have hlen := putN_length bs p x k
    have hfree := hown.free (p + k)
    obtain ⟨g', c', he, hg1, hg2, -, -, hgc⟩ := hown.cells (by intro e; have := congrArg List.length e; rw [hlen, List.length_nil] at this; omega)
    simp only [Value.slice.injEq, Option.some.injEq, Addr.mk.injEq, and_true] at he
    obtain ⟨rfl, -, rfl⟩ := he
    by_cases hk4 : k < 4
    · have hcell := hgc (p + k) (by rw [hlen]; omega)
      obtain ⟨old, hold⟩ : ∃ old, old = (putN bs p x k)[p + k]'(by rw [hlen]; omega) := ⟨_, rfl⟩
      rw [← hold] at hcell
      have hown2 := fun y => Lib.hid (hown.set (p + k) y)
      have hg3 := fun y => Lib.hid (hg.set (b := g) (i := p + k) rfl (.int .u8 y))
      have hnext : ∀ y, y = x / 256 ^ k % 256 → (putN bs p x k).set (p + k) y = putN bs p x (k + 1) := fun y hy => by rw [putN, hy]
      clear hold hgc hown hg hlen
      rcases (by omega : k = 0 ∨ k = 1 ∨ k = 2 ∨ k = 3) with rfl | rfl | rfl | rfl
      · simp only [Nat.add_zero] at hcell hfree hown2 hg3 hnext
        go_wp2_with fail
        exact ⟨⟨1, rfl, by omega, by rw [← hnext (x % 256) (by simp)]; exact (hown2 _).out, (hg3 _).out⟩, by decide⟩
      · go_wp2_with fail
        exact ⟨⟨2, rfl, by omega, by rw [← hnext (x / 256 % 256) (by simp)]; exact (hown2 _).out, (hg3 _).out⟩, by decide⟩
      · go_wp2_with fail
        exact ⟨⟨3, rfl, by omega, by rw [← hnext (x / 65536 % 256) (by simp)]; exact (hown2 _).out, (hg3 _).out⟩, by decide⟩
      · go_wp2_with fail
        exact ⟨⟨4, rfl, by omega, by rw [← hnext (x / 16777216) (by rw [show (256 : Int) ^ 3 = 16777216 from rfl]; omega)]; exact (hown2 _).out, (hg3 _).out⟩, by decide⟩
    · obtain rfl : k = 4 := by omega
      replace hown := Lib.hid hown
      replace hg := Lib.hid hg
      clear hgc hfree
      go_wp2_with fail
      go_returns
      exact ⟨rfl, hown.out, hg.out⟩

/-- A word of bytes. -/
def word4 (bs : List Int) (p : Nat) : Int := bs.getD p 0 + bs.getD (p + 1) 0 * 256 + bs.getD (p + 2) 0 * 65536 + bs.getD (p + 3) 0 * 16777216

set_option maxRecDepth 100000 in
set_option maxHeartbeats 1000000 in
theorem rlGet (v : Value) (bs : List Int) (at_ : Int) (p : Nat) (w : World) (hv : Sees .u8 w v bs) (hp : at_ = 16 + (p : Int)) (hl : p + 4 ≤ bs.length) (hb : bs.length ≤ 1000000) (hr : ∀ x ∈ bs, 0 ≤ x ∧ x < 256) :
    Calls Tryz.prog 13 #[v, .int .u32 at_] w fun e w' => e = .returned (.int .u32 (word4 bs p)) ∧ w' = w := by
  subst hp
  obtain ⟨A, c, rfl, -, -, h3⟩ := hv
  obtain ⟨b, off, rfl, hc⟩ := h3 (by intro e; subst e; simp at hl)
  have hlI : (p : Int) + 4 ≤ (bs.length : Int) := by omega
  have hbI : (bs.length : Int) ≤ 1000000 := by omega
  have g : ∀ j, j < 4 → ∃ y, bs.getD (p + j) 0 = y ∧ 0 ≤ y ∧ y < 256 ∧ w.cell? ⟨b, off + (p + j), none⟩ = some (.int .u8 y) := fun j hj => by
    refine ⟨bs[p + j], ?_, (hr _ (List.getElem_mem (by omega))).1, (hr _ (List.getElem_mem (by omega))).2, hc (p + j) (by omega)⟩
    rw [List.getD_eq_getElem?_getD, List.getElem?_eq_getElem (by omega)]
    rfl
  obtain ⟨y0, e0, l0, m0, c0⟩ := g 0 (by omega)
  obtain ⟨y1, e1, l1, m1, c1⟩ := g 1 (by omega)
  obtain ⟨y2, e2, l2, m2, c2⟩ := g 2 (by omega)
  obtain ⟨y3, e3, l3, m3, c3⟩ := g 3 (by omega)
  rw [Nat.add_zero] at e0 c0
  unfold word4
  rw [e0, e1, e2, e3]
  obtain ⟨R, hR⟩ : ∃ R, R = y0 + y1 * 256 + y2 * 65536 + y3 * 16777216 := ⟨_, rfl⟩
  rw [← hR]
  replace hR := Lib.hid hR
  clear e0 e1 e2 e3 g hc h3 hr
  go_enter Tryz.func13, Tryz.ntmps13
  go_wp2_with fail
  go_loopw [5, 6] (fun s q wr => ∃ (k : Nat), q = .int .u32 (k : Int) ∧ k ≤ 4 ∧ s = .int .u32 (if k = 0 then 0 else if k = 1 then y0 else if k = 2 then y0 + y1 * 256 else if k = 3 then y0 + y1 * 256 + y2 * 65536 else y0 + y1 * 256 + y2 * 65536 + y3 * 16777216) ∧ wr = w)
    (fun _ q _ => 4 - (intOf q).toNat)
  case atStart => exact ⟨0, rfl, by omega, rfl, rfl⟩
  case round =>
    obtain ⟨k, rfl, hk, rfl, rfl⟩ := hrel
    rcases (by omega : k = 0 ∨ k = 1 ∨ k = 2 ∨ k = 3 ∨ k = 4) with rfl | rfl | rfl | rfl | rfl
    · simp only [if_true]
      go_wp2_with fail
      exact ⟨⟨1, rfl, by omega, rfl, trivial⟩, by decide⟩
    · simp only [show ¬ ((1 : Nat) = 0) by decide, if_true, if_false]
      go_wp2_with fail
      exact ⟨⟨2, rfl, by omega, rfl, trivial⟩, by decide⟩
    · simp only [show ¬ ((2 : Nat) = 0) by decide, show ¬ ((2 : Nat) = 1) by decide, if_true, if_false]
      go_wp2_with fail
      exact ⟨⟨3, rfl, by omega, rfl, trivial⟩, by decide⟩
    · simp only [show ¬ ((3 : Nat) = 0) by decide, show ¬ ((3 : Nat) = 1) by decide, show ¬ ((3 : Nat) = 2) by decide, if_true, if_false]
      go_wp2_with fail
      exact ⟨⟨4, rfl, by omega, rfl, trivial⟩, by decide⟩
    · simp only [show ¬ ((4 : Nat) = 0) by decide, show ¬ ((4 : Nat) = 1) by decide, show ¬ ((4 : Nat) = 2) by decide, show ¬ ((4 : Nat) = 3) by decide, if_false]
      rw [← hR.out]
      go_wp2_with fail
      go_returns
      exact ⟨rfl, rfl⟩

set_option maxRecDepth 100000 in
set_option maxHeartbeats 1000000 in
theorem rlSaid (a0 a1 a2 a3 : Value) (A : Option Addr) (c : Nat) (bs : List Int) (i : Nat) (w : World) (hv : Sees .u8 w (.slice A 24 c) bs) (hl : bs.length = 24) (hi : i ≤ 5) (hr : ∀ x ∈ bs, 0 ≤ x ∧ x < 256) :
    Calls Tryz.prog 14 #[.agg #[a0, a1, a2, a3, .slice A 24 c], .int .i64 (i : Int)] w fun e w' => e = .returned (.int .u32 (word4 bs (4 * i))) ∧ Below w.heap.size w w' := by
  have C := fun wr (hb : Below w.heap.size w wr) => rlGet (.slice A 24 c) bs (16 + ((4 * i : Nat) : Int)) (4 * i) wr (hv.below hb (Nat.le_refl _)) rfl (by omega) (by omega) hr
  have e : ((4 * i : Nat) : Int) = 4 * (i : Int) := by omega
  rw [e] at C
  have hiI : (i : Int) ≤ 5 := by omega
  obtain ⟨R, hR⟩ : ∃ R, R = word4 bs (4 * i) := ⟨_, rfl⟩
  rw [← hR] at C ⊢
  replace C := Lib.hid C
  clear e hR hv hr
  go_enter Tryz.func14, Tryz.ntmps14
  go_wp2_with fail
  refine (C.out _ (B.alloc (B.refl w) _)).mono ?_
  rintro _ w2 ⟨rfl, rfl⟩
  go_wp2_with fail
  go_returns
  exact ⟨rfl, B.alloc (B.refl w) _⟩

end Go.Proofs.YtgohnekaolgblaaGreat
