/- heap.Live, Move, Same: contracts. -/
import Derived.Test.YtgohnekaolgblaaHpF
import Derived.Test.YtgohnekaolgblaaTrSame
namespace Go.Proofs.Ytgohnekaolgblaa
open Go.RowKit

structure Hp.Ok (ls : List Int) (a : Int) (rs : List Int) (hs : List Nat) : Prop where
  ll : ls.length ≤ 65536
  rl : rs.length ≤ 4096
  heads : Hp.heads ls = some hs
  place : Hp.place a
  roots : Hp.okws (Hp.mem hs) a rs = true
  fields : ∀ i ∈ hs, Hp.okws (Hp.mem hs) a (Hp.fields ls i) = true
theorem Hp.chk_ok {ls : List Int} {a : Int} {rs : List Int} (h : Hp.chk ls a rs = 0) : ∃ hs, Hp.Ok ls a rs hs := by
  unfold Hp.chk at h
  split at h
  · cases h
  · rename_i h1
    cases hh : Hp.heads ls with
    | none => rw [hh] at h; cases h
    | some hs =>
      rw [hh] at h
      simp only at h
      split at h
      · rename_i h2
        exact ⟨hs, by omega, by omega, hh, h2.1, h2.2.1, h2.2.2⟩
      · cases h
theorem Hp.ok_chk {ls : List Int} {a : Int} {rs : List Int} {hs : List Nat} (h : Hp.Ok ls a rs hs) : Hp.chk ls a rs = 0 := by
  unfold Hp.chk
  have h1 := h.ll
  have h2 := h.rl
  rw [if_neg (by omega), h.heads]
  simp only
  rw [if_pos ⟨h.place, h.roots, h.fields⟩]
theorem Hp.chk_cases (ls : List Int) (a : Int) (rs : List Int) : Hp.chk ls a rs = 0 ∨ Hp.chk ls a rs = 2 ∨ Hp.chk ls a rs = 141 := by
  unfold Hp.chk
  split
  · exact .inr (.inr rfl)
  · split
    · exact .inr (.inl rfl)
    · split
      · exact .inl rfl
      · exact .inr (.inl rfl)

def Hp.live (ls : List Int) (a : Int) (rs : List Int) : Nat × Int := if Hp.chk ls a rs = 0 then ((Hp.move ls a rs 8).1.length, 0) else (0, Hp.chk ls a rs)
def Hp.moves (ls : List Int) (a : Int) (rs : List Int) (to : Int) : List Int × List Int × Int :=
  if Hp.chk ls a rs = 0 then (if Hp.place to then ((Hp.move ls a rs to).1, (Hp.move ls a rs to).2, 0) else ([], [], 5)) else ([], [], Hp.chk ls a rs)
def Hp.same (ls : List Int) (a : Int) (rs : List Int) (ms : List Int) (t : Int) (os : List Int) : Bool × Int :=
  if Hp.chk ls a rs = 0 then (if Hp.chk ms t os = 0 then (decide (rs.length = os.length ∧ Hp.move ls a rs 2147483648 = Hp.move ms t os 2147483648), 0) else (false, Hp.chk ms t os)) else (false, Hp.chk ls a rs)

theorem hpMoveOk (vl vr : Value) (ls rs : List Int) (a to : Int) (w : World) (h : Hp.chk ls a rs = 0) (hl : Sees .u32 w vl ls) (hlr : ∀ x ∈ ls, 0 ≤ x ∧ x < 4294967296) (hv : Sees .u32 w vr rs) (hrr : ∀ x ∈ rs, 0 ≤ x ∧ x < 4294967296) (ha : 0 ≤ a ∧ a < 4294967296) (hto : 0 ≤ to ∧ to ≤ 2147483648) :
    Calls Try.prog 63 #[vl, .int .u32 a, vr, .int .u32 to] w (MovePost w (Hp.move ls a rs to)) := by
  obtain ⟨hs, h1⟩ := Hp.chk_ok h
  exact hpMove vl vr ls rs a to w hs h1.heads hl hlr hv hrr ha hto h1.ll h1.rl h1.roots h1.fields

section
variable (vl vr : Value) (ls rs : List Int) (a to : Int) (w : World) (hl : Sees .u32 w vl ls) (hlr : ∀ x ∈ ls, 0 ≤ x ∧ x < 4294967296) (hv : Sees .u32 w vr rs) (hrr : ∀ x ∈ rs, 0 ≤ x ∧ x < 4294967296) (ha : 0 ≤ a ∧ a < 4294967296)
include hl hlr hv hrr ha

set_option maxHeartbeats 1000000 in
theorem hpLive : Calls Try.prog 23 #[vl, .int .u32 a, vr] w fun e w' => e = .returned (.tuple #[.int .i64 ((Hp.live ls a rs).1 : Int), .int .i64 (Hp.live ls a rs).2]) ∧ Below w.heap.size w w' := by
  have HC := Lib.hid (hpCheck vl vr ls rs a w hl hlr hv hrr ha.1 ha.2)
  obtain ⟨c, hc⟩ : ∃ c, c = Hp.chk ls a rs := ⟨_, rfl⟩
  rw [← hc] at HC
  unfold Hp.live
  rw [← hc]
  by_cases h0 : c = 0
  · rw [if_pos h0]
    have HM := Lib.hid fun w' (h : Below w.heap.size w w') => hpMoveOk vl vr ls rs a 8 w' (by rw [← hc]; exact h0) (hl.below h (Nat.le_refl _)) hlr (hv.below h (Nat.le_refl _)) hrr ha (by omega)
    subst h0
    clear hc hl hv hlr hrr
    go_enter Try.func23, Try.ntmps23
    go_wp2_with fail
    refine HC.out.mono ?_
    rintro _ w1 ⟨rfl, b1⟩
    go_wp2_with fail
    refine (HM.out _ b1).mono ?_
    rintro _ w2 ⟨o1, o2, rfl, own1, own2, b2⟩
    obtain ⟨A1, c1, rfl, _, _⟩ := own1.sees.len
    have BB := Lib.hid (B.call b1 b2)
    clear own1 own2 b1 b2
    go_wp2_with fail
    go_returns
    exact ⟨rfl, BB.out⟩
  · rw [if_neg h0]
    have h0' : (c == 0) = false := by simpa using h0
    clear hc hl hv hlr hrr
    go_enter Try.func23, Try.ntmps23
    go_wp2_with fail
    refine HC.out.mono ?_
    rintro _ w1 ⟨rfl, b1⟩
    have BB := Lib.hid b1
    clear b1
    go_wp2_with fail
    go_returns
    exact ⟨rfl, BB.out⟩

def MovesPost (w : World) (r : List Int × List Int × Int) (e : Ending) (w' : World) : Prop := ∃ o1 o2, e = .returned (.tuple #[o1, o2, .int .i64 r.2.2]) ∧ Owns 22 .u32 w.heap.size w' o1 r.1 ∧ Owns 22 .u32 w.heap.size w' o2 r.2.1 ∧ Below w.heap.size w w'

set_option maxHeartbeats 1000000 in
theorem hpMoves (hto : 0 ≤ to ∧ to < 4294967296) : Calls Try.prog 26 #[vl, .int .u32 a, vr, .int .u32 to] w (MovesPost w (Hp.moves ls a rs to)) := by
  have HC := Lib.hid (hpCheck vl vr ls rs a w hl hlr hv hrr ha.1 ha.2)
  obtain ⟨c, hc⟩ : ∃ c, c = Hp.chk ls a rs := ⟨_, rfl⟩
  rw [← hc] at HC
  unfold Hp.moves
  rw [← hc]
  by_cases h0 : c = 0
  · rw [if_pos h0]
    have HP := Lib.hid fun w' => hpPlace to w' hto.1 hto.2
    by_cases hp : Hp.place to
    · rw [if_pos hp]
      rw [show decide (Hp.place to) = true by simpa using hp] at HP
      have HM := Lib.hid fun w' (h : Below w.heap.size w w') => hpMoveOk vl vr ls rs a to w' (by rw [← hc]; exact h0) (hl.below h (Nat.le_refl _)) hlr (hv.below h (Nat.le_refl _)) hrr ha ⟨hto.1, hp.2.2⟩
      subst h0
      clear hc hl hv hlr hrr hp
      go_enter Try.func26, Try.ntmps26
      go_wp2_with fail
      refine HC.out.mono ?_
      rintro _ w1 ⟨rfl, b1⟩
      go_wp2_with fail
      refine (HP.out _).mono ?_
      rintro _ w2 ⟨rfl, hw2⟩
      subst hw2
      go_wp2_with fail
      refine (HM.out _ b1).mono ?_
      rintro _ w3 ⟨o1, o2, rfl, own1, own2, b2⟩
      have BB := Lib.hid (B.call b1 b2)
      have O1 := Lib.hid (own1.mono (B' := w.heap.size) b1.size)
      have O2 := Lib.hid (own2.mono (B' := w.heap.size) b1.size)
      clear own1 own2 b1 b2
      go_wp2_with fail
      go_returns
      exact ⟨o1, o2, rfl, O1.out, O2.out, BB.out⟩
    · rw [if_neg hp]
      rw [show decide (Hp.place to) = false by simpa using hp] at HP
      subst h0
      clear hc hl hv hlr hrr hp
      go_enter Try.func26, Try.ntmps26
      go_wp2_with fail
      refine HC.out.mono ?_
      rintro _ w1 ⟨rfl, b1⟩
      have BB := Lib.hid b1
      go_wp2_with fail
      refine (HP.out _).mono ?_
      rintro _ w2 ⟨rfl, hw2⟩
      subst hw2
      clear b1
      go_wp2_with fail
      go_returns
      exact ⟨_, _, rfl, Owns.nil _ _ _ _, Owns.nil _ _ _ _, BB.out⟩
  · rw [if_neg h0]
    have h0' : (c == 0) = false := by simpa using h0
    clear hc hl hv hlr hrr
    go_enter Try.func26, Try.ntmps26
    go_wp2_with fail
    refine HC.out.mono ?_
    rintro _ w1 ⟨rfl, b1⟩
    have BB := Lib.hid b1
    clear b1
    go_wp2_with fail
    go_returns
    exact ⟨_, _, rfl, Owns.nil _ _ _ _, Owns.nil _ _ _ _, BB.out⟩
end

theorem Hp.roots_length (ls : List Int) (a to : Int) : ∀ (ws : List Int) (o : List Nat) (out : List Int), (Hp.roots ls a to ws o out).1.length = ws.length := by
  intro ws
  induction ws with
  | nil => intro o out; rfl
  | cons w ws ih => intro o out; rw [Hp.roots]; simp [ih]

end Go.Proofs.Ytgohnekaolgblaa
