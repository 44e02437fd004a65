/- gimletlaw29.awake (printed by wip/gen_hpknown.py). -/
import Derived.Test.YtgohnekaolgblaaGreatQ04
import Derived.Test.YtgohnekaolgblaaGreatQ02
import Derived.Test.YtgohnekaolgblaaGreatQ01
import Derived.Test.YtgohnekaolgblaaGreatProg
namespace Go.Proofs.YtgohnekaolgblaaGreat
open Go.RowKit

theorem hpSmall (w : World) : Calls Tryz.prog 16 #[] w fun e w' => ∃ o, e = .returned o ∧ Owns 22 .u32 w.heap.size w' o [65553, 11, 16, 13, 97, 131081, 28] ∧ Below w.heap.size w w' := by
  go_enter Tryz.func16, Tryz.ntmps16
  go_wp2_with fail
  go_returns
  exact ⟨_, rfl, Owns.lit 22 .u32 w [65553, 11, 16, 13, 97, 131081, 28] w.heap.size (Nat.le_refl _) (by simp [maxLen]), B.alloc (B.refl w) _⟩

set_option maxHeartbeats 2000000 in
set_option maxRecDepth 100000 in
/-- gimletlaw29.awake: true. -/
theorem hpAwake (w : World) : Calls Tryz.prog 4 #[] w fun e w' => e = .returned (.bool true) ∧ Below w.heap.size w w' := by
  have P1 : Hp.live [65553, 11, 16, 13, 97, 131081, 28] 16 [16] = (3, 0) := by kernel_rfl
  have P2 : Hp.moves [65553, 11, 16, 13, 97, 131081, 28] 16 [36, 7, 36] 64 = ([131081, 72, 13, 97], [64, 7, 64], 0) := by kernel_rfl
  have BW := Lib.hid (B.refl w)
  go_enter Tryz.func4, Tryz.ntmps4
  go_wp2_with fail
  refine (hpSmall _).mono ?_
  rintro _ w1 ⟨ow1, rfl, ownw1, bw1⟩
  replace BW := Lib.hid (B.call (BW.out) bw1)
  obtain ⟨Aw1, cw1, rfl, _, _⟩ := ownw1.sees.len
  have Sw1 := Lib.hid ownw1.sees
  clear ownw1 bw1
  replace Sw1 := Lib.hid (Sees.alloc Sw1.out (.cells #[.int .u32 16] 22))
  have L1 : Sees .u32 (w1.alloc (.cells #[.int .u32 16] 22)) (.slice (some ⟨w1.heap.size, 0, none⟩) 1 1) [16] := Sees.lit .u32 w1 22 [16] 1 (by simp) (by simp [maxLen])
  replace L1 := Lib.hid L1
  go_wp2_with fail
  refine (hpLive _ _ [65553, 11, 16, 13, 97, 131081, 28] [16] 16 _ Sw1.out (by intro x hx; simp at hx; omega) (L1.out) (by intro x hx; simp at hx; omega) (by omega)).mono ?_
  rintro _ w2 ⟨rfl, bw2⟩
  replace BW := Lib.hid (B.call (B.alloc BW.out _) bw2)
  replace Sw1 := Lib.hid (Sees.below Sw1.out bw2 (Nat.le_refl _))
  rw [P1]
  clear bw2
  clear Sw1
  clear L1
  go_wp2_with fail
  refine (hpSmall _).mono ?_
  rintro _ w3 ⟨ow3, rfl, ownw3, bw3⟩
  replace BW := Lib.hid (B.call (BW.out) bw3)
  obtain ⟨Aw3, cw3, rfl, _, _⟩ := ownw3.sees.len
  have Sw3 := Lib.hid ownw3.sees
  clear ownw3 bw3
  replace Sw3 := Lib.hid (Sees.alloc Sw3.out (.cells #[.int .u32 36, .int .u32 7, .int .u32 36] 22))
  have L3 : Sees .u32 (w3.alloc (.cells #[.int .u32 36, .int .u32 7, .int .u32 36] 22)) (.slice (some ⟨w3.heap.size, 0, none⟩) 3 3) [36, 7, 36] := Sees.lit .u32 w3 22 [36, 7, 36] 3 (by simp) (by simp [maxLen])
  replace L3 := Lib.hid L3
  go_wp2_with fail
  refine (hpMoves _ _ [65553, 11, 16, 13, 97, 131081, 28] [36, 7, 36] 16 64 _ Sw3.out (by intro x hx; simp at hx; omega) (L3.out) (by intro x hx; simp at hx; omega) (by omega) (by omega)).mono ?_
  rintro _ w4 ⟨pw4, qw4, rfl, ownw4, own2w4, bw4⟩
  replace BW := Lib.hid (B.call (B.alloc BW.out _) bw4)
  replace Sw3 := Lib.hid (Sees.below Sw3.out bw4 (Nat.le_refl _))
  rw [P2] at ownw4 own2w4 ⊢
  simp only at ownw4 own2w4 ⊢
  obtain ⟨Aw4, cw4, rfl, _, _⟩ := ownw4.sees.len
  obtain ⟨AAw4, ccw4, rfl, _, _⟩ := own2w4.sees.len
  have Sw4 := Lib.hid ownw4.sees
  have Tw4 := Lib.hid own2w4.sees
  clear ownw4 own2w4 bw4
  clear Sw3
  clear L3
  replace Sw4 := Lib.hid (Sees.alloc Sw4.out (.cells #[.int .u32 131081, .int .u32 72, .int .u32 13, .int .u32 97] 22))
  replace Tw4 := Lib.hid (Sees.alloc Tw4.out (.cells #[.int .u32 131081, .int .u32 72, .int .u32 13, .int .u32 97] 22))
  have L4 : Sees .u32 (w4.alloc (.cells #[.int .u32 131081, .int .u32 72, .int .u32 13, .int .u32 97] 22)) (.slice (some ⟨w4.heap.size, 0, none⟩) 4 4) [131081, 72, 13, 97] := Sees.lit .u32 w4 22 [131081, 72, 13, 97] 4 (by simp) (by simp [maxLen])
  replace L4 := Lib.hid L4
  go_wp2_with fail
  refine (sameCells _ _ [131081, 72, 13, 97] [131081, 72, 13, 97] _ Sw4.out L4.out).mono ?_
  rintro _ w5 ⟨rfl, bw5⟩
  replace BW := Lib.hid (B.call (B.alloc BW.out _) bw5)
  replace Sw4 := Lib.hid (Sees.below Sw4.out bw5 (Nat.le_refl _))
  replace Tw4 := Lib.hid (Sees.below Tw4.out bw5 (Nat.le_refl _))
  rw [show decide (([131081, 72, 13, 97] : List Int) = [131081, 72, 13, 97]) = true by decide]
  clear bw5
  clear Sw4
  clear L4
  replace Tw4 := Lib.hid (Sees.alloc Tw4.out (.cells #[.int .u32 64, .int .u32 7, .int .u32 64] 22))
  have L5 : Sees .u32 (w5.alloc (.cells #[.int .u32 64, .int .u32 7, .int .u32 64] 22)) (.slice (some ⟨w5.heap.size, 0, none⟩) 3 3) [64, 7, 64] := Sees.lit .u32 w5 22 [64, 7, 64] 3 (by simp) (by simp [maxLen])
  replace L5 := Lib.hid L5
  go_wp2_with fail
  refine (sameCells _ _ [64, 7, 64] [64, 7, 64] _ Tw4.out L5.out).mono ?_
  rintro _ w6 ⟨rfl, bw6⟩
  replace BW := Lib.hid (B.call (B.alloc BW.out _) bw6)
  replace Tw4 := Lib.hid (Sees.below Tw4.out bw6 (Nat.le_refl _))
  rw [show decide (([64, 7, 64] : List Int) = [64, 7, 64]) = true by decide]
  clear bw6
  clear Tw4
  clear L5
  go_wp2_with fail
  go_returns
  exact ⟨rfl, BW.out⟩

end Go.Proofs.YtgohnekaolgblaaGreat

/- gimletlaw29.low, relocated: contracts. -/
namespace Go.Proofs.YtgohnekaolgblaaGreat
open Go.RowKit

def Hp.lowB (a to : Int) (ls : List Int) : Bool := ls.any (fun x => x % 2 == 0 && decide (x < a) && decide (to ≤ x))
theorem Hp.lowB_no {a to : Int} {ls : List Int} (h : Hp.lowB a to ls = false) : Hp.noLow a to ls := by
  intro w hw he hlt
  unfold Hp.lowB at h
  rw [List.any_eq_false] at h
  have := h w hw
  simp only [Bool.and_eq_true, beq_iff_eq, decide_eq_true_eq, not_and] at this
  have := this ⟨he, hlt⟩
  omega

end Go.Proofs.YtgohnekaolgblaaGreat

/- gimletlaw29.relocated: contract. -/
namespace Go.Proofs.YtgohnekaolgblaaGreat
open Go.RowKit

def Hp.fpos (ls : List Int) (hs : List Nat) (p : Nat) : Bool := hs.any (fun h => decide (h < p) && decide (p < h + 1 + (Hp.fields ls h).length))
def Hp.shift (a to x : Int) : Int := if x % 2 = 0 ∧ a ≤ x then (x - a + to) % 4294967296 else x
/-- The words, shifted below a bound. -/
structure Hp.Rl (ls : List Int) (hs : List Nat) (a to : Int) (b : Nat) (out : List Int) : Prop where
  len : out.length = ls.length
  val : ∀ p, out[p]? = (ls[p]?).map (fun x => if Hp.fpos ls hs p = true ∧ p < b then Hp.shift a to x else x)
theorem Hp.Rl.mono {ls : List Int} {hs : List Nat} {a to : Int} {b b' : Nat} {out : List Int} (h : Hp.Rl ls hs a to b out) (hb : b ≤ b') (hn : ∀ p, b ≤ p → p < b' → Hp.fpos ls hs p = false) : Hp.Rl ls hs a to b' out := by
  refine ⟨h.len, fun p => ?_⟩
  rw [h.val p]
  cases ls[p]? with
  | none => rfl
  | some x =>
    simp only [Option.map_some]
    by_cases hf : Hp.fpos ls hs p = true
    · by_cases hp : p < b
      · rw [if_pos ⟨hf, hp⟩, if_pos ⟨hf, by omega⟩]
      · rw [if_neg (fun h => hp h.2)]
        by_cases hp' : p < b'
        · rw [hn p (by omega) hp'] at hf; cases hf
        · rw [if_neg (fun h => hp' h.2)]
    · rw [if_neg (fun h => hf h.1), if_neg (fun h => hf h.1)]
theorem Hp.Rl.set {ls : List Int} {hs : List Nat} {a to : Int} {b : Nat} {out : List Int} (h : Hp.Rl ls hs a to b out) {x : Int} (hx : ls[b]? = some x) (hf : Hp.fpos ls hs b = true) : Hp.Rl ls hs a to (b + 1) (out.set b (Hp.shift a to x)) := by
  have hlt : b < ls.length := (List.getElem?_eq_some_iff.1 hx).1
  refine ⟨by rw [List.length_set]; exact h.len, fun p => ?_⟩
  by_cases e : p = b
  · subst e
    rw [List.getElem?_set_self (by rw [h.len]; exact hlt), hx]
    simp only [Option.map_some]
    rw [if_pos ⟨hf, by omega⟩]
  · rw [List.getElem?_set_ne (fun h => e h.symm), h.val p]
    cases ls[p]? with
    | none => rfl
    | some y =>
      simp only [Option.map_some]
      by_cases hp : Hp.fpos ls hs p = true ∧ p < b
      · rw [if_pos hp, if_pos ⟨hp.1, by omega⟩]
      · rw [if_neg hp, if_neg (fun h => hp ⟨h.1, by omega⟩)]
theorem Hp.Rl.keep {ls : List Int} {hs : List Nat} {a to : Int} {b : Nat} {out : List Int} (h : Hp.Rl ls hs a to b out) {x : Int} (hx : ls[b]? = some x) (hf : Hp.fpos ls hs b = true) (hs' : Hp.shift a to x = x) : Hp.Rl ls hs a to (b + 1) out := by
  have h2 := h.set hx hf
  rw [hs'] at h2
  have hv := h.val b
  rw [hx, Option.map_some, if_neg (fun h => by have := h.2; omega)] at hv
  obtain ⟨hlt, hg⟩ := List.getElem?_eq_some_iff.1 hv
  rw [← hg, List.set_getElem_self] at h2
  exact h2

/-- What is known of the heads, where the next one is i. -/
structure Hp.At (ls : List Int) (hs : List Nat) (i : Nat) (done rest : List Nat) : Prop where
  all : hs = done ++ rest
  from_ : Hp.from ls i = some rest
  before : ∀ h ∈ done, h + Hp.wnAt ls h ≤ i
  head : ∀ h ∈ done, Hp.Head ls h
theorem Hp.At.start {ls : List Int} {hs : List Nat} (h : Hp.heads ls = some hs) : Hp.At ls hs 0 [] hs := ⟨rfl, h, fun _ h => (by cases h), fun _ h => (by cases h)⟩
theorem Hp.At.fpos_lo {ls : List Int} {hs : List Nat} {i : Nat} {done rest : List Nat} (h : Hp.At ls hs i done rest) (p : Nat) (hp : i ≤ p) : Hp.fpos ls hs p = rest.any (fun h => decide (h < p) && decide (p < h + 1 + (Hp.fields ls h).length)) := by
  unfold Hp.fpos
  rw [h.all, List.any_append]
  have : done.any (fun h => decide (h < p) && decide (p < h + 1 + (Hp.fields ls h).length)) = false := by
    rw [List.any_eq_false]
    intro k hk
    have h1 := h.before k hk
    have h2 := Hp.fields_fit (h.head k hk)
    simp only [Bool.and_eq_true, decide_eq_true_eq, not_and]
    intro _
    omega
  rw [this, Bool.false_or]
theorem Hp.At.here {ls : List Int} {hs : List Nat} {i : Nat} {done rest : List Nat} (h : Hp.At ls hs i done rest) (hi : i < ls.length) : ∃ rest', rest = i :: rest' ∧ Hp.Head ls i ∧ Hp.At ls hs (i + Hp.wnAt ls i) (done ++ [i]) rest' ∧ ∀ p, i ≤ p → p < i + Hp.wnAt ls i → Hp.fpos ls hs p = (decide (i < p) && decide (p < i + 1 + (Hp.fields ls i).length)) := by
  have hf := h.from_
  by_cases hb : (Wd.words ls[i]).2 = false ∨ ls.length < i + Hp.wn ls[i]
  · rw [Hp.from_bad ls i hi hb] at hf; cases hf
  · simp only [not_or] at hb
    have hw : (Wd.words ls[i]).2 = true := by simpa using hb.1
    rw [Hp.from_next ls i hi hw (by omega)] at hf
    obtain ⟨rest', h1, rfl⟩ := Option.map_eq_some_iff.1 hf
    have hhd : Hp.Head ls i := ⟨hi, hw, by omega⟩
    have hwe : Hp.wn ls[i] = Hp.wnAt ls i := (Hp.thing_head hhd).1.symm
    rw [hwe] at h1
    refine ⟨rest', rfl, hhd, ⟨by rw [h.all]; simp, h1, fun k hk => ?_, fun k hk => ?_⟩, fun p hp1 hp2 => ?_⟩
    · rcases List.mem_append.1 hk with hk | hk
      · have := h.before k hk; omega
      · simp only [List.mem_singleton] at hk; subst hk; exact Nat.le_refl _
    · rcases List.mem_append.1 hk with hk | hk
      · exact h.head k hk
      · simp only [List.mem_singleton] at hk; subst hk; exact hhd
    · rw [h.fpos_lo p hp1, List.any_cons]
      have : rest'.any (fun h => decide (h < p) && decide (p < h + 1 + (Hp.fields ls h).length)) = false := by
        rw [List.any_eq_false]
        intro k hk
        have := (Hp.from_head ls _ _ _ (Nat.le_refl _) h1 k hk).1
        simp only [Bool.and_eq_true, decide_eq_true_eq, not_and]
        intro _
        omega
      rw [this, Bool.or_false]

end Go.Proofs.YtgohnekaolgblaaGreat

/- The document's memory: cells by rising places; where a place stands, its byte: contracts (gimletref12's find, get). -/
namespace Go.Proofs.YtgohnekaolgblaaGreat
open Go.RowKit

/-- The cells of a list of places and bytes. -/
def Mm.flat (L : List (Int × Int)) : List Value := L.flatMap fun p => [.int .i64 p.1, .int .u8 p.2]
theorem Mm.flat_length (L : List (Int × Int)) : (Mm.flat L).length = L.length * 2 := by
  induction L with
  | nil => rfl
  | cons p L ih => simp only [Mm.flat, List.flatMap_cons, List.length_append, List.length_cons, List.length_nil] at ih ⊢; omega
theorem Mm.flat_get : ∀ (L : List (Int × Int)) (j : Nat) (hj : j < L.length), (Mm.flat L)[j * 2]? = some (.int .i64 L[j].1) ∧ (Mm.flat L)[j * 2 + 1]? = some (.int .u8 L[j].2)
  | p :: L, 0, _ => by simp [Mm.flat]
  | p :: L, j + 1, hj => by
    have := Mm.flat_get L j (by simpa using hj)
    rw [show (j + 1) * 2 = j * 2 + 2 by omega]
    simpa [Mm.flat] using this
/-- The places rise. -/
def Mm.Up (L : List (Int × Int)) : Prop := ∀ i j (hi : i < L.length) (hj : j < L.length), i < j → L[i].1 < L[j].1
/-- The byte at a place. -/
def Mm.get : List (Int × Int) → Int → Int
  | [], _ => 0
  | p :: L, a => if p.1 = a then p.2 else Mm.get L a
theorem Mm.get_at : ∀ {L : List (Int × Int)} (_ : Mm.Up L) (i : Nat) (hi : i < L.length), Mm.get L L[i].1 = L[i].2
  | p :: L, h, 0, _ => by simp [Mm.get]
  | p :: L, h, i + 1, hi => by
    have h0 := h 0 (i + 1) (by simp) hi (by omega)
    simp only [List.getElem_cons_zero, List.getElem_cons_succ] at h0
    have hL : Mm.Up L := fun i j hi hj hij => by have := h (i + 1) (j + 1) (by simpa using hi) (by simpa using hj) (by omega); simpa using this
    simp only [List.getElem_cons_succ, Mm.get]
    rw [if_neg (by omega)]
    exact Mm.get_at hL i (by simpa using hi)
theorem Mm.get_not : ∀ {L : List (Int × Int)} {a : Int}, (∀ j (hj : j < L.length), L[j].1 ≠ a) → Mm.get L a = 0
  | [], _, _ => rfl
  | p :: L, a, h => by
    have h0 := h 0 (by simp)
    simp only [List.getElem_cons_zero] at h0
    simp only [Mm.get, if_neg h0]
    exact Mm.get_not fun j hj => by have := h (j + 1) (by simpa using hj); simpa using this

/-- The memory in block m: so many pages, at most; its cells in a row of its own, from block B on. -/
structure MemAt (w : World) (B m : Nat) (N Most : Int) (sv : Value) (L : List (Int × Int)) : Prop where
  vb : VB w m 117 #[.int .u32 N, .int .u32 Most, sv]
  own : w.ownsRow B 119 2 sv L.length (Mm.flat L)
  up : Mm.Up L
theorem MemAt.slice {w : World} {B m : Nat} {N Most : Int} {sv : Value} {L : List (Int × Int)} (h : MemAt w B m N Most sv L) : ∃ A cap, sv = .slice A L.length cap ∧ ∀ i (hi : i < L.length), ∃ g, A = some ⟨g, 0, none⟩ ∧ B ≤ g ∧ g < w.heap.size ∧ w.cell? ⟨g, i * 2, none⟩ = some (.int .i64 L[i].1) ∧ w.cell? ⟨g, i * 2 + 1, none⟩ = some (.int .u8 L[i].2) ∧ w.frozen? ⟨g, i * 2 + 1, none⟩ = false := by
  have hc := fun g hg => World.ownsRow.cells h.own (g := g) hg
  have hl := World.ownsRow.lt h.own
  obtain ⟨h1, ⟨rfl, hn⟩ | ⟨g, cap, cur, rfl, hB, hh, -⟩⟩ := h.own
  · exact ⟨none, 0, by rw [hn], fun i hi => by omega⟩
  · refine ⟨_, cap, rfl, fun i hi => ⟨g, rfl, hB, (hl g rfl).2, ?_, ?_, ?_⟩⟩
    · have := hc g rfl (i * 2) _ (Mm.flat_get L i hi).1
      rwa [Addr.add_lit, Nat.zero_add] at this
    · have := hc g rfl (i * 2 + 1) _ (Mm.flat_get L i hi).2
      rwa [Addr.add_lit, Nat.zero_add] at this
    · simp [World.frozen?, hh]
theorem MemAt.call {w w' : World} {B m : Nat} {N Most : Int} {sv : Value} {L : List (Int × Int)} (h : MemAt w B m N Most sv L) (b : Below w.heap.size w w') : MemAt w' B m N Most sv L := by
  refine ⟨h.vb.call b, ?_, h.up⟩
  have hl := World.ownsRow.lt h.own
  obtain ⟨h1, h2 | ⟨g, cap, cur, hv, hB, hh, r⟩⟩ := h.own
  · exact ⟨h1, .inl h2⟩
  · exact ⟨h1, .inr ⟨g, cap, cur, hv, hB, by rw [b.block g (hl g (by rw [hv]; rfl)).2]; exact hh, r⟩⟩

/-- Where a place stands, or would. -/
def Mm.Spot (L : List (Int × Int)) (a : Int) (i : Nat) (is : Bool) : Prop := i ≤ L.length ∧ (∀ j (hj : j < L.length), j < i → L[j].1 < a) ∧ (∀ j (hj : j < L.length), i ≤ j → a ≤ L[j].1) ∧ (is = true ↔ ∃ h : i < L.length, L[i].1 = a)

set_option maxRecDepth 100000 in
set_option maxHeartbeats 4000000 in
theorem mmFindQ (w : World) (B m : Nat) (N Most : Int) (sv : Value) (L : List (Int × Int)) (a : Int) (h : MemAt w B m N Most sv L) (hlen : L.length ≤ 1000000) :
    Calls Tryz.prog 53 #[.pointer (some ⟨m, 0, none⟩), .int .i64 a] w fun e w' => ∃ i is, e = .returned (.tuple #[.int .i64 (i : Nat), .bool is]) ∧ Mm.Spot L a i is ∧ ∃ q, w' = w.drewN q := by
  obtain ⟨A, cap, rfl, hel⟩ := h.slice
  have v2 := h.vb.cell 2
  have ml := h.vb.lt
  simp at v2
  have hlI : (L.length : Int) ≤ 1000000 := by omega
  have hup := Lib.hid h.up
  replace hel := Lib.hid hel
  replace h := Lib.hid h
  go_enter Tryz.func53, Tryz.ntmps53
  go_wp2_with fail
  go_quiet (fail)
  have B0 : Below w.heap.size w (w.drewN nq) := ⟨rfl, rfl, rfl, Nat.le_refl _, fun _ _ => rfl⟩
  have w2 : (w.drewN nq).cell? ⟨m, 2, none⟩ = some (.slice A L.length cap) := v2
  obtain ⟨wa, hwa⟩ : ∃ wa, wa = w.drewN nq := ⟨_, rfl⟩
  rw [← hwa] at B0 w2 ⊢
  replace hwa := Lib.hid hwa
  replace B0 := Lib.hid B0
  go_wp2_with fail
  go_loopw [6, 7] (fun lo hi wr => ∃ (i k : Nat), lo = .int .i64 (i : Int) ∧ hi = .int .i64 (k : Int) ∧ i ≤ k ∧ k ≤ L.length ∧ (∀ j (hj : j < L.length), j < i → L[j].1 < a) ∧ (∀ j (hj : j < L.length), k ≤ j → a ≤ L[j].1) ∧ wr = wa)
    (fun lo hi _ => (intOf hi - intOf lo).toNat)
  case atStart => exact ⟨0, L.length, rfl, rfl, by omega, by omega, fun j hj h0 => by omega, fun j hj h0 => by omega, rfl⟩
  case round =>
    obtain ⟨i, k, rfl, rfl, hik, hkl, hlow, hhigh, rfl⟩ := hrel
    replace hlow := Lib.hid hlow
    replace hhigh := Lib.hid hhigh
    by_cases hlt : i < k
    · obtain ⟨c, hc⟩ : ∃ c, c = (i + k) / 2 := ⟨_, rfl⟩
      have hcl : c < L.length := by omega
      have hci : i ≤ c ∧ c < k := by omega
      have hcI : ((i : Int) + (k : Int)) / 2 = (c : Int) := by omega
      obtain ⟨g, rfl, hgB, hgw, x0, x1, -⟩ := hel.out c hcl
      have x0 := (B0.out.cell (p := ⟨g, c * 2, none⟩) hgw).trans x0
      replace hc := Lib.hid hc
      have hkI : (k : Int) ≤ 1000000 := by omega
      clear x1
      by_cases hd : L[c].1 < a
      · go_wp2_with fail
        go_roundw
        case measure => simp only [intOf]; omega
        case rel =>
          refine ⟨c + 1, k, rfl, rfl, by omega, by omega, fun j hj hjc => ?_, hhigh.out, by first | rfl | trivial⟩
          by_cases e : j = c
          · subst e; exact hd
          · have := hup.out j c hj hcl (by omega); omega
      · go_wp2_with fail
        go_roundw
        case measure => simp only [intOf]; omega
        case rel =>
          refine ⟨i, c, rfl, by rw [hcI], by omega, by omega, hlow.out, fun j hj hjc => ?_, by first | rfl | trivial⟩
          by_cases e : j = c
          · subst e; omega
          · have := hup.out c j hcl hj (by omega); omega
    · have hie : k = i := by omega
      subst hie
      by_cases hil : k < L.length
      · obtain ⟨g, rfl, hgB, hgw, x0, x1, -⟩ := hel.out k hil
        have x0 := (B0.out.cell (p := ⟨g, k * 2, none⟩) hgw).trans x0
        have hilI : (k : Int) < (L.length : Int) := by omega
        clear x1 hlt hik
        obtain ⟨y, hy⟩ : ∃ y, y = L[k].1 := ⟨_, rfl⟩
        rw [← hy] at x0
        replace hy := Lib.hid hy
        go_wp2_with fail
        go_quiet (fail)
        go_wp2_with fail
        go_returns
        refine ⟨k, y == a, rfl, ⟨hkl, hlow.out, hhigh.out, ?_⟩, _, by rw [hwa.out, World.drewN_drewN]⟩
        rw [hy.out, beq_iff_eq]
        exact ⟨fun h => ⟨hil, h⟩, fun ⟨_, h⟩ => h⟩
      · have hilI : ¬ (k : Int) < (L.length : Int) := by omega
        clear hlt hik
        go_wp2_with fail
        go_quiet (fail)
        go_wp2_with fail
        go_returns
        refine ⟨k, false, rfl, ⟨hkl, hlow.out, hhigh.out, ?_⟩, _, by rw [hwa.out, World.drewN_drewN]⟩
        exact ⟨fun h => (by cases h), fun ⟨h, _⟩ => absurd h hil⟩

theorem below_drewN (w : World) (q : Nat) : Below w.heap.size w (w.drewN q) := ⟨rfl, rfl, rfl, Nat.le_refl _, fun _ _ => rfl⟩
theorem mmFind (w : World) (B m : Nat) (N Most : Int) (sv : Value) (L : List (Int × Int)) (a : Int) (h : MemAt w B m N Most sv L) (hlen : L.length ≤ 1000000) :
    Calls Tryz.prog 53 #[.pointer (some ⟨m, 0, none⟩), .int .i64 a] w fun e w' => ∃ i is, e = .returned (.tuple #[.int .i64 (i : Nat), .bool is]) ∧ Mm.Spot L a i is ∧ Below w.heap.size w w' :=
  (mmFindQ w B m N Most sv L a h hlen).mono fun _ _ ⟨i, is, h1, h2, q, h3⟩ => ⟨i, is, h1, h2, h3 ▸ below_drewN w q⟩

theorem Mm.Spot.get {L : List (Int × Int)} {a : Int} {i : Nat} {is : Bool} (hu : Mm.Up L) (h : Mm.Spot L a i is) : (is = true → ∃ h : i < L.length, L[i].1 = a ∧ Mm.get L a = L[i].2) ∧ (is = false → Mm.get L a = 0) := by
  obtain ⟨h1, h2, h3, h4⟩ := h
  refine ⟨fun e => ?_, fun e => Mm.get_not fun j hj he => ?_⟩
  · obtain ⟨hi, ha⟩ := h4.1 e
    exact ⟨hi, ha, by rw [← ha]; exact Mm.get_at hu i hi⟩
  · rcases Nat.lt_or_ge j i with hji | hji
    · have := h2 j hj hji; omega
    · have hil : i < L.length := by omega
      have hle := h3 i hil (Nat.le_refl _)
      by_cases e2 : i = j
      · subst e2
        have := h4.2 ⟨hil, he⟩
        rw [e] at this; cases this
      · have := hu i j hil hj (by omega); omega

theorem mmGetQ (w : World) (B m : Nat) (N Most : Int) (sv : Value) (L : List (Int × Int)) (a : Int) (h : MemAt w B m N Most sv L) (hlen : L.length ≤ 1000000) :
    Calls Tryz.prog 103 #[.pointer (some ⟨m, 0, none⟩), .int .i64 a] w fun e w' => e = .returned (.int .u8 (Mm.get L a)) ∧ ∃ q, w' = w.drewN q := by
  have C := Lib.hid (mmFindQ w B m N Most sv L a h hlen)
  replace h := Lib.hid h
  obtain ⟨r, hr⟩ : ∃ r, r = Mm.get L a := ⟨_, rfl⟩
  rw [← hr]
  replace hr := Lib.hid hr
  go_enter Tryz.func103, Tryz.ntmps103
  go_wp2_with fail
  refine C.out.mono ?_
  rintro _ w1 ⟨i, is, rfl, hs, q, hq⟩
  have b1 : Below w.heap.size w w1 := hq ▸ below_drewN w q
  replace hq := Lib.hid hq
  have h1 := h.out.call b1
  obtain ⟨g1, g2⟩ := hs.get h1.up
  have hs1 := hs.1
  have v2 := h1.vb.cell 2
  simp at v2
  obtain ⟨A, cap, rfl, hel⟩ := h1.slice
  replace b1 := Lib.hid b1
  cases is with
  | true =>
    obtain ⟨hil, ha, hg⟩ := g1 rfl
    obtain ⟨g, rfl, -, -, x0, x1, -⟩ := hel i hil
    have hilI : (i : Int) < (L.length : Int) := by omega
    rw [← hg, ← hr.out] at x1
    clear g1 g2 hs hel h1 hg ha x0
    go_wp2_with fail
    go_returns
    exact ⟨rfl, q, hq.out⟩
  | false =>
    have hr0 : Hid (r = 0) := Lib.hid (by rw [hr.out, g2 rfl])
    clear g1 g2 hs hel h1
    go_wp2_with fail
    go_returns
    exact ⟨by rw [hr0.out]; rfl, q, hq.out⟩

theorem mmGet (w : World) (B m : Nat) (N Most : Int) (sv : Value) (L : List (Int × Int)) (a : Int) (h : MemAt w B m N Most sv L) (hlen : L.length ≤ 1000000) :
    Calls Tryz.prog 103 #[.pointer (some ⟨m, 0, none⟩), .int .i64 a] w fun e w' => e = .returned (.int .u8 (Mm.get L a)) ∧ Below w.heap.size w w' :=
  (mmGetQ w B m N Most sv L a h hlen).mono fun _ _ ⟨h1, q, h3⟩ => ⟨h1, h3 ▸ below_drewN w q⟩

theorem mmThere (w : World) (B m : Nat) (N Most : Int) (sv : Value) (L : List (Int × Int)) (a n : Int) (h : MemAt w B m N Most sv L) (h0 : 0 ≤ a ∧ a ≤ 9000000000 ∧ 0 ≤ n ∧ n ≤ 9000000000 ∧ 0 ≤ N ∧ N ≤ 65536) :
    Calls Tryz.prog 52 #[.pointer (some ⟨m, 0, none⟩), .int .i64 a, .int .i64 n] w fun e w' => e = .returned (.bool (decide (a + n ≤ N * 65536))) ∧ w' = w := by
  have v0 := h.vb.cell 0
  simp at v0
  have hw : 0 ≤ N * 65536 ∧ N * 65536 ≤ 4294967296 := by omega
  clear h
  go_enter Tryz.func52, Tryz.ntmps52
  go_wp2_with fail
  go_returns
  exact ⟨rfl, rfl⟩

end Go.Proofs.YtgohnekaolgblaaGreat

/- Programs on words as trees: how they lie in memory. -/
namespace Go.Proofs.YtgohnekaolgblaaGreat
open Go.RowKit

/-- An expression. -/
inductive Ex where
  | mk (k n : Int) (l : List Ex)
/-- A thing that is done, without other cases. -/
inductive Lo where
  | mk (k x n : Int) (a : List Ex) (l : List Lo)

theorem Ex.ind {P : Ex → Prop} (h : ∀ k n l, (∀ t ∈ l, P t) → P (.mk k n l)) (t : Ex) : P t :=
  Ex.rec (motive_1 := P) (motive_2 := fun l => ∀ t ∈ l, P t) (fun k n l hl => h k n l hl) (fun t ht => by cases ht)
    (fun x l hx hl t ht => by
      rcases List.mem_cons.1 ht with rfl | ht
      · exact hx
      · exact hl t ht) t
theorem Lo.ind {P : Lo → Prop} (h : ∀ k x n a l, (∀ t ∈ l, P t) → P (.mk k x n a l)) (t : Lo) : P t :=
  Lo.rec (motive_1 := P) (motive_2 := fun l => ∀ t ∈ l, P t) (fun k x n a l hl => h k x n a l hl) (fun t ht => by cases ht)
    (fun x l hx hl t ht => by
      rcases List.mem_cons.1 ht with rfl | ht
      · exact hx
      · exact hl t ht) t

mutual
/-- The value v is the expression. -/
def Ex.at (S : Nat → Prop) (w : World) : Ex → Value → Prop
  | .mk k n l, v => ∃ A cap, v = .agg #[.int .i64 k, .int .i64 n, .slice A l.length cap] ∧ l.length ≤ cap ∧ cap ≤ maxLen ∧ (l ≠ [] → ∃ b off, A = some ⟨b, off, none⟩ ∧ b < w.heap.size ∧ S b ∧ Ex.ats S w l b off)
def Ex.ats (S : Nat → Prop) (w : World) : List Ex → Nat → Nat → Prop
  | [], _, _ => True
  | t :: l, b, off => (∃ v0 v1 v2, w.cell? ⟨b, off, none⟩ = some v0 ∧ w.cell? ⟨b, off + 1, none⟩ = some v1 ∧ w.cell? ⟨b, off + 2, none⟩ = some v2 ∧ Ex.at S w t (.agg #[v0, v1, v2])) ∧ Ex.ats S w l b (off + 3)
end
/-- The slice holds the expressions. -/
def ExL (S : Nat → Prop) (w : World) (l : List Ex) (v : Value) : Prop := ∃ A cap, v = .slice A l.length cap ∧ l.length ≤ cap ∧ cap ≤ maxLen ∧ (l ≠ [] → ∃ b off, A = some ⟨b, off, none⟩ ∧ b < w.heap.size ∧ S b ∧ Ex.ats S w l b off)

theorem Ex.at_mk {S : Nat → Prop} {w : World} {k n : Int} {l : List Ex} {v : Value} : Ex.at S w (.mk k n l) v ↔ ∃ u, v = .agg #[.int .i64 k, .int .i64 n, u] ∧ ExL S w l u := by
  rw [Ex.at]
  constructor
  · rintro ⟨A, cap, rfl, h⟩; exact ⟨_, rfl, A, cap, rfl, h⟩
  · rintro ⟨_, rfl, A, cap, rfl, h⟩; exact ⟨A, cap, rfl, h⟩

theorem Ex.ats_get {S : Nat → Prop} {w : World} {b : Nat} : ∀ {l : List Ex} {off : Nat}, Ex.ats S w l b off → ∀ i, (hi : i < l.length) →
    ∃ v0 v1 v2, w.cell? ⟨b, off + i * 3, none⟩ = some v0 ∧ w.cell? ⟨b, off + i * 3 + 1, none⟩ = some v1 ∧ w.cell? ⟨b, off + i * 3 + 2, none⟩ = some v2 ∧ Ex.at S w l[i] (.agg #[v0, v1, v2])
  | [], _, _, i, hi => absurd hi (by simp)
  | t :: l, off, h, 0, _ => by
    rw [Ex.ats] at h
    exact h.1
  | t :: l, off, h, i + 1, hi => by
    rw [Ex.ats] at h
    obtain ⟨v0, v1, v2, h0, h1, h2, ha⟩ := Ex.ats_get h.2 i (by simpa using hi)
    have e : off + 3 + i * 3 = off + (i + 1) * 3 := by omega
    rw [e] at h0 h1 h2
    exact ⟨v0, v1, v2, h0, h1, h2, ha⟩
theorem Ex.ats_of {S : Nat → Prop} {w : World} {b : Nat} : ∀ {l : List Ex} {off : Nat}, (∀ i, (hi : i < l.length) →
    ∃ v0 v1 v2, w.cell? ⟨b, off + i * 3, none⟩ = some v0 ∧ w.cell? ⟨b, off + i * 3 + 1, none⟩ = some v1 ∧ w.cell? ⟨b, off + i * 3 + 2, none⟩ = some v2 ∧ Ex.at S w l[i] (.agg #[v0, v1, v2])) → Ex.ats S w l b off
  | [], _, _ => by rw [Ex.ats]; trivial
  | t :: l, off, h => by
    rw [Ex.ats]
    refine ⟨h 0 (by simp), Ex.ats_of fun i hi => ?_⟩
    obtain ⟨v0, v1, v2, h0, h1, h2, ha⟩ := h (i + 1) (by simpa using hi)
    have e : off + (i + 1) * 3 = off + 3 + i * 3 := by omega
    rw [e] at h0 h1 h2
    exact ⟨v0, v1, v2, h0, h1, h2, ha⟩

theorem Ex.at_keep {S S' : Nat → Prop} {w w' : World} (hs : w.heap.size ≤ w'.heap.size) (hS : ∀ b, b < w.heap.size → S b → S' b) (hc : ∀ b o u, b < w.heap.size → S b → w.cell? ⟨b, o, none⟩ = some u → w'.cell? ⟨b, o, none⟩ = some u) : ∀ t v, Ex.at S w t v → Ex.at S' w' t v := by
  intro t
  refine Ex.ind (P := fun t => ∀ v, Ex.at S w t v → Ex.at S' w' t v) ?_ t
  intro k n l ih v h
  rw [Ex.at_mk] at h ⊢
  obtain ⟨_, rfl, A, cap, rfl, h1, h2, h3⟩ := h
  refine ⟨_, rfl, A, cap, rfl, h1, h2, fun hne => ?_⟩
  obtain ⟨b, off, rfl, hb, hb', ha⟩ := h3 hne
  refine ⟨b, off, rfl, Nat.lt_of_lt_of_le hb hs, hS b hb hb', Ex.ats_of fun i hi => ?_⟩
  obtain ⟨v0, v1, v2, c0, c1, c2, ha⟩ := Ex.ats_get ha i hi
  exact ⟨v0, v1, v2, hc _ _ _ hb hb' c0, hc _ _ _ hb hb' c1, hc _ _ _ hb hb' c2, ih _ (List.getElem_mem hi) _ ha⟩
theorem ExL.keep {S S' : Nat → Prop} {w w' : World} (hs : w.heap.size ≤ w'.heap.size) (hS : ∀ b, b < w.heap.size → S b → S' b) (hc : ∀ b o u, b < w.heap.size → S b → w.cell? ⟨b, o, none⟩ = some u → w'.cell? ⟨b, o, none⟩ = some u) {l : List Ex} {v : Value} (h : ExL S w l v) : ExL S' w' l v := by
  have h1 : Ex.at S w (.mk 0 0 l) (.agg #[.int .i64 0, .int .i64 0, v]) := Ex.at_mk.2 ⟨_, rfl, h⟩
  obtain ⟨u, he, h2⟩ := Ex.at_mk.1 (Ex.at_keep hs hS hc _ _ h1)
  simp only [Value.agg.injEq, Array.mk.injEq, List.cons.injEq, and_true, true_and] at he
  rw [he]; exact h2

mutual
/-- The value v is the thing. -/
def Lo.at (S : Nat → Prop) (w : World) : Lo → Value → Prop
  | .mk k x n a l, v => ∃ va A cap, v = .agg #[.int .i64 k, .int .i64 x, .int .i64 n, va, .slice A l.length cap, .slice none 0 0] ∧ ExL S w a va ∧ l.length ≤ cap ∧ cap ≤ maxLen ∧ (l ≠ [] → ∃ b off, A = some ⟨b, off, none⟩ ∧ b < w.heap.size ∧ S b ∧ Lo.ats S w l b off)
def Lo.ats (S : Nat → Prop) (w : World) : List Lo → Nat → Nat → Prop
  | [], _, _ => True
  | t :: l, b, off => (∃ v0 v1 v2 v3 v4 v5, w.cell? ⟨b, off, none⟩ = some v0 ∧ w.cell? ⟨b, off + 1, none⟩ = some v1 ∧ w.cell? ⟨b, off + 2, none⟩ = some v2 ∧ w.cell? ⟨b, off + 3, none⟩ = some v3 ∧ w.cell? ⟨b, off + 4, none⟩ = some v4 ∧ w.cell? ⟨b, off + 5, none⟩ = some v5 ∧ Lo.at S w t (.agg #[v0, v1, v2, v3, v4, v5])) ∧ Lo.ats S w l b (off + 6)
end
/-- The slice holds the things. -/
def LoL (S : Nat → Prop) (w : World) (l : List Lo) (v : Value) : Prop := ∃ A cap, v = .slice A l.length cap ∧ l.length ≤ cap ∧ cap ≤ maxLen ∧ (l ≠ [] → ∃ b off, A = some ⟨b, off, none⟩ ∧ b < w.heap.size ∧ S b ∧ Lo.ats S w l b off)

theorem Lo.at_mk {S : Nat → Prop} {w : World} {k x n : Int} {a : List Ex} {l : List Lo} {v : Value} : Lo.at S w (.mk k x n a l) v ↔ ∃ va u, v = .agg #[.int .i64 k, .int .i64 x, .int .i64 n, va, u, .slice none 0 0] ∧ ExL S w a va ∧ LoL S w l u := by
  rw [Lo.at]
  constructor
  · rintro ⟨va, A, cap, rfl, h0, h⟩; exact ⟨va, _, rfl, h0, A, cap, rfl, h⟩
  · rintro ⟨va, _, rfl, h0, A, cap, rfl, h⟩; exact ⟨va, A, cap, rfl, h0, h⟩
theorem Lo.ats_get {S : Nat → Prop} {w : World} {b : Nat} : ∀ {l : List Lo} {off : Nat}, Lo.ats S w l b off → ∀ i, (hi : i < l.length) →
    ∃ v0 v1 v2 v3 v4 v5, w.cell? ⟨b, off + i * 6, none⟩ = some v0 ∧ w.cell? ⟨b, off + i * 6 + 1, none⟩ = some v1 ∧ w.cell? ⟨b, off + i * 6 + 2, none⟩ = some v2 ∧ w.cell? ⟨b, off + i * 6 + 3, none⟩ = some v3 ∧ w.cell? ⟨b, off + i * 6 + 4, none⟩ = some v4 ∧ w.cell? ⟨b, off + i * 6 + 5, none⟩ = some v5 ∧ Lo.at S w l[i] (.agg #[v0, v1, v2, v3, v4, v5])
  | [], _, _, i, hi => absurd hi (by simp)
  | t :: l, off, h, 0, _ => by
    rw [Lo.ats] at h
    exact h.1
  | t :: l, off, h, i + 1, hi => by
    rw [Lo.ats] at h
    obtain ⟨v0, v1, v2, v3, v4, v5, h0, h1, h2, h3, h4, h5, ha⟩ := Lo.ats_get h.2 i (by simpa using hi)
    have e : off + 6 + i * 6 = off + (i + 1) * 6 := by omega
    rw [e] at h0 h1 h2 h3 h4 h5
    exact ⟨v0, v1, v2, v3, v4, v5, h0, h1, h2, h3, h4, h5, ha⟩
theorem Lo.ats_of {S : Nat → Prop} {w : World} {b : Nat} : ∀ {l : List Lo} {off : Nat}, (∀ i, (hi : i < l.length) →
    ∃ v0 v1 v2 v3 v4 v5, w.cell? ⟨b, off + i * 6, none⟩ = some v0 ∧ w.cell? ⟨b, off + i * 6 + 1, none⟩ = some v1 ∧ w.cell? ⟨b, off + i * 6 + 2, none⟩ = some v2 ∧ w.cell? ⟨b, off + i * 6 + 3, none⟩ = some v3 ∧ w.cell? ⟨b, off + i * 6 + 4, none⟩ = some v4 ∧ w.cell? ⟨b, off + i * 6 + 5, none⟩ = some v5 ∧ Lo.at S w l[i] (.agg #[v0, v1, v2, v3, v4, v5])) → Lo.ats S w l b off
  | [], _, _ => by rw [Lo.ats]; trivial
  | t :: l, off, h => by
    rw [Lo.ats]
    refine ⟨h 0 (by simp), Lo.ats_of fun i hi => ?_⟩
    obtain ⟨v0, v1, v2, v3, v4, v5, h0, h1, h2, h3, h4, h5, ha⟩ := h (i + 1) (by simpa using hi)
    have e : off + (i + 1) * 6 = off + 6 + i * 6 := by omega
    rw [e] at h0 h1 h2 h3 h4 h5
    exact ⟨v0, v1, v2, v3, v4, v5, h0, h1, h2, h3, h4, h5, ha⟩
theorem Lo.at_keep {S S' : Nat → Prop} {w w' : World} (hs : w.heap.size ≤ w'.heap.size) (hS : ∀ b, b < w.heap.size → S b → S' b) (hc : ∀ b o u, b < w.heap.size → S b → w.cell? ⟨b, o, none⟩ = some u → w'.cell? ⟨b, o, none⟩ = some u) : ∀ t v, Lo.at S w t v → Lo.at S' w' t v := by
  intro t
  refine Lo.ind (P := fun t => ∀ v, Lo.at S w t v → Lo.at S' w' t v) ?_ t
  intro k x n a l ih v h
  rw [Lo.at_mk] at h ⊢
  obtain ⟨va, _, rfl, h0, A, cap, rfl, h1, h2, h3⟩ := h
  refine ⟨va, _, rfl, h0.keep hs hS hc, A, cap, rfl, h1, h2, fun hne => ?_⟩
  obtain ⟨b, off, rfl, hb, hb', ha⟩ := h3 hne
  refine ⟨b, off, rfl, Nat.lt_of_lt_of_le hb hs, hS b hb hb', Lo.ats_of fun i hi => ?_⟩
  obtain ⟨v0, v1, v2, v3, v4, v5, c0, c1, c2, c3, c4, c5, ha⟩ := Lo.ats_get ha i hi
  exact ⟨v0, v1, v2, v3, v4, v5, hc _ _ _ hb hb' c0, hc _ _ _ hb hb' c1, hc _ _ _ hb hb' c2, hc _ _ _ hb hb' c3, hc _ _ _ hb hb' c4, hc _ _ _ hb hb' c5, ih _ (List.getElem_mem hi) _ ha⟩
theorem LoL.keep {S S' : Nat → Prop} {w w' : World} (hs : w.heap.size ≤ w'.heap.size) (hS : ∀ b, b < w.heap.size → S b → S' b) (hc : ∀ b o u, b < w.heap.size → S b → w.cell? ⟨b, o, none⟩ = some u → w'.cell? ⟨b, o, none⟩ = some u) {l : List Lo} {v : Value} (h : LoL S w l v) : LoL S' w' l v := by
  have h1 : Lo.at S w (.mk 0 0 0 [] l) (.agg #[.int .i64 0, .int .i64 0, .int .i64 0, .slice none 0 0, v, .slice none 0 0]) := Lo.at_mk.2 ⟨_, _, rfl, ⟨none, 0, rfl, by simp, by simp [maxLen], fun h => absurd rfl h⟩, h⟩
  obtain ⟨va, u, he, _, h2⟩ := Lo.at_mk.1 (Lo.at_keep hs hS hc _ _ h1)
  simp only [Value.agg.injEq, Array.mk.injEq, List.cons.injEq, and_true, true_and] at he
  rw [he.2]; exact h2

theorem keepB {w w' : World} (hb : Below w.heap.size w w') : ∀ b o u, b < w.heap.size → w.cell? ⟨b, o, none⟩ = some u → w'.cell? ⟨b, o, none⟩ = some u :=
  fun b o _ hlt hc => (hb.cell (p := ⟨b, o, none⟩) hlt).trans hc
theorem Ex.at.below {S : Nat → Prop} {w w' : World} {t : Ex} {v : Value} (h : Ex.at S w t v) (hb : Below w.heap.size w w') : Ex.at S w' t v := Ex.at_keep hb.size (fun _ _ h => h) (fun b o u h1 _ => keepB hb b o u h1) t v h
theorem ExL.below {S : Nat → Prop} {w w' : World} {t : List Ex} {v : Value} (h : ExL S w t v) (hb : Below w.heap.size w w') : ExL S w' t v := ExL.keep hb.size (fun _ _ h => h) (fun b o u h1 _ => keepB hb b o u h1) h
theorem Lo.at.below {S : Nat → Prop} {w w' : World} {t : Lo} {v : Value} (h : Lo.at S w t v) (hb : Below w.heap.size w w') : Lo.at S w' t v := Lo.at_keep hb.size (fun _ _ h => h) (fun b o u h1 _ => keepB hb b o u h1) t v h
theorem LoL.below {S : Nat → Prop} {w w' : World} {t : List Lo} {v : Value} (h : LoL S w t v) (hb : Below w.heap.size w w') : LoL S w' t v := LoL.keep hb.size (fun _ _ h => h) (fun b o u h1 _ => keepB hb b o u h1) h
theorem Ex.at.alloc {S : Nat → Prop} {w : World} {t : Ex} {v : Value} (h : Ex.at S w t v) (o : Obj) : Ex.at S (w.alloc o) t v := h.below (B.alloc (B.refl w) o)
theorem ExL.alloc {S : Nat → Prop} {w : World} {t : List Ex} {v : Value} (h : ExL S w t v) (o : Obj) : ExL S (w.alloc o) t v := h.below (B.alloc (B.refl w) o)
theorem Lo.at.alloc {S : Nat → Prop} {w : World} {t : Lo} {v : Value} (h : Lo.at S w t v) (o : Obj) : Lo.at S (w.alloc o) t v := h.below (B.alloc (B.refl w) o)
theorem LoL.alloc {S : Nat → Prop} {w : World} {t : List Lo} {v : Value} (h : LoL S w t v) (o : Obj) : LoL S (w.alloc o) t v := h.below (B.alloc (B.refl w) o)

/-- What a value is: its fields. -/
theorem Ex.agg {S : Nat → Prop} {w : World} {k n : Int} {l : List Ex} {v : Value} (h : Ex.at S w (.mk k n l) v) : ∃ A cap, v = .agg #[.int .i64 k, .int .i64 n, .slice A l.length cap] := by
  obtain ⟨_, rfl, A, cap, rfl, _⟩ := Ex.at_mk.1 h; exact ⟨A, cap, rfl⟩
theorem Lo.agg {S : Nat → Prop} {w : World} {k x n : Int} {a : List Ex} {l : List Lo} {v : Value} (h : Lo.at S w (.mk k x n a l) v) : ∃ A c A' c', v = .agg #[.int .i64 k, .int .i64 x, .int .i64 n, .slice A a.length c, .slice A' l.length c', .slice none 0 0] := by
  obtain ⟨_, _, rfl, ⟨A, c, rfl, _⟩, A', c', rfl, _⟩ := Lo.at_mk.1 h; exact ⟨A, c, A', c', rfl⟩
theorem ExL.nil (S : Nat → Prop) (w : World) : ExL S w [] (.slice none 0 0) := ⟨none, 0, rfl, by simp, by simp [maxLen], fun h => absurd rfl h⟩
theorem LoL.nil (S : Nat → Prop) (w : World) : LoL S w [] (.slice none 0 0) := ⟨none, 0, rfl, by simp, by simp [maxLen], fun h => absurd rfl h⟩

/-- A literal list of expressions: the block is laid. -/
theorem ExL.lit {S : Nat → Prop} {w : World} (ts : List Ex) (vs : List (Value × Value × Value)) (T : TypeId) (hl : ts.length = vs.length) (h : ∀ i (hi : i < ts.length), Ex.at S w ts[i] (.agg #[vs[i].1, vs[i].2.1, vs[i].2.2])) (cells : Array Value) (hc : cells = (vs.flatMap fun v => [v.1, v.2.1, v.2.2]).toArray) (hm : ts.length ≤ maxLen) (g : Nat) (hg : g = w.heap.size) (hS : S g) :
    ExL S (w.alloc (.cells cells T)) ts (.slice (some ⟨g, 0, none⟩) ts.length ts.length) := by
  subst hg hc
  have hget : ∀ (vs : List (Value × Value × Value)) (i : Nat) (hi : i < vs.length), (vs.flatMap fun v => [v.1, v.2.1, v.2.2])[i * 3]? = some vs[i].1 ∧ (vs.flatMap fun v => [v.1, v.2.1, v.2.2])[i * 3 + 1]? = some vs[i].2.1 ∧ (vs.flatMap fun v => [v.1, v.2.1, v.2.2])[i * 3 + 2]? = some vs[i].2.2 := by
    intro vs
    induction vs with
    | nil => intro i hi; simp at hi
    | cons v vs ih =>
      intro i hi
      cases i with
      | zero => simp
      | succ i =>
        have := ih i (by simpa using hi)
        rw [show (i + 1) * 3 = i * 3 + 3 by omega]
        simpa using this
  refine ⟨_, _, rfl, Nat.le_refl _, hm, fun _ => ⟨_, _, rfl, by simp, hS, Ex.ats_of fun i hi => ?_⟩⟩
  obtain ⟨h0, h1, h2⟩ := hget vs i (by omega)
  have cell : ∀ j u, (vs.flatMap fun v => [v.1, v.2.1, v.2.2])[j]? = some u → (w.alloc (.cells (vs.flatMap fun v => [v.1, v.2.1, v.2.2]).toArray T)).cell? ⟨w.heap.size, j, none⟩ = some u := by
    intro j u hj
    have h0 := (VB.new w T (vs.flatMap fun v => [v.1, v.2.1, v.2.2]).toArray).cell j
    rw [h0, List.getElem?_toArray, hj]
  refine ⟨_, _, _, cell _ _ (by rw [Nat.zero_add]; exact h0), cell _ _ (by rw [Nat.zero_add]; exact h1), cell _ _ (by rw [Nat.zero_add]; exact h2), (h i hi).alloc _⟩
/-- A literal list of things: the block is laid. -/
theorem LoL.lit {S : Nat → Prop} {w : World} (ts : List Lo) (vs : List (Value × Value × Value × Value × Value × Value)) (T : TypeId) (hl : ts.length = vs.length) (h : ∀ i (hi : i < ts.length), Lo.at S w ts[i] (.agg #[vs[i].1, vs[i].2.1, vs[i].2.2.1, vs[i].2.2.2.1, vs[i].2.2.2.2.1, vs[i].2.2.2.2.2])) (cells : Array Value) (hc : cells = (vs.flatMap fun v => [v.1, v.2.1, v.2.2.1, v.2.2.2.1, v.2.2.2.2.1, v.2.2.2.2.2]).toArray) (hm : ts.length ≤ maxLen) (g : Nat) (hg : g = w.heap.size) (hS : S g) :
    LoL S (w.alloc (.cells cells T)) ts (.slice (some ⟨g, 0, none⟩) ts.length ts.length) := by
  subst hg hc
  have hget : ∀ (vs : List (Value × Value × Value × Value × Value × Value)) (i : Nat) (hi : i < vs.length), (vs.flatMap fun v => [v.1, v.2.1, v.2.2.1, v.2.2.2.1, v.2.2.2.2.1, v.2.2.2.2.2])[i * 6]? = some vs[i].1 ∧ (vs.flatMap fun v => [v.1, v.2.1, v.2.2.1, v.2.2.2.1, v.2.2.2.2.1, v.2.2.2.2.2])[i * 6 + 1]? = some vs[i].2.1 ∧ (vs.flatMap fun v => [v.1, v.2.1, v.2.2.1, v.2.2.2.1, v.2.2.2.2.1, v.2.2.2.2.2])[i * 6 + 2]? = some vs[i].2.2.1 ∧ (vs.flatMap fun v => [v.1, v.2.1, v.2.2.1, v.2.2.2.1, v.2.2.2.2.1, v.2.2.2.2.2])[i * 6 + 3]? = some vs[i].2.2.2.1 ∧ (vs.flatMap fun v => [v.1, v.2.1, v.2.2.1, v.2.2.2.1, v.2.2.2.2.1, v.2.2.2.2.2])[i * 6 + 4]? = some vs[i].2.2.2.2.1 ∧ (vs.flatMap fun v => [v.1, v.2.1, v.2.2.1, v.2.2.2.1, v.2.2.2.2.1, v.2.2.2.2.2])[i * 6 + 5]? = some vs[i].2.2.2.2.2 := by
    intro vs
    induction vs with
    | nil => intro i hi; simp at hi
    | cons v vs ih =>
      intro i hi
      cases i with
      | zero => simp
      | succ i =>
        have := ih i (by simpa using hi)
        rw [show (i + 1) * 6 = i * 6 + 6 by omega]
        simpa using this
  refine ⟨_, _, rfl, Nat.le_refl _, hm, fun _ => ⟨_, _, rfl, by simp, hS, Lo.ats_of fun i hi => ?_⟩⟩
  obtain ⟨h0, h1, h2, h3, h4, h5⟩ := hget vs i (by omega)
  have cell : ∀ j u, (vs.flatMap fun v => [v.1, v.2.1, v.2.2.1, v.2.2.2.1, v.2.2.2.2.1, v.2.2.2.2.2])[j]? = some u → (w.alloc (.cells (vs.flatMap fun v => [v.1, v.2.1, v.2.2.1, v.2.2.2.1, v.2.2.2.2.1, v.2.2.2.2.2]).toArray T)).cell? ⟨w.heap.size, j, none⟩ = some u := by
    intro j u hj
    have h0 := (VB.new w T (vs.flatMap fun v => [v.1, v.2.1, v.2.2.1, v.2.2.2.1, v.2.2.2.2.1, v.2.2.2.2.2]).toArray).cell j
    rw [h0, List.getElem?_toArray, hj]
  refine ⟨_, _, _, _, _, _, cell _ _ (by rw [Nat.zero_add]; exact h0), cell _ _ (by rw [Nat.zero_add]; exact h1), cell _ _ (by rw [Nat.zero_add]; exact h2), cell _ _ (by rw [Nat.zero_add]; exact h3), cell _ _ (by rw [Nat.zero_add]; exact h4), cell _ _ (by rw [Nat.zero_add]; exact h5), (h i hi).alloc _⟩

def ExV (S : Nat → Prop) (w : World) : List Ex → List (Value × Value × Value) → Prop
  | [], [] => True
  | t :: ts, v :: vs => Ex.at S w t (.agg #[v.1, v.2.1, v.2.2]) ∧ ExV S w ts vs
  | _, _ => False
theorem ExV.get {S : Nat → Prop} {w : World} : ∀ {ts : List Ex} {vs : List (Value × Value × Value)}, ExV S w ts vs → ∃ h : ts.length = vs.length, ∀ i (hi : i < ts.length), Ex.at S w ts[i] (.agg #[(vs[i]'(h ▸ hi)).1, (vs[i]'(h ▸ hi)).2.1, (vs[i]'(h ▸ hi)).2.2])
  | [], [], _ => ⟨rfl, fun i hi => absurd hi (by simp)⟩
  | t :: ts, v :: vs, h => by
    obtain ⟨h1, h2⟩ := h
    obtain ⟨e, h3⟩ := ExV.get h2
    refine ⟨by simp [e], fun i hi => ?_⟩
    cases i with
    | zero => exact h1
    | succ i => exact h3 i (by simpa using hi)
theorem ExL.of {S : Nat → Prop} {w : World} {ts : List Ex} (vs : List (Value × Value × Value)) (h : ExV S w ts vs) (T : TypeId) (cells : Array Value) (hc : cells = (vs.flatMap fun v => [v.1, v.2.1, v.2.2]).toArray) (hm : ts.length ≤ maxLen) (g : Nat) (hg : g = w.heap.size) (hS : S g) :
    ExL S (w.alloc (.cells cells T)) ts (.slice (some ⟨g, 0, none⟩) ts.length ts.length) := by
  obtain ⟨e, h1⟩ := ExV.get h
  exact ExL.lit ts vs T e h1 cells hc hm g hg hS
def LoV (S : Nat → Prop) (w : World) : List Lo → List (Value × Value × Value × Value × Value × Value) → Prop
  | [], [] => True
  | t :: ts, v :: vs => Lo.at S w t (.agg #[v.1, v.2.1, v.2.2.1, v.2.2.2.1, v.2.2.2.2.1, v.2.2.2.2.2]) ∧ LoV S w ts vs
  | _, _ => False
theorem LoV.get {S : Nat → Prop} {w : World} : ∀ {ts : List Lo} {vs : List (Value × Value × Value × Value × Value × Value)}, LoV S w ts vs → ∃ h : ts.length = vs.length, ∀ i (hi : i < ts.length), Lo.at S w ts[i] (.agg #[(vs[i]'(h ▸ hi)).1, (vs[i]'(h ▸ hi)).2.1, (vs[i]'(h ▸ hi)).2.2.1, (vs[i]'(h ▸ hi)).2.2.2.1, (vs[i]'(h ▸ hi)).2.2.2.2.1, (vs[i]'(h ▸ hi)).2.2.2.2.2])
  | [], [], _ => ⟨rfl, fun i hi => absurd hi (by simp)⟩
  | t :: ts, v :: vs, h => by
    obtain ⟨h1, h2⟩ := h
    obtain ⟨e, h3⟩ := LoV.get h2
    refine ⟨by simp [e], fun i hi => ?_⟩
    cases i with
    | zero => exact h1
    | succ i => exact h3 i (by simpa using hi)
theorem LoL.of {S : Nat → Prop} {w : World} {ts : List Lo} (vs : List (Value × Value × Value × Value × Value × Value)) (h : LoV S w ts vs) (T : TypeId) (cells : Array Value) (hc : cells = (vs.flatMap fun v => [v.1, v.2.1, v.2.2.1, v.2.2.2.1, v.2.2.2.2.1, v.2.2.2.2.2]).toArray) (hm : ts.length ≤ maxLen) (g : Nat) (hg : g = w.heap.size) (hS : S g) :
    LoL S (w.alloc (.cells cells T)) ts (.slice (some ⟨g, 0, none⟩) ts.length ts.length) := by
  obtain ⟨e, h1⟩ := LoV.get h
  exact LoL.lit ts vs T e h1 cells hc hm g hg hS

theorem ExV.nil (S : Nat → Prop) (w : World) : ExV S w [] [] := trivial
theorem ExV.cons {S : Nat → Prop} {w : World} {t : Ex} {v0 v1 v2 : Value} {ts : List Ex} {vs : List (Value × Value × Value)} (h : Ex.at S w t (.agg #[v0, v1, v2])) (hs : ExV S w ts vs) : ExV S w (t :: ts) ((v0, v1, v2) :: vs) := ⟨h, hs⟩
theorem LoV.nil (S : Nat → Prop) (w : World) : LoV S w [] [] := trivial
theorem LoV.cons {S : Nat → Prop} {w : World} {t : Lo} {v0 v1 v2 v3 v4 v5 : Value} {ts : List Lo} {vs : List (Value × Value × Value × Value × Value × Value)} (h : Lo.at S w t (.agg #[v0, v1, v2, v3, v4, v5])) (hs : LoV S w ts vs) : LoV S w (t :: ts) ((v0, v1, v2, v3, v4, v5) :: vs) := ⟨h, hs⟩
theorem Ex.at.mono {S S' : Nat → Prop} {w : World} {t : Ex} {v : Value} (h : Ex.at S w t v) (hS : ∀ b, b < w.heap.size → S b → S' b) : Ex.at S' w t v := Ex.at_keep (Nat.le_refl _) hS (fun _ _ _ _ _ h => h) t v h
theorem Ex.at.set {S : Nat → Prop} {w : World} {t : Ex} {v : Value} (h : Ex.at S w t v) {R i : Nat} (hR : ¬ S R) (u : Value) : Ex.at S (w.setCell ⟨R, i, none⟩ u) t v := Ex.at_keep (by simp [World.setCell]) (fun _ _ h => h) (fun b o x _ hb hc => by rw [← hc]; exact World.cell?_of_block (w := w) (Below.heap_setCell w ⟨R, i, none⟩ u b (fun e => hR (by rw [e] at hb; exact hb)))) t v h
theorem ExL.mono {S S' : Nat → Prop} {w : World} {t : List Ex} {v : Value} (h : ExL S w t v) (hS : ∀ b, b < w.heap.size → S b → S' b) : ExL S' w t v := ExL.keep (Nat.le_refl _) hS (fun _ _ _ _ _ h => h) h
theorem ExL.set {S : Nat → Prop} {w : World} {t : List Ex} {v : Value} (h : ExL S w t v) {R i : Nat} (hR : ¬ S R) (u : Value) : ExL S (w.setCell ⟨R, i, none⟩ u) t v := ExL.keep (by simp [World.setCell]) (fun _ _ h => h) (fun b o x _ hb hc => by rw [← hc]; exact World.cell?_of_block (w := w) (Below.heap_setCell w ⟨R, i, none⟩ u b (fun e => hR (by rw [e] at hb; exact hb)))) h
theorem Lo.at.mono {S S' : Nat → Prop} {w : World} {t : Lo} {v : Value} (h : Lo.at S w t v) (hS : ∀ b, b < w.heap.size → S b → S' b) : Lo.at S' w t v := Lo.at_keep (Nat.le_refl _) hS (fun _ _ _ _ _ h => h) t v h
theorem Lo.at.set {S : Nat → Prop} {w : World} {t : Lo} {v : Value} (h : Lo.at S w t v) {R i : Nat} (hR : ¬ S R) (u : Value) : Lo.at S (w.setCell ⟨R, i, none⟩ u) t v := Lo.at_keep (by simp [World.setCell]) (fun _ _ h => h) (fun b o x _ hb hc => by rw [← hc]; exact World.cell?_of_block (w := w) (Below.heap_setCell w ⟨R, i, none⟩ u b (fun e => hR (by rw [e] at hb; exact hb)))) t v h
theorem LoL.mono {S S' : Nat → Prop} {w : World} {t : List Lo} {v : Value} (h : LoL S w t v) (hS : ∀ b, b < w.heap.size → S b → S' b) : LoL S' w t v := LoL.keep (Nat.le_refl _) hS (fun _ _ _ _ _ h => h) h
theorem LoL.set {S : Nat → Prop} {w : World} {t : List Lo} {v : Value} (h : LoL S w t v) {R i : Nat} (hR : ¬ S R) (u : Value) : LoL S (w.setCell ⟨R, i, none⟩ u) t v := LoL.keep (by simp [World.setCell]) (fun _ _ h => h) (fun b o x _ hb hc => by rw [← hc]; exact World.cell?_of_block (w := w) (Below.heap_setCell w ⟨R, i, none⟩ u b (fun e => hR (by rw [e] at hb; exact hb)))) h
theorem Ex.at.drew {S : Nat → Prop} {w : World} {t : Ex} {v : Value} (h : Ex.at S w t v) : Ex.at S w.drew t v := Ex.at_keep (w := w) (w' := w.drew) (Nat.le_refl _) (fun _ _ h => h) (fun _ _ _ _ _ h => h) t v h
theorem ExL.drew {S : Nat → Prop} {w : World} {t : List Ex} {v : Value} (h : ExL S w t v) : ExL S w.drew t v := ExL.keep (w := w) (w' := w.drew) (Nat.le_refl _) (fun _ _ h => h) (fun _ _ _ _ _ h => h) h
theorem Lo.at.drew {S : Nat → Prop} {w : World} {t : Lo} {v : Value} (h : Lo.at S w t v) : Lo.at S w.drew t v := Lo.at_keep (w := w) (w' := w.drew) (Nat.le_refl _) (fun _ _ h => h) (fun _ _ _ _ _ h => h) t v h
theorem LoL.drew {S : Nat → Prop} {w : World} {t : List Lo} {v : Value} (h : LoL S w t v) : LoL S w.drew t v := LoL.keep (w := w) (w' := w.drew) (Nat.le_refl _) (fun _ _ h => h) (fun _ _ _ _ _ h => h) h
theorem VB.drew {w : World} {t : Nat} {T : TypeId} {cs : Array Value} (h : VB w t T cs) : VB w.drew t T cs := h
theorem VB.c3 {w : World} {t : Nat} {T : TypeId} {a b c : Value} (h : VB w t T #[a, b, c]) : w.cell? ⟨t, 0, none⟩ = some a ∧ w.cell? ⟨t, 1, none⟩ = some b ∧ w.cell? ⟨t, 2, none⟩ = some c := ⟨h.cell 0, h.cell 1, h.cell 2⟩
theorem B.drew {w W : World} (h : Below w.heap.size w W) : Below w.heap.size w W.drew := ⟨h.os, h.tape, h.output, h.size, h.block⟩
theorem VB.set3 {w : World} {t : Nat} {T : TypeId} {a b c : Value} (h : VB w t T #[a, b, c]) (x y z : Value) : VB (((w.setCell ⟨t, 0, none⟩ x).setCell ⟨t, 1, none⟩ y).setCell ⟨t, 2, none⟩ z) t T #[x, y, z] := ((h.set 0 x).set 1 y).set 2 z
theorem VB.allocDrew {w : World} {t : Nat} {T : TypeId} {cs : Array Value} (h : VB w.drew t T cs) (o : Obj) : VB (w.alloc o).drew t T cs := VB.alloc (w := w) h o
theorem B.allocDrew {w W : World} (h : Below w.heap.size w W.drew) (o : Obj) : Below w.heap.size w (W.alloc o).drew := B.drew (B.alloc (W := W) ⟨h.os, h.tape, h.output, h.size, h.block⟩ o)
theorem Ex.at.allocDrew {S : Nat → Prop} {w : World} {t : Ex} {v : Value} (h : Ex.at S w.drew t v) (o : Obj) : Ex.at S (w.alloc o).drew t v := Ex.at_keep (w := w.drew) (w' := (w.alloc o).drew) (by simp) (fun _ _ h => h) (fun b o' u hb _ hc => ((B.alloc (B.refl w) o).cell (p := ⟨b, o', none⟩) hb).trans hc) t v h
theorem VB.far3 {w : World} {t : Nat} {T : TypeId} {cs : Array Value} (h : VB w t T cs) {b : Nat} (hne : t ≠ b) (x y z : Value) : VB (((w.setCell ⟨b, 0, none⟩ x).setCell ⟨b, 1, none⟩ y).setCell ⟨b, 2, none⟩ z) t T cs := ((h.far b 0 hne x).far b 1 hne y).far b 2 hne z
theorem B.set3 {w W : World} {t : Nat} (h : Below w.heap.size w W) (ht : w.heap.size ≤ t) (x y z : Value) : Below w.heap.size w (((W.setCell ⟨t, 0, none⟩ x).setCell ⟨t, 1, none⟩ y).setCell ⟨t, 2, none⟩ z) :=
  ((h.setCell (p := ⟨t, 0, none⟩) ht x).setCell (p := ⟨t, 1, none⟩) ht y).setCell (p := ⟨t, 2, none⟩) ht z
theorem Ex.at.set3 {S : Nat → Prop} {w : World} {t : Ex} {v : Value} (h : Ex.at S w t v) {R : Nat} (hR : ¬ S R) (x y z : Value) : Ex.at S (((w.setCell ⟨R, 0, none⟩ x).setCell ⟨R, 1, none⟩ y).setCell ⟨R, 2, none⟩ z) t v := ((h.set hR x).set hR y).set hR z
theorem LoL.set3 {S : Nat → Prop} {w : World} {t : List Lo} {v : Value} (h : LoL S w t v) {R : Nat} (hR : ¬ S R) (x y z : Value) : LoL S (((w.setCell ⟨R, 0, none⟩ x).setCell ⟨R, 1, none⟩ y).setCell ⟨R, 2, none⟩ z) t v := ((h.set hR x).set hR y).set hR z
/-- A function: its parameters, its variables, what it does. -/
def FnAt (S : Nat → Prop) (w : World) (p n : Int) (l : List Lo) (v : Value) : Prop := ∃ u, v = .agg #[.int .i64 p, .int .i64 n, u] ∧ LoL S w l u

end Go.Proofs.YtgohnekaolgblaaGreat
