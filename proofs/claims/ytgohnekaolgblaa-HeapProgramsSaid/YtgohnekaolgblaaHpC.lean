/- heap.Check: contract. -/
import Derived.Test.YtgohnekaolgblaaHpB
namespace Go.Proofs.Ytgohnekaolgblaa
open Go.RowKit

theorem VB.grownRow {w w' : World} {t : Nat} {T : TypeId} {cs : Array Value} (h : VB w t T cs) {row : Option Nat} (hg : w.grownBy w' row) (hne : some t ≠ row) : VB w' t T cs := (hg.block t h.lt hne).trans h

theorem grownNone_below {w w' : World} (hg : w.grownBy w' none) : Below w.heap.size w w' := ⟨hg.os, hg.tape, hg.output, hg.size, fun i hi => hg.block i hi (by simp)⟩

theorem Hp.fields_range {ls : List Int} (hr : ∀ x ∈ ls, 0 ≤ x ∧ x < 4294967296) (i : Nat) : ∀ x ∈ Hp.fields ls i, 0 ≤ x ∧ x < 4294967296 := by
  intro x hx
  unfold Hp.fields at hx
  split at hx
  · cases hx
  · split at hx
    · cases hx
    · exact hr x (List.mem_of_mem_drop (List.mem_of_mem_take hx))

set_option maxHeartbeats 2000000 in
set_option maxRecDepth 100000 in
theorem hpCheckMain (vl vr : Value) (ls rs : List Int) (a : Int) (w : World) (hs : List Nat) (hhs : Hp.heads ls = some hs) (hl : Sees .u32 w vl ls) (hlr : ∀ x ∈ ls, 0 ≤ x ∧ x < 4294967296) (hv : Sees .u32 w vr rs) (hrr : ∀ x ∈ rs, 0 ≤ x ∧ x < 4294967296) (k0 : 0 ≤ a) (k1 : a < 4294967296) (hp : Hp.place a) (hn1 : ls.length ≤ 65536) (hn2 : rs.length ≤ 4096)
    (r : Int) (hr : r = if Hp.okws (Hp.mem hs) a rs = true ∧ ∀ i ∈ hs, Hp.okws (Hp.mem hs) a (Hp.fields ls i) = true then 0 else 2) :
    Calls Try.prog 24 #[vl, .int .u32 a, vr] w fun e w' => e = .returned (.int .i64 r) ∧ Below w.heap.size w w' := by
  obtain ⟨A1, c1, rfl, l1, l2⟩ := hl.len
  obtain ⟨A2, c2, rfl, l3, l4⟩ := hv.len
  unfold maxLen at l2 l4
  have HT := Lib.hid fun w' (h : Below w.heap.size w w') => hpThings _ ls w' (hl.below h (Nat.le_refl _)) hlr
  have HR := Lib.hid fun w' (h : Below w.heap.size w w') S bm n pa ph (hpa : w'.cell? ⟨pa, 0, none⟩ = some (.int .u32 a)) (hph : w'.cell? ⟨ph, 0, none⟩ = some (.map (some bm))) (hset : IsSet w' bm n S) => hpFine _ rs S a pa ph bm n w' (hv.below h (Nat.le_refl _)) hrr k0 k1 hpa hph hset
  have HF := Lib.hid fun w' (h : Below w.heap.size w w') i (hi : i ∈ hs) => hpFields _ ls i w' (hl.below h (Nat.le_refl _)) hlr (Hp.heads_head hhs hi)
  have HG := Lib.hid fun w' (v : Value) i (hv : Sees .u32 w' v (Hp.fields ls i)) S bm n pa ph (hpa : w'.cell? ⟨pa, 0, none⟩ = some (.int .u32 a)) (hph : w'.cell? ⟨ph, 0, none⟩ = some (.map (some bm))) (hset : IsSet w' bm n S) => hpFine v _ S a pa ph bm n w' hv (Hp.fields_range hlr i) k0 k1 hpa hph hset
  have HP := Lib.hid fun w' => hpPlace a w' k0 k1
  rw [show decide (Hp.place a) = true by simpa using hp] at HP
  obtain ⟨q, hq⟩ : ∃ q, q = Hp.okws (Hp.mem hs) a rs := ⟨_, rfl⟩
  rw [← hq] at hr
  replace hq := Lib.hid hq
  replace hr := Lib.hid hr
  replace hhs := Lib.hid hhs
  clear hl hv hlr hrr hp
  go_enter Try.func24, Try.ntmps24
  go_wp2_with fail
  refine (HT.out _ (B.alloc (B.refl w) _)).mono ?_
  rintro _ w1 ⟨o1, rfl, t1, b1⟩
  unfold ThingsPost at t1
  rw [hhs.out] at t1 ⊢
  obtain ⟨bm, n, rfl, hbm, hnl, hset⟩ := t1
  have BB1 := B.call (B.alloc (B.refl w) (.cells #[.int .u32 a] 22)) b1
  have PA1 := (VB.new w 22 #[.int .u32 a]).call b1
  have hbml := hset.lt
  have SE2 := Lib.hid (hset.alloc (.cells #[.map (some bm)] 96))
  have PA2 := Lib.hid (PA1.alloc (.cells #[.map (some bm)] 96))
  have PH2 := Lib.hid (VB.new w1 96 #[.map (some bm)])
  have BB2 := Lib.hid (B.alloc BB1 (.cells #[.map (some bm)] 96))
  have pa0 := PA2.out.cell 0
  simp at pa0
  have ph0 : World.cell? _ ⟨w1.heap.size, 0, none⟩ = some (.map (some bm)) := PH2.out.cell 0
  have hz1 := BB1.size
  have hz1' : w.heap.size < w1.heap.size := PA1.lt
  simp only [World.size_alloc] at hbm
  clear b1 BB1 PA1 hset
  go_wp2_with fail
  refine (HP.out _).mono ?_
  rintro _ w2 ⟨rfl, hw2⟩
  subst hw2
  go_wp2_with fail
  refine (HR.out _ BB2.out _ bm n _ _ pa0 ph0 SE2.out).mono ?_
  rintro _ w3 ⟨rfl, b3⟩
  rw [← hq.out]
  have SE3 := Lib.hid (SE2.out.call b3)
  have PA3 := Lib.hid (PA2.out.call b3)
  have PH3 := Lib.hid (PH2.out.call b3)
  have BB3 := Lib.hid (B.call BB2.out b3)
  have p3 := PH3.out.cell 0
  simp at p3
  have hz3 := PH3.out.lt
  have hz4 := SE3.out.lt
  clear pa0 ph0 SE2 PA2 PH2 BB2 b3
  go_wp2_with (first | (at_range; refine range_set _ rfl _ rfl bm n (Hp.mem hs) rfl SE3.out ?_; intro w4 cnt4 sr4 g4 hz4') | go_in)
  go_frame
  have PA4 := Lib.hid (PA3.out.grownRow g4 (by simp))
  have PH4 := Lib.hid (PH3.out.grownRow g4 (by simp))
  have BB4 := Lib.hid (B.call BB3.out (grownNone_below g4))
  go_loopw [8] (fun p wr => ∃ (okv : Bool) (left : Nat → Bool) (cnt : Nat), p = .bool okv ∧ SetRun wr bm w3.heap.size n (Hp.mem hs) left cnt ∧ (okv = true ↔ q = true ∧ ∀ k, k ∈ hs → left k = false → Hp.okws (Hp.mem hs) a (Hp.fields ls k) = true) ∧ VB wr w.heap.size 22 #[.int .u32 a] ∧ VB wr w1.heap.size 96 #[.map (some bm)] ∧ Below w.heap.size w wr)
    (fun _ wr => wr.rangeLeft bm w3.heap.size)
  case atStart => exact ⟨q, _, cnt4, rfl, sr4, ⟨fun h => ⟨h, fun k hk hl => by simp [Hp.mem, hk] at hl⟩, fun h => h.1⟩, PA4.out, PH4.out, BB4.out⟩
  case round =>
    obtain ⟨okv, left, cnt, rfl, sr, hok, pa, ph, bb⟩ := hrel
    have SR := Lib.hid sr
    have PA := Lib.hid pa
    have PH := Lib.hid ph
    have BB := Lib.hid bb
    replace hok := Lib.hid hok
    have hrne : w3.heap.size ≠ bm := by omega
    clear sr pa ph bb PA4 PH4 BB4 sr4
    go_wp2_with (first | (at_next; refine next_set _ rfl _ rfl bm w3.heap.size n (Hp.mem hs) left cnt rfl SR.out ?_ ?_) | go_in)
    · intro hl0
      have hres : r = if okv = true then 0 else 2 := by
        rw [hr.out]
        congr 1
        rw [hok.out]
        exact propext ⟨fun h => ⟨h.1, fun k hk _ => h.2 k hk⟩, fun h => ⟨h.1, fun k hk => h.2 k hk (hl0 k)⟩⟩
      clear hr hok
      cases okv
      · obtain rfl : r = 2 := by rw [hres]; rfl
        clear hres
        go_wp2_with fail
        go_returns
        exact ⟨rfl, BB.out⟩
      · obtain rfl : r = 0 := by rw [hres]; rfl
        clear hres
        go_wp2_with fail
        go_returns
        exact ⟨rfl, BB.out⟩
    · intro k w5 cnt5 hlk hSk sr5 hlt g5 hs5 hk63 hen
      have hkm : k ∈ hs := by simpa [Hp.mem] using hSk
      have PA5 := Lib.hid (PA.out.grownRow g5 (by simp; omega))
      have PH5 := Lib.hid (PH.out.grownRow g5 (by simp; omega))
      have BB5 : Below w.heap.size w w5 := BB.out.grown g5 BB.out.size (fun j hj => by cases hj; omega)
      have SR5 := Lib.hid sr5
      have pa5 := PA5.out.cell 0
      have ph5 := PH5.out.cell 0
      simp at pa5 ph5
      have hFK := fun w' h => HF.out w' h k hkm
      replace BB5 := Lib.hid BB5
      clear sr5
      cases okv
      · have hno : ¬ (q = true ∧ ∀ k, k ∈ hs → left k = false → Hp.okws (Hp.mem hs) a (Hp.fields ls k) = true) := by rw [← hok.out]; simp
        go_wp2_with fail
        go_roundw
        case measure => rw [SR5.out.left_eq, SR.out.left_eq]; omega
        case rel =>
          refine ⟨false, _, cnt5, rfl, SR5.out, ⟨fun h => (by cases h), fun h => absurd ⟨h.1, fun j hj hl => h.2 j hj (by simp [hl])⟩ hno⟩, PA5.out, PH5.out, BB5.out⟩
      · have hyes := hok.out.1 rfl
        replace hyes := Lib.hid hyes
        go_wp2_with fail
        refine (hFK _ BB5.out).mono ?_
        rintro _ w6 ⟨o6, rfl, s6, hw6⟩
        subst hw6
        go_wp2_with fail
        refine (HG.out _ _ _ s6 _ bm n _ _ pa5 ph5 SR5.out.set).mono ?_
        rintro _ w7 ⟨rfl, b7⟩
        go_wp2_with fail
        go_roundw
        case measure => rw [(SR5.out.call b7).left_eq, SR.out.left_eq]; omega
        case rel =>
          refine ⟨_, _, cnt5, rfl, SR5.out.call b7, ⟨fun h => ⟨hyes.out.1, fun j hj hl => ?_⟩, fun h => h.2 k hkm (by simp)⟩, PA5.out.call b7, PH5.out.call b7, B.call BB5.out b7⟩
          by_cases e : j = k
          · subst e; exact h
          · exact hyes.out.2 j hj (by simpa [e] using hl)

/-- heap.Check. -/
theorem hpCheck (vl vr : Value) (ls rs : List Int) (a : Int) (w : World) (hl : Sees .u32 w vl ls) (hlr : ∀ x ∈ ls, 0 ≤ x ∧ x < 4294967296) (hv : Sees .u32 w vr rs) (hrr : ∀ x ∈ rs, 0 ≤ x ∧ x < 4294967296) (k0 : 0 ≤ a) (k1 : a < 4294967296) :
    Calls Try.prog 24 #[vl, .int .u32 a, vr] w fun e w' => e = .returned (.int .i64 (Hp.chk ls a rs)) ∧ Below w.heap.size w w' := by
  by_cases hmany : 65536 < ls.length ∨ 4096 < rs.length
  · obtain ⟨A1, c1, rfl, l1, l2⟩ := hl.len
    obtain ⟨A2, c2, rfl, l3, l4⟩ := hv.len
    unfold maxLen at l2 l4
    unfold Hp.chk
    rw [if_pos hmany]
    by_cases h1 : 65536 < ls.length
    · go_enter Try.func24, Try.ntmps24
      go_wp2_with fail
      go_returns
      exact ⟨rfl, B.alloc (B.refl w) _⟩
    · have h2 : 4096 < rs.length := by omega
      go_enter Try.func24, Try.ntmps24
      go_wp2_with fail
      go_returns
      exact ⟨rfl, B.alloc (B.refl w) _⟩
  · have hn1 : ls.length ≤ 65536 := by omega
    have hn2 : rs.length ≤ 4096 := by omega
    unfold Hp.chk
    rw [if_neg hmany]
    cases hhs : Hp.heads ls with
    | some hs =>
      simp only
      by_cases hp : Hp.place a
      · refine hpCheckMain vl vr ls rs a w hs hhs hl hlr hv hrr k0 k1 hp hn1 hn2 _ ?_
        by_cases h : Hp.okws (Hp.mem hs) a rs = true ∧ ∀ i ∈ hs, Hp.okws (Hp.mem hs) a (Hp.fields ls i) = true
        · rw [if_pos h, if_pos ⟨hp, h⟩]
        · rw [if_neg h, if_neg (fun h' => h h'.2)]
      · rw [if_neg (fun h => hp h.1)]
        obtain ⟨A1, c1, rfl, l1, l2⟩ := hl.len
        obtain ⟨A2, c2, rfl, l3, l4⟩ := hv.len
        unfold maxLen at l2 l4
        have HT := Lib.hid fun w' (h : Below w.heap.size w w') => hpThings _ ls w' (hl.below h (Nat.le_refl _)) hlr
        have HP := Lib.hid fun w' => hpPlace a w' k0 k1
        rw [show decide (Hp.place a) = false by simpa using hp] at HP
        clear hp hmany
        replace hhs := Lib.hid hhs
        go_enter Try.func24, Try.ntmps24
        go_wp2_with fail
        refine (HT.out _ (B.alloc (B.refl w) _)).mono ?_
        rintro _ w1 ⟨o1, rfl, t1, b1⟩
        unfold ThingsPost at t1
        rw [hhs.out] at t1 ⊢
        obtain ⟨bm, n, rfl, hbm, hnl, hset⟩ := t1
        have BB1 := B.call (B.alloc (B.refl w) (.cells #[.int .u32 a] 22)) b1
        have pa0 := (((VB.new w 22 #[.int .u32 a]).call b1).alloc (.cells #[.map (some bm)] 96)).cell 0
        simp at pa0
        replace BB1 := Lib.hid BB1
        clear hset b1
        go_wp2_with fail
        refine (HP.out _).mono ?_
        rintro _ w2 ⟨rfl, hw2⟩
        subst hw2
        go_wp2_with fail
        go_returns
        exact ⟨rfl, B.alloc BB1.out _⟩
    | none =>
      simp only
      obtain ⟨A1, c1, rfl, l1, l2⟩ := hl.len
      obtain ⟨A2, c2, rfl, l3, l4⟩ := hv.len
      unfold maxLen at l2 l4
      have HT := Lib.hid fun w' (h : Below w.heap.size w w') => hpThings _ ls w' (hl.below h (Nat.le_refl _)) hlr
      clear hmany
      replace hhs := Lib.hid hhs
      go_enter Try.func24, Try.ntmps24
      go_wp2_with fail
      refine (HT.out _ (B.alloc (B.refl w) _)).mono ?_
      rintro _ w1 ⟨o1, rfl, t1, b1⟩
      unfold ThingsPost at t1
      rw [hhs.out] at t1 ⊢
      subst t1
      have BB1 := B.call (B.alloc (B.refl w) (.cells #[.int .u32 a] 22)) b1
      replace BB1 := Lib.hid BB1
      clear b1
      go_wp2_with fail
      go_returns
      exact ⟨rfl, B.alloc BB1.out _⟩

end Go.Proofs.Ytgohnekaolgblaa
