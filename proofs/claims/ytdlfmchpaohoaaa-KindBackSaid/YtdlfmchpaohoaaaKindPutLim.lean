/- kind.PutLimits, gimletref04.PutLimits: contracts (printed by wip/gen_kindputlim.py). -/
import Derived.Test.YtdlfmchpaohoaaaKindCheck
import Derived.Test.YtdlfmchpaohoaaaStep
import Derived.Test.YtdlfmchpaohoaaaLebPut
import Derived.Test.YtdlfmchpaohoaaaRefWords
namespace Go.Proofs.Ytdlfmchpaohoaaa
open Go.RowKit

/-- The bytes of limits within a bound; none, where they may not be. -/
def Kind.putLim (mn mx : Int) (c : Bool) (most : Int) : List Int :=
  if Kind.lim mn mx c most = 0 then (if c then 1 :: (Leb.putU 4 mn ++ Leb.putU 4 mx) else 0 :: Leb.putU 4 mn) else []

theorem Kind.lim_cases (mn mx : Int) (c : Bool) (most : Int) : Kind.lim mn mx c most = 0 ∨ Kind.lim mn mx c most = 2 := by
  unfold Kind.lim; split <;> simp

theorem lit1 (w : World) (x : Int) (g : Nat) (hg : g = w.heap.size) (B : Nat) (hB : B ≤ w.heap.size) : Owns 5 .u8 B (w.alloc (.cells #[.int .u8 x] 5)) (.slice (some ⟨g, 0, none⟩) 1 1) [x] := by
  subst hg; exact Owns.lit 5 .u8 w [x] B hB (by simp [maxLen])

set_option maxHeartbeats 1000000 in
theorem kindPutLim_bad (mn mx most : Int) (c : Bool) (w : World) (hl : Kind.lim mn mx c most = 2) :
    Calls Try.prog 28 #[.agg #[.int .u32 mn, .int .u32 mx, .bool c], .int .u32 most] w fun e w' => e = .returned (.tuple #[.slice none 0 0, .int .i64 2]) ∧ Below w.heap.size w w' := by
  have HL := Lib.hid hl; clear hl
  have B0 := Lib.hid (B.alloc (B.refl w) (.cells #[.int .u32 mn, .int .u32 mx, .bool c] 46))
  go_enter Try.func28, Try.ntmps28
  go_wp2_with fail
  refine (kindCheckLim _ _ _ _ _).mono ?_
  rintro e w1 ⟨rfl, b1⟩
  rw [HL.out]
  have BW := Lib.hid (B.call B0.out b1)
  clear b1
  go_wp2_with fail
  go_returns
  exact ⟨rfl, BW.out⟩

set_option maxHeartbeats 1000000 in
theorem kindPutLim_free (mn mx most : Int) (w : World) (h0 : 0 ≤ mn) (h1 : mn < 4294967296) (hl : Kind.lim mn mx false most = 0) :
    Calls Try.prog 28 #[.agg #[.int .u32 mn, .int .u32 mx, .bool false], .int .u32 most] w fun e w' => (∃ v, e = .returned (.tuple #[v, .int .i64 0]) ∧ Sees .u8 w' v (0 :: Leb.putU 4 mn)) ∧ Below w.heap.size w w' := by
  obtain ⟨i0, hi, hz0, hz1, hz2⟩ := info_parts Try.infoU8
  have HL := Lib.hid hl; clear hl
  have T0 := Lib.hid (VB.new w 46 #[.int .u32 mn, .int .u32 mx, .bool false])
  have B0 := Lib.hid (B.alloc (B.refl w) (.cells #[.int .u32 mn, .int .u32 mx, .bool false] 46))
  have lu := Leb.putU_len 4 mn
  go_enter Try.func28, Try.ntmps28
  go_wp2_with fail
  refine (kindCheckLim _ _ _ _ _).mono ?_
  rintro e w1 ⟨rfl, b1⟩
  rw [HL.out]
  have t1 := T0.out.call b1
  have c0 := t1.cell 0
  have c2 := t1.cell 2
  have c4 := t1.lt
  have f0 := t1.free 0
  simp at c0 c2
  have BW := Lib.hid (B.call B0.out b1)
  clear t1 b1
  have c0' := cellA c0 (.cells #[.int .u8 0] 5)
  go_wp2_with fail
  refine (putU _ _ h0 h1).mono ?_
  rintro e w2 ⟨v2, rfl, o2, b2⟩
  obtain ⟨A2, k2, rfl, _, _⟩ := o2.sees.len
  have OL := (lit1 w1 0 _ rfl w1.heap.size (Nat.le_refl _)).below b2 (Nat.le_refl _)
  have b12 : Below w1.heap.size w1 w2 := B.call (B.alloc (B.refl w1) _) b2
  have z2 := b12.size
  have S2 := o2.sees
  go_wp2_with (at_builtin; refine app_src Try.underlying23 hi hz0 hz1 hz2 rfl (.tmp 16) (.tmp 19) rfl rfl rfl S2 OL b12 z2 (by simp only [List.length_singleton]; omega) (by simp only [List.length_singleton]; unfold maxLen; omega) ?_; intro v3 w3 o3 b3 z3 _)
  go_returns
  exact ⟨⟨_, rfl, by simpa using o3.sees⟩, B.call BW.out b3⟩

set_option maxHeartbeats 8000000 in
theorem kindPutLim_cap (mn mx most : Int) (w : World) (h0 : 0 ≤ mn) (h1 : mn < 4294967296) (h2 : 0 ≤ mx) (h3 : mx < 4294967296) (hl : Kind.lim mn mx true most = 0) :
    Calls Try.prog 28 #[.agg #[.int .u32 mn, .int .u32 mx, .bool true], .int .u32 most] w fun e w' => (∃ v, e = .returned (.tuple #[v, .int .i64 0]) ∧ Sees .u8 w' v (1 :: (Leb.putU 4 mn ++ Leb.putU 4 mx))) ∧ Below w.heap.size w w' := by
  obtain ⟨i0, hi, hz0, hz1, hz2⟩ := info_parts Try.infoU8
  have HL := Lib.hid hl; clear hl
  have T0 := Lib.hid (VB.new w 46 #[.int .u32 mn, .int .u32 mx, .bool true])
  have B0 := Lib.hid (B.alloc (B.refl w) (.cells #[.int .u32 mn, .int .u32 mx, .bool true] 46))
  have lu := Leb.putU_len 4 mn
  have lm := Leb.putU_len 4 mx
  go_enter Try.func28, Try.ntmps28
  go_wp2_with fail
  refine (kindCheckLim _ _ _ _ _).mono ?_
  rintro e w1 ⟨rfl, b1⟩
  rw [HL.out]
  have t1 := T0.out.call b1
  have c0 := t1.cell 0
  have c1 := t1.cell 1
  have c2 := t1.cell 2
  have c4 := t1.lt
  simp at c0 c1 c2
  have BW := Lib.hid (B.call B0.out b1)
  clear t1 b1
  go_wp2_with fail
  go_region_held3 (fun w' => w'.cell? ⟨w.heap.size, 0, none⟩ = some (.int .u32 mn) ∧ w'.cell? ⟨w.heap.size, 1, none⟩ = some (.int .u32 mx))
    (first | exact ⟨(b5.cell (p := ⟨w.heap.size, 0, none⟩) c4).trans c0, (b5.cell (p := ⟨w.heap.size, 1, none⟩) c4).trans c1⟩ | exact ⟨(b4.cell (p := ⟨w.heap.size, 0, none⟩) c4).trans c0, (b4.cell (p := ⟨w.heap.size, 1, none⟩) c4).trans c1⟩ | go_keep | (go_split_ands; exact ⟨cellK b3 (by assumption), cellK b3 (by assumption)⟩) | (go_split_ands; exact ⟨cellK b2 (by assumption), cellK b2 (by assumption)⟩))
    ((first
      | (go_at_call 14; with_reducible refine (putU mn _ h0 h1).mono ?_; rintro e w2 ⟨v2, rfl, o2, b2⟩; obtain ⟨A2, k2, rfl, _, _⟩ := o2.sees.len)
      | (go_at_call 14; with_reducible refine (putU mx _ h2 h3).mono ?_; rintro e w3 ⟨v3, rfl, o3, b3⟩; obtain ⟨A3, k3, rfl, _, _⟩ := o3.sees.len)
      | (refine step_app (w0 := w1.drew) (B := w1.heap.size) (xs := [1]) (ys := Leb.putU 4 mn) Try.underlying23 hi hz0 hz1 hz2 rfl (.tmp 21) (.tmp 24) rfl rfl rfl o2.sees ((lit1 w1.drew 1 _ rfl w1.heap.size (Nat.le_refl _)).below b2 (Nat.le_refl _)) (B.call (B.alloc (B.refl w1.drew) _) b2) (B.call (B.alloc (B.refl w1.drew) _) b2).size (by simp only [List.length_singleton]; omega) (by simp only [List.length_singleton]; unfold maxLen; omega) ?_; intro v4 w4 o4 b4 z4 _; obtain ⟨A4, k4, rfl, _, _⟩ := o4.sees.len)
      | (refine step_app (w0 := w1.drew) (B := w1.heap.size) (xs := [1]) (ys := Leb.putU 4 mn) Try.underlying23 hi hz0 hz1 hz2 rfl (.tmp 21) (.tmp 24) rfl rfl rfl (o2.sees.alloc _) (lit1 w2 1 _ rfl w1.heap.size b2.size) (B.alloc b2 _) (B.alloc b2 _).size (by simp only [List.length_singleton]; omega) (by simp only [List.length_singleton]; unfold maxLen; omega) ?_; intro v4 w4 o4 b4 z4 _; obtain ⟨A4, k4, rfl, _, _⟩ := o4.sees.len)
      | (refine step_app (w0 := w1.drew) (B := w1.heap.size) (xs := [1] ++ Leb.putU 4 mn) (ys := Leb.putU 4 mx) Try.underlying23 hi hz0 hz1 hz2 rfl (.tmp 25) (.tmp 28) rfl rfl rfl o3.sees (o4.below b3 (Nat.le_refl _)) (B.call (w := w1.drew) b4 b3) (B.call (w := w1.drew) b4 b3).size (by simp only [List.length_append, List.length_singleton]; omega) (by simp only [List.length_append, List.length_singleton]; unfold maxLen; omega) ?_; intro v5 w5 o5 b5 z5 _; obtain ⟨A5, k5, rfl, _, _⟩ := o5.sees.len)))
  all_goals go_wp2_with fail
  all_goals go_returns
  all_goals exact ⟨⟨_, rfl, by simpa using o5.sees⟩, B.call BW.out (((Below.refl _ w1).drew).trans b5)⟩

theorem kindPutLim (mn mx most : Int) (c : Bool) (w : World) (h0 : 0 ≤ mn) (h1 : mn < 4294967296) (h2 : 0 ≤ mx) (h3 : mx < 4294967296) :
    Calls Try.prog 28 #[.agg #[.int .u32 mn, .int .u32 mx, .bool c], .int .u32 most] w fun e w' => (∃ v, e = .returned (.tuple #[v, .int .i64 (Kind.lim mn mx c most)]) ∧ Sees .u8 w' v (Kind.putLim mn mx c most)) ∧ Below w.heap.size w w' := by
  rcases Kind.lim_cases mn mx c most with hl | hl
  · cases c
    · have hp : Kind.putLim mn mx false most = 0 :: Leb.putU 4 mn := by unfold Kind.putLim; rw [if_pos hl]; rfl
      rw [hl, hp]; exact kindPutLim_free mn mx most w h0 h1 hl
    · have hp : Kind.putLim mn mx true most = 1 :: (Leb.putU 4 mn ++ Leb.putU 4 mx) := by unfold Kind.putLim; rw [if_pos hl]; rfl
      rw [hl, hp]; exact kindPutLim_cap mn mx most w h0 h1 h2 h3 hl
  · have hp : Kind.putLim mn mx c most = [] := by unfold Kind.putLim; rw [if_neg (by omega)]
    rw [hl, hp]
    exact (kindPutLim_bad mn mx most c w hl).mono fun e w' h => ⟨⟨_, h.1, Sees.nil _ _⟩, h.2⟩

set_option maxHeartbeats 1000000 in
theorem refPutLim_bad (mn mx most : Int) (c : Bool) (w : World) (hl : Kind.lim mn mx c most = 2) :
    Calls Try.prog 31 #[.agg #[.int .u32 mn, .int .u32 mx, .bool c], .int .u32 most] w fun e w' => e = .returned (.tuple #[.slice none 0 0, .int .i64 2]) ∧ Below w.heap.size w w' := by
  have HL := Lib.hid hl; clear hl
  have B0 := Lib.hid (B.alloc (B.refl w) (.cells #[.int .u32 mn, .int .u32 mx, .bool c] 46))
  go_enter Try.func31, Try.ntmps31
  go_wp2_with fail
  refine (refCheckLim _ _ _ _ _).mono ?_
  rintro e w1 ⟨rfl, b1⟩
  rw [HL.out]
  have BW := Lib.hid (B.call B0.out b1)
  clear b1
  go_wp2_with fail
  go_returns
  exact ⟨rfl, BW.out⟩

set_option maxHeartbeats 1000000 in
theorem refPutLim_free (mn mx most : Int) (w : World) (h0 : 0 ≤ mn) (h1 : mn < 4294967296) (hl : Kind.lim mn mx false most = 0) :
    Calls Try.prog 31 #[.agg #[.int .u32 mn, .int .u32 mx, .bool false], .int .u32 most] w fun e w' => (∃ v, e = .returned (.tuple #[v, .int .i64 0]) ∧ Sees .u8 w' v (0 :: Leb.putU 4 mn)) ∧ Below w.heap.size w w' := by
  obtain ⟨i0, hi, hz0, hz1, hz2⟩ := info_parts Try.infoU8
  have HL := Lib.hid hl; clear hl
  have T0 := Lib.hid (VB.new w 46 #[.int .u32 mn, .int .u32 mx, .bool false])
  have B0 := Lib.hid (B.alloc (B.refl w) (.cells #[.int .u32 mn, .int .u32 mx, .bool false] 46))
  have lu := Leb.putU_len 4 mn
  go_enter Try.func31, Try.ntmps31
  go_wp2_with fail
  refine (refCheckLim _ _ _ _ _).mono ?_
  rintro e w1 ⟨rfl, b1⟩
  rw [HL.out]
  have t1 := T0.out.call b1
  have c0 := t1.cell 0
  have c2 := t1.cell 2
  have c4 := t1.lt
  have f0 := t1.free 0
  simp at c0 c2
  have BW := Lib.hid (B.call B0.out b1)
  clear t1 b1
  have c0' := cellA c0 (.cells #[.int .u8 0] 5)
  go_wp2_with fail
  refine (refPutU _ _ h0 h1).mono ?_
  rintro e w2 ⟨v2, rfl, o2, b2⟩
  obtain ⟨A2, k2, rfl, _, _⟩ := o2.sees.len
  have OL := (lit1 w1 0 _ rfl w1.heap.size (Nat.le_refl _)).below b2 (Nat.le_refl _)
  have b12 : Below w1.heap.size w1 w2 := B.call (B.alloc (B.refl w1) _) b2
  have z2 := b12.size
  have S2 := o2.sees
  go_wp2_with (at_builtin; refine app_src Try.underlying23 hi hz0 hz1 hz2 rfl (.tmp 16) (.tmp 19) rfl rfl rfl S2 OL b12 z2 (by simp only [List.length_singleton]; omega) (by simp only [List.length_singleton]; unfold maxLen; omega) ?_; intro v3 w3 o3 b3 z3 _)
  go_returns
  exact ⟨⟨_, rfl, by simpa using o3.sees⟩, B.call BW.out b3⟩

set_option maxHeartbeats 8000000 in
theorem refPutLim_cap (mn mx most : Int) (w : World) (h0 : 0 ≤ mn) (h1 : mn < 4294967296) (h2 : 0 ≤ mx) (h3 : mx < 4294967296) (hl : Kind.lim mn mx true most = 0) :
    Calls Try.prog 31 #[.agg #[.int .u32 mn, .int .u32 mx, .bool true], .int .u32 most] w fun e w' => (∃ v, e = .returned (.tuple #[v, .int .i64 0]) ∧ Sees .u8 w' v (1 :: (Leb.putU 4 mn ++ Leb.putU 4 mx))) ∧ Below w.heap.size w w' := by
  obtain ⟨i0, hi, hz0, hz1, hz2⟩ := info_parts Try.infoU8
  have HL := Lib.hid hl; clear hl
  have T0 := Lib.hid (VB.new w 46 #[.int .u32 mn, .int .u32 mx, .bool true])
  have B0 := Lib.hid (B.alloc (B.refl w) (.cells #[.int .u32 mn, .int .u32 mx, .bool true] 46))
  have lu := Leb.putU_len 4 mn
  have lm := Leb.putU_len 4 mx
  go_enter Try.func31, Try.ntmps31
  go_wp2_with fail
  refine (refCheckLim _ _ _ _ _).mono ?_
  rintro e w1 ⟨rfl, b1⟩
  rw [HL.out]
  have t1 := T0.out.call b1
  have c0 := t1.cell 0
  have c1 := t1.cell 1
  have c2 := t1.cell 2
  have c4 := t1.lt
  simp at c0 c1 c2
  have BW := Lib.hid (B.call B0.out b1)
  clear t1 b1
  go_wp2_with fail
  go_region_held3 (fun w' => w'.cell? ⟨w.heap.size, 0, none⟩ = some (.int .u32 mn) ∧ w'.cell? ⟨w.heap.size, 1, none⟩ = some (.int .u32 mx))
    (first | exact ⟨(b5.cell (p := ⟨w.heap.size, 0, none⟩) c4).trans c0, (b5.cell (p := ⟨w.heap.size, 1, none⟩) c4).trans c1⟩ | exact ⟨(b4.cell (p := ⟨w.heap.size, 0, none⟩) c4).trans c0, (b4.cell (p := ⟨w.heap.size, 1, none⟩) c4).trans c1⟩ | go_keep | (go_split_ands; exact ⟨cellK b3 (by assumption), cellK b3 (by assumption)⟩) | (go_split_ands; exact ⟨cellK b2 (by assumption), cellK b2 (by assumption)⟩))
    ((first
      | (go_at_call 11; with_reducible refine (refPutU mn _ h0 h1).mono ?_; rintro e w2 ⟨v2, rfl, o2, b2⟩; obtain ⟨A2, k2, rfl, _, _⟩ := o2.sees.len)
      | (go_at_call 11; with_reducible refine (refPutU mx _ h2 h3).mono ?_; rintro e w3 ⟨v3, rfl, o3, b3⟩; obtain ⟨A3, k3, rfl, _, _⟩ := o3.sees.len)
      | (refine step_app (w0 := w1.drew) (B := w1.heap.size) (xs := [1]) (ys := Leb.putU 4 mn) Try.underlying23 hi hz0 hz1 hz2 rfl (.tmp 21) (.tmp 24) rfl rfl rfl o2.sees ((lit1 w1.drew 1 _ rfl w1.heap.size (Nat.le_refl _)).below b2 (Nat.le_refl _)) (B.call (B.alloc (B.refl w1.drew) _) b2) (B.call (B.alloc (B.refl w1.drew) _) b2).size (by simp only [List.length_singleton]; omega) (by simp only [List.length_singleton]; unfold maxLen; omega) ?_; intro v4 w4 o4 b4 z4 _; obtain ⟨A4, k4, rfl, _, _⟩ := o4.sees.len)
      | (refine step_app (w0 := w1.drew) (B := w1.heap.size) (xs := [1]) (ys := Leb.putU 4 mn) Try.underlying23 hi hz0 hz1 hz2 rfl (.tmp 21) (.tmp 24) rfl rfl rfl (o2.sees.alloc _) (lit1 w2 1 _ rfl w1.heap.size b2.size) (B.alloc b2 _) (B.alloc b2 _).size (by simp only [List.length_singleton]; omega) (by simp only [List.length_singleton]; unfold maxLen; omega) ?_; intro v4 w4 o4 b4 z4 _; obtain ⟨A4, k4, rfl, _, _⟩ := o4.sees.len)
      | (refine step_app (w0 := w1.drew) (B := w1.heap.size) (xs := [1] ++ Leb.putU 4 mn) (ys := Leb.putU 4 mx) Try.underlying23 hi hz0 hz1 hz2 rfl (.tmp 25) (.tmp 28) rfl rfl rfl o3.sees (o4.below b3 (Nat.le_refl _)) (B.call (w := w1.drew) b4 b3) (B.call (w := w1.drew) b4 b3).size (by simp only [List.length_append, List.length_singleton]; omega) (by simp only [List.length_append, List.length_singleton]; unfold maxLen; omega) ?_; intro v5 w5 o5 b5 z5 _; obtain ⟨A5, k5, rfl, _, _⟩ := o5.sees.len)))
  all_goals go_wp2_with fail
  all_goals go_returns
  all_goals exact ⟨⟨_, rfl, by simpa using o5.sees⟩, B.call BW.out (((Below.refl _ w1).drew).trans b5)⟩

theorem refPutLim (mn mx most : Int) (c : Bool) (w : World) (h0 : 0 ≤ mn) (h1 : mn < 4294967296) (h2 : 0 ≤ mx) (h3 : mx < 4294967296) :
    Calls Try.prog 31 #[.agg #[.int .u32 mn, .int .u32 mx, .bool c], .int .u32 most] w fun e w' => (∃ v, e = .returned (.tuple #[v, .int .i64 (Kind.lim mn mx c most)]) ∧ Sees .u8 w' v (Kind.putLim mn mx c most)) ∧ Below w.heap.size w w' := by
  rcases Kind.lim_cases mn mx c most with hl | hl
  · cases c
    · have hp : Kind.putLim mn mx false most = 0 :: Leb.putU 4 mn := by unfold Kind.putLim; rw [if_pos hl]; rfl
      rw [hl, hp]; exact refPutLim_free mn mx most w h0 h1 hl
    · have hp : Kind.putLim mn mx true most = 1 :: (Leb.putU 4 mn ++ Leb.putU 4 mx) := by unfold Kind.putLim; rw [if_pos hl]; rfl
      rw [hl, hp]; exact refPutLim_cap mn mx most w h0 h1 h2 h3 hl
  · have hp : Kind.putLim mn mx c most = [] := by unfold Kind.putLim; rw [if_neg (by omega)]
    rw [hl, hp]
    exact (refPutLim_bad mn mx most c w hl).mono fun e w' h => ⟨⟨_, h.1, Sees.nil _ _⟩, h.2⟩

end Go.Proofs.Ytdlfmchpaohoaaa
