/- word.Lay's closure: contract (printed by wip/gen_wdlay1.py). -/
import Derived.Test.YtgohnekaolgblaaWdLayOut
namespace Go.Proofs.Ytgohnekaolgblaa
open Go.RowKit

/-- What the closure does of each of these trees. -/
def LayHyp (l : List Tr) : Prop := ∀ t ∈ l, ∀ (Z : Nat) (w : World) (v : Value) (xs : List Int) (at' : Int) (bo ba bl C : Nat) (o : Value), Tr.at (fun b _ => b < Z) w t v → t.fine = true → Z ≤ bo ∧ Z ≤ C → LayAt w bo ba bl C o at' → C ≤ w.heap.size → Owns 22 .u32 C w o xs → xs.length + t.size ≤ 1073741824 →
    Calls Try.prog 69 #[v, .pointer (some ⟨bo, 0, none⟩), .pointer (some ⟨ba, 0, none⟩), .pointer (some ⟨bl, 0, none⟩)] w fun e w' =>
      ∃ o', e = .returned (.int .u32 (t.word ((at' + 4 * xs.length) % 4294967296))) ∧ LayAt w' bo ba bl C o' at' ∧ Owns 22 .u32 C w' o' (xs ++ t.words ((at' + 4 * xs.length) % 4294967296)) ∧ GrowS (fun k => k = bo ∨ C ≤ k) w w'

theorem Tr.fines_get {l : List Tr} (h : Tr.fines l = true) (i : Nat) (hi : i < l.length) : l[i].fine = true := by
  induction l generalizing i with
  | nil => simp at hi
  | cons x l ih =>
    simp only [Tr.fines, Bool.and_eq_true] at h
    cases i with
    | zero => exact h.1
    | succ i => exact ih h.2 i (by simpa using hi)

set_option maxHeartbeats 1000000 in
set_option maxRecDepth 100000 in
theorem wdLayFields3 (n0 : Int) (s : ByteArray) (l : List Tr) (A : Option Addr) (cap Z : Nat) (xs : List Int) (at' : Int) (bo ba bl C : Nat) (o : Value) (w : World)
    (HI : Hid (LayHyp l)) (hat : Hid (l ≠ [] → ∃ b off, A = some ⟨b, off, none⟩ ∧ b < Z ∧ Tr.ats (fun b _ => b < Z) w l b off)) (hlc : l.length ≤ cap)
    (hf : Tr.fines l = true) (hn0 : 0 ≤ n0) (hn1 : n0 ≤ 65535) (hl : l.length ≤ 1024) (hl0 : 0 < l.length)
    (hZ : Z ≤ bo ∧ Z ≤ C) (hL : LayAt w bo ba bl C o at') (hC : C ≤ w.heap.size) (hO : Owns 22 .u32 C w o xs) (hx : xs.length + 1 + l.length + Tr.sizes l ≤ 1073741824) :
    Calls Try.prog 69 #[.agg #[.int .i64 3, .int .i64 n0, .string s, .slice A l.length cap], .pointer (some ⟨bo, 0, none⟩), .pointer (some ⟨ba, 0, none⟩), .pointer (some ⟨bl, 0, none⟩)] w fun e w' =>
      ∃ o', e = .returned (.int .u32 ((at' + 4 * xs.length) % 4294967296)) ∧ LayAt w' bo ba bl C o' at' ∧ Owns 22 .u32 C w' o' (xs ++ (Wd.head 0 n0 l.length).1 :: (Tr.owns ((at' + 4 * xs.length) % 4294967296) (1 + l.length) l ++ Tr.mores ((at' + 4 * xs.length) % 4294967296) (1 + l.length) l)) ∧ GrowS (fun k => k = bo ∨ C ≤ k) w w' := by
  obtain ⟨i0, hi, hz0, hz1, hz2⟩ := info_parts (show (Try.prog.info? 22).map (fun i => (i.zero, i.size, i.bytes)) = some (some (.int .u32 0), 1, 4) by kernel_rfl)
  obtain ⟨hd, hhd⟩ : ∃ x, x = (Wd.head 0 n0 l.length).1 := ⟨_, rfl⟩
  have hok := Wd.head_thing 0 n0 l.length (by omega) hn0 hn1 hl
  have HH : ∀ w, Calls Try.prog 46 #[.int .i64 0, .int .i64 n0, .int .i64 (l.length : Int)] w fun e w' => e = .returned (.tuple #[.int .u32 hd, .int .i64 0]) ∧ w' = w := fun w => by
    have h := wdHead 0 n0 l.length w
    rw [← hhd, show (Wd.head 0 n0 (l.length : Int)).2 = 0 by rw [Wd.head_yes hok]] at h
    exact h
  obtain ⟨a, ha⟩ : ∃ x, x = (at' + 4 * xs.length) % 4294967296 := ⟨_, rfl⟩
  rw [← hhd, ← ha]
  replace HH := Lib.hid HH
  replace ha := Lib.hid ha
  clear hhd hok
  obtain ⟨A0, cap0, rfl, hcap1, hcap2⟩ := hO.sees.len
  have c1 := hL.ho.cell 0
  have c2 := hL.ho.free 0
  have c3 := hL.ho.lt
  have hbo : bo < C := hL.lt.1
  simp at c1
  have HL := Lib.hid hL
  have HO := Lib.hid hO
  clear hL hO
  have L2 := Lib.hid ((HL.out.alloc (.cells #[.int .i64 3, .int .i64 n0, .string s, .slice A l.length cap] 58)).alloc (.cells #[.int .u32 hd] 22))
  have O2 := Lib.hid ((HO.out.alloc (.cells #[.int .i64 3, .int .i64 n0, .string s, .slice A l.length cap] 58)).alloc (.cells #[.int .u32 hd] 22))
  have S2 := Sees.lit .u32 (w.alloc (.cells #[.int .i64 3, .int .i64 n0, .string s, .slice A l.length cap] 58)) 22 [hd] 1 (by simp) (by unfold maxLen; omega)
  have X2 := Lib.hid ((VB.new w 58 #[.int .i64 3, .int .i64 n0, .string s, .slice A l.length cap]).alloc (.cells #[.int .u32 hd] 22))
  have G2 := Lib.hid (((GrowS.refl (fun k => k = bo ∨ C ≤ k) w).alloc (.cells #[.int .i64 3, .int .i64 n0, .string s, .slice A l.length cap] 58)).alloc (.cells #[.int .u32 hd] 22))
  have P2 := Lib.hid HO.out.lt
  simp only [World.size_alloc] at S2
  replace S2 := Lib.hid S2
  go_enter Try.func69, Try.ntmps69
  go_wp2_with fail
  refine (HH.out _).mono ?_
  rintro _ w1 ⟨rfl, hw1⟩
  subst hw1
  go_wp2_with (at_builtin; first
    | (refine app_src Try.underlying24 hi hz0 hz1 hz2 rfl (.tmp 104) (.tmp 106) rfl rfl rfl S2.out O2.out (Below.refl C _) (by simp; omega) (by simp; omega) (by unfold maxLen; simp; omega) ?_; intro v3 w3 o3 b3 z3 g3; obtain ⟨A3, k3, rfl, _, _⟩ := o3.sees.len; rw [show (xs ++ [hd]).length = xs.length + 1 by simp] at o3 ⊢; have L3 := L2.out.grown g3 (fun g hg => (P2.out g hg).1); have X3 := X2.out.grownAny g3 (fun g hg => by have := (P2.out g hg).2; simp; omega); have G3 := G2.out.grown g3 (fun g hg _ => .inr (P2.out g hg).1)
       have N3 := o3.ne X3 (by decide)
       have q1 := L3.ho.cell 0; have q2 := L3.ho.free 0; have q3 := L3.ho.lt; have x3 := X3.cell 3; simp at q1 x3; have hne : ¬ w.heap.size = bo := by omega
       replace L3 := Lib.hid (L3.setO (.slice A3 (xs.length + 1) k3)); replace X3 := Lib.hid (X3.far bo 0 hne (.slice A3 (xs.length + 1) k3)); replace G3 := Lib.hid (G3.set (b := bo) (i := 0) (.inl rfl) (.slice A3 (xs.length + 1) k3)); have O3 := Lib.hid (o3.far (i := 0) hbo (.slice A3 (xs.length + 1) k3)); have P3 := Lib.hid o3.lt; replace N3 := Lib.hid N3; clear o3 b3 g3)
    | refine Hid.out ?_)
  refine Lib.hid ?_
  refine app_zeros Try.underlying24 Try.underlying3 hi hz0 hz1 hz2 rfl (.tmp 108) (.tmp 111) rfl l.length rfl rfl O3.out (by simp) (Below.refl C _) (by simp; omega) (by simp; omega) (by unfold maxLen; simp; omega) (by omega) (by omega) ?_
  intro v4 w4 o4 b4 z4 g4
  obtain ⟨A4, k4, rfl, _, _⟩ := o4.sees.len
  rw [show (xs ++ [hd] ++ List.replicate l.length (0 : Int)).length = xs.length + 1 + l.length by simp; omega] at o4 ⊢
  have L4 := L3.out.grown g4 (fun g hg => (P3.out g hg).1)
  have X4 := X3.out.grownAny g4 N3.out
  have G4 := G3.out.grown g4 (fun g hg _ => .inr (P3.out g hg).1)
  have q1 := L4.ho.cell 0
  have q2 := L4.ho.free 0
  have q3 := L4.ho.lt
  have x3 := X4.cell 3
  simp at q1 x3
  replace L4 := Lib.hid (L4.setO (.slice A4 (xs.length + 1 + l.length) k4))
  replace G4 := Lib.hid (G4.set (b := bo) (i := 0) (.inl rfl) (.slice A4 (xs.length + 1 + l.length) k4))
  have O4 := Lib.hid (o4.far (i := 0) hbo (.slice A4 (xs.length + 1 + l.length) k4))
  clear o4 b4 g4 L3 X3 G3 N3 P3 O3 L2 O2 S2 X2 G2 P2 X4
  go_wp2_with fail
  go_loopw [116] (fun q wr => ∃ (i : Nat) (o : Value), q = .int .i64 (i : Int) ∧ i ≤ l.length ∧ LayAt wr bo ba bl C o at' ∧ Owns 22 .u32 C wr o (Wd.out xs hd a l i) ∧ GrowS (fun k => k = bo ∨ C ≤ k) w wr)
    (fun q _ => l.length - (intOf q).toNat)
  case atStart =>
    refine ⟨0, _, rfl, by omega, L4.out, ?_, G4.out⟩
    rw [Wd.out_zero]
    exact O4.out
  case round =>
    obtain ⟨i, o5, rfl, hi', l5, w5, g5⟩ := hrel
    by_cases hil : i < l.length
    · have hne5 : l ≠ [] := by intro e; subst e; simp at hil
      obtain ⟨b, off, rfl, hbZ, hats⟩ := hat.out hne5
      obtain ⟨A1, cap1, d0, d1, d2, d3, hq1, hq2, hti⟩ := Tr.ats_cells hats i hil
      have hold : ∀ b (off : Nat), b < Z → b < w.heap.size ∧ ¬ (b = bo ∨ C ≤ b) := fun b _ h => ⟨by omega, by omega⟩
      have kc : ∀ o, wr.cell? ⟨b, o, none⟩ = w.cell? ⟨b, o, none⟩ := fun o => World.cell?_of_block (g5.block b (hold b 0 hbZ).1 (hold b 0 hbZ).2)
      rw [← kc] at d0 d1 d2 d3
      have hti' := Tr.at_grow hti g5 hold
      have hfi := Tr.fines_get hf i hil
      have hst := Tr.sizes_take l i hil
      have hsl := Tr.sizes_le l (i + 1)
      have y1 := l5.hl.cell 0
      have y2 := l5.hl.lt
      simp at y1
      have L5 := Lib.hid l5
      have W5 := Lib.hid w5
      have G5 := Lib.hid g5
      have T5 := Lib.hid hti'
      have hsz := g5.size
      have hbw : b < wr.heap.size := by omega
      clear l5 w5 g5 hti hti' hats kc hne5
      go_wp2_with fail
      refine (HI.out l[i] (List.getElem_mem hil) Z _ _ (Wd.out xs hd a l i) at' bo ba bl C o5 (Tr.at_alloc T5.out _) hfi hZ (L5.out.alloc _) (by simp; omega) (W5.out.alloc _) (by rw [Wd.out_length _ _ _ _ _ (by omega)]; omega)).mono ?_
      rintro _ w6 ⟨o6, rfl, l6, w6o, g6⟩
      have hlen : (Wd.out xs hd a l i).length = xs.length + 1 + l.length + Tr.sizes (l.take i) := Wd.out_length _ _ _ _ _ (by omega)
      obtain ⟨b6, hb6⟩ : ∃ x, x = (at' + 4 * ((Wd.out xs hd a l i).length : Int)) % 4294967296 := ⟨_, rfl⟩
      rw [← hb6] at w6o ⊢
      have hb6' : b6 = (a + 4 * ((1 + l.length + Tr.sizes (l.take i) : Nat) : Int)) % 4294967296 := by rw [hb6, hlen, ha.out]; omega
      obtain ⟨u6, hu6⟩ : ∃ x, x = l[i].word b6 := ⟨_, rfl⟩
      rw [← hu6]
      have hlen6 : (Wd.out xs hd a l i ++ l[i].words b6).length = xs.length + 1 + l.length + Tr.sizes (l.take i) + l[i].size := by rw [List.length_append, hlen, Tr.words_length]
      obtain ⟨g, cap6, rfl, hg6, hg6', _, _, hc6⟩ := w6o.cells (by intro e; rw [e] at hlen6; simp at hlen6; omega)
      have hc := hc6 (xs.length + 1 + i) (by rw [hlen6]; omega)
      have y4 := w6o.free (xs.length + 1 + i)
      have y5 := l6.ho.cell 0
      have y6 := l6.ho.lt
      rw [hlen6] at w6o l6
      simp only [hlen6] at y5
      simp at y5
      have L6 := Lib.hid l6
      have W6 := Lib.hid w6o
      have G6 := Lib.hid g6
      replace hb6' := Lib.hid hb6'
      replace hu6 := Lib.hid hu6
      generalize (Wd.out xs hd a l i ++ l[i].words b6)[xs.length + 1 + i]'_ = z6 at hc
      clear l6 w6o g6 hc6 hlen hlen6 hb6 y1
      go_wp2_with fail
      go_roundw
      case measure => simp only [intOf]; omega
      case rel =>
        refine ⟨i + 1, _, rfl, by omega, L6.out.setBig hg6 _, ?_, ((G5.out.alloc _).trans G6.out).set (.inr hg6) _⟩
        rw [← Wd.out_step xs hd a l i hil b6 hb6'.out, ← hu6.out]
        exact W6.out.set _ _
    · have hie : i = l.length := by omega
      subst hie
      have y1 := l5.ha.cell 0
      have y3 := l5.ha.lt
      simp at y1
      rw [Wd.out_all] at w5
      have L5 := Lib.hid l5
      have W5 := Lib.hid w5
      have G5 := Lib.hid g5
      clear l5 w5 g5
      go_wp2_with fail
      go_returns
      refine ⟨o5, ?_, L5.out, W5.out, G5.out⟩
      show Ending.returned (.int .u32 _) = _
      rw [ha.out]

set_option maxHeartbeats 1000000 in
set_option maxRecDepth 100000 in
theorem wdLayFields4 (n0 : Int) (s : ByteArray) (l : List Tr) (A : Option Addr) (cap Z : Nat) (xs : List Int) (at' : Int) (bo ba bl C : Nat) (o : Value) (w : World)
    (HI : Hid (LayHyp l)) (hat : Hid (l ≠ [] → ∃ b off, A = some ⟨b, off, none⟩ ∧ b < Z ∧ Tr.ats (fun b _ => b < Z) w l b off)) (hlc : l.length ≤ cap)
    (hf : Tr.fines l = true) (hn0 : 0 ≤ n0) (hn1 : n0 ≤ 65535) (hl : l.length ≤ 1024)
    (hZ : Z ≤ bo ∧ Z ≤ C) (hL : LayAt w bo ba bl C o at') (hC : C ≤ w.heap.size) (hO : Owns 22 .u32 C w o xs) (hx : xs.length + 1 + l.length + Tr.sizes l ≤ 1073741824) :
    Calls Try.prog 69 #[.agg #[.int .i64 4, .int .i64 n0, .string s, .slice A l.length cap], .pointer (some ⟨bo, 0, none⟩), .pointer (some ⟨ba, 0, none⟩), .pointer (some ⟨bl, 0, none⟩)] w fun e w' =>
      ∃ o', e = .returned (.int .u32 ((at' + 4 * xs.length) % 4294967296)) ∧ LayAt w' bo ba bl C o' at' ∧ Owns 22 .u32 C w' o' (xs ++ (Wd.head 1 n0 l.length).1 :: (Tr.owns ((at' + 4 * xs.length) % 4294967296) (1 + l.length) l ++ Tr.mores ((at' + 4 * xs.length) % 4294967296) (1 + l.length) l)) ∧ GrowS (fun k => k = bo ∨ C ≤ k) w w' := by
  obtain ⟨i0, hi, hz0, hz1, hz2⟩ := info_parts (show (Try.prog.info? 22).map (fun i => (i.zero, i.size, i.bytes)) = some (some (.int .u32 0), 1, 4) by kernel_rfl)
  obtain ⟨hd, hhd⟩ : ∃ x, x = (Wd.head 1 n0 l.length).1 := ⟨_, rfl⟩
  have hok := Wd.head_thing 1 n0 l.length (by omega) hn0 hn1 hl
  have HH : ∀ w, Calls Try.prog 46 #[.int .i64 1, .int .i64 n0, .int .i64 (l.length : Int)] w fun e w' => e = .returned (.tuple #[.int .u32 hd, .int .i64 0]) ∧ w' = w := fun w => by
    have h := wdHead 1 n0 l.length w
    rw [← hhd, show (Wd.head 1 n0 (l.length : Int)).2 = 0 by rw [Wd.head_yes hok]] at h
    exact h
  obtain ⟨a, ha⟩ : ∃ x, x = (at' + 4 * xs.length) % 4294967296 := ⟨_, rfl⟩
  rw [← hhd, ← ha]
  replace HH := Lib.hid HH
  replace ha := Lib.hid ha
  clear hhd hok
  obtain ⟨A0, cap0, rfl, hcap1, hcap2⟩ := hO.sees.len
  have c1 := hL.ho.cell 0
  have c2 := hL.ho.free 0
  have c3 := hL.ho.lt
  have hbo : bo < C := hL.lt.1
  simp at c1
  have HL := Lib.hid hL
  have HO := Lib.hid hO
  clear hL hO
  have L2 := Lib.hid ((HL.out.alloc (.cells #[.int .i64 4, .int .i64 n0, .string s, .slice A l.length cap] 58)).alloc (.cells #[.int .u32 hd] 22))
  have O2 := Lib.hid ((HO.out.alloc (.cells #[.int .i64 4, .int .i64 n0, .string s, .slice A l.length cap] 58)).alloc (.cells #[.int .u32 hd] 22))
  have S2 := Sees.lit .u32 (w.alloc (.cells #[.int .i64 4, .int .i64 n0, .string s, .slice A l.length cap] 58)) 22 [hd] 1 (by simp) (by unfold maxLen; omega)
  have X2 := Lib.hid ((VB.new w 58 #[.int .i64 4, .int .i64 n0, .string s, .slice A l.length cap]).alloc (.cells #[.int .u32 hd] 22))
  have G2 := Lib.hid (((GrowS.refl (fun k => k = bo ∨ C ≤ k) w).alloc (.cells #[.int .i64 4, .int .i64 n0, .string s, .slice A l.length cap] 58)).alloc (.cells #[.int .u32 hd] 22))
  have P2 := Lib.hid HO.out.lt
  simp only [World.size_alloc] at S2
  replace S2 := Lib.hid S2
  go_enter Try.func69, Try.ntmps69
  go_wp2_with fail
  refine (HH.out _).mono ?_
  rintro _ w1 ⟨rfl, hw1⟩
  subst hw1
  go_wp2_with (at_builtin; first
    | (refine app_src Try.underlying24 hi hz0 hz1 hz2 rfl (.tmp 104) (.tmp 106) rfl rfl rfl S2.out O2.out (Below.refl C _) (by simp; omega) (by simp; omega) (by unfold maxLen; simp; omega) ?_; intro v3 w3 o3 b3 z3 g3; obtain ⟨A3, k3, rfl, _, _⟩ := o3.sees.len; rw [show (xs ++ [hd]).length = xs.length + 1 by simp] at o3 ⊢; have L3 := L2.out.grown g3 (fun g hg => (P2.out g hg).1); have X3 := X2.out.grownAny g3 (fun g hg => by have := (P2.out g hg).2; simp; omega); have G3 := G2.out.grown g3 (fun g hg _ => .inr (P2.out g hg).1)
       have N3 := o3.ne X3 (by decide)
       have q1 := L3.ho.cell 0; have q2 := L3.ho.free 0; have q3 := L3.ho.lt; have x3 := X3.cell 3; simp at q1 x3; have hne : ¬ w.heap.size = bo := by omega
       replace L3 := Lib.hid (L3.setO (.slice A3 (xs.length + 1) k3)); replace X3 := Lib.hid (X3.far bo 0 hne (.slice A3 (xs.length + 1) k3)); replace G3 := Lib.hid (G3.set (b := bo) (i := 0) (.inl rfl) (.slice A3 (xs.length + 1) k3)); have O3 := Lib.hid (o3.far (i := 0) hbo (.slice A3 (xs.length + 1) k3)); have P3 := Lib.hid o3.lt; replace N3 := Lib.hid N3; clear o3 b3 g3)
    | refine Hid.out ?_)
  refine Lib.hid ?_
  refine app_zeros Try.underlying24 Try.underlying3 hi hz0 hz1 hz2 rfl (.tmp 108) (.tmp 111) rfl l.length rfl rfl O3.out (by simp) (Below.refl C _) (by simp; omega) (by simp; omega) (by unfold maxLen; simp; omega) (by omega) (by omega) ?_
  intro v4 w4 o4 b4 z4 g4
  obtain ⟨A4, k4, rfl, _, _⟩ := o4.sees.len
  rw [show (xs ++ [hd] ++ List.replicate l.length (0 : Int)).length = xs.length + 1 + l.length by simp; omega] at o4 ⊢
  have L4 := L3.out.grown g4 (fun g hg => (P3.out g hg).1)
  have X4 := X3.out.grownAny g4 N3.out
  have G4 := G3.out.grown g4 (fun g hg _ => .inr (P3.out g hg).1)
  have q1 := L4.ho.cell 0
  have q2 := L4.ho.free 0
  have q3 := L4.ho.lt
  have x3 := X4.cell 3
  simp at q1 x3
  replace L4 := Lib.hid (L4.setO (.slice A4 (xs.length + 1 + l.length) k4))
  replace G4 := Lib.hid (G4.set (b := bo) (i := 0) (.inl rfl) (.slice A4 (xs.length + 1 + l.length) k4))
  have O4 := Lib.hid (o4.far (i := 0) hbo (.slice A4 (xs.length + 1 + l.length) k4))
  clear o4 b4 g4 L3 X3 G3 N3 P3 O3 L2 O2 S2 X2 G2 P2 X4
  go_wp2_with fail
  go_loopw [116] (fun q wr => ∃ (i : Nat) (o : Value), q = .int .i64 (i : Int) ∧ i ≤ l.length ∧ LayAt wr bo ba bl C o at' ∧ Owns 22 .u32 C wr o (Wd.out xs hd a l i) ∧ GrowS (fun k => k = bo ∨ C ≤ k) w wr)
    (fun q _ => l.length - (intOf q).toNat)
  case atStart =>
    refine ⟨0, _, rfl, by omega, L4.out, ?_, G4.out⟩
    rw [Wd.out_zero]
    exact O4.out
  case round =>
    obtain ⟨i, o5, rfl, hi', l5, w5, g5⟩ := hrel
    by_cases hil : i < l.length
    · have hne5 : l ≠ [] := by intro e; subst e; simp at hil
      obtain ⟨b, off, rfl, hbZ, hats⟩ := hat.out hne5
      obtain ⟨A1, cap1, d0, d1, d2, d3, hq1, hq2, hti⟩ := Tr.ats_cells hats i hil
      have hold : ∀ b (off : Nat), b < Z → b < w.heap.size ∧ ¬ (b = bo ∨ C ≤ b) := fun b _ h => ⟨by omega, by omega⟩
      have kc : ∀ o, wr.cell? ⟨b, o, none⟩ = w.cell? ⟨b, o, none⟩ := fun o => World.cell?_of_block (g5.block b (hold b 0 hbZ).1 (hold b 0 hbZ).2)
      rw [← kc] at d0 d1 d2 d3
      have hti' := Tr.at_grow hti g5 hold
      have hfi := Tr.fines_get hf i hil
      have hst := Tr.sizes_take l i hil
      have hsl := Tr.sizes_le l (i + 1)
      have y1 := l5.hl.cell 0
      have y2 := l5.hl.lt
      simp at y1
      have L5 := Lib.hid l5
      have W5 := Lib.hid w5
      have G5 := Lib.hid g5
      have T5 := Lib.hid hti'
      have hsz := g5.size
      have hbw : b < wr.heap.size := by omega
      clear l5 w5 g5 hti hti' hats kc hne5
      go_wp2_with fail
      refine (HI.out l[i] (List.getElem_mem hil) Z _ _ (Wd.out xs hd a l i) at' bo ba bl C o5 (Tr.at_alloc T5.out _) hfi hZ (L5.out.alloc _) (by simp; omega) (W5.out.alloc _) (by rw [Wd.out_length _ _ _ _ _ (by omega)]; omega)).mono ?_
      rintro _ w6 ⟨o6, rfl, l6, w6o, g6⟩
      have hlen : (Wd.out xs hd a l i).length = xs.length + 1 + l.length + Tr.sizes (l.take i) := Wd.out_length _ _ _ _ _ (by omega)
      obtain ⟨b6, hb6⟩ : ∃ x, x = (at' + 4 * ((Wd.out xs hd a l i).length : Int)) % 4294967296 := ⟨_, rfl⟩
      rw [← hb6] at w6o ⊢
      have hb6' : b6 = (a + 4 * ((1 + l.length + Tr.sizes (l.take i) : Nat) : Int)) % 4294967296 := by rw [hb6, hlen, ha.out]; omega
      obtain ⟨u6, hu6⟩ : ∃ x, x = l[i].word b6 := ⟨_, rfl⟩
      rw [← hu6]
      have hlen6 : (Wd.out xs hd a l i ++ l[i].words b6).length = xs.length + 1 + l.length + Tr.sizes (l.take i) + l[i].size := by rw [List.length_append, hlen, Tr.words_length]
      obtain ⟨g, cap6, rfl, hg6, hg6', _, _, hc6⟩ := w6o.cells (by intro e; rw [e] at hlen6; simp at hlen6; omega)
      have hc := hc6 (xs.length + 1 + i) (by rw [hlen6]; omega)
      have y4 := w6o.free (xs.length + 1 + i)
      have y5 := l6.ho.cell 0
      have y6 := l6.ho.lt
      rw [hlen6] at w6o l6
      simp only [hlen6] at y5
      simp at y5
      have L6 := Lib.hid l6
      have W6 := Lib.hid w6o
      have G6 := Lib.hid g6
      replace hb6' := Lib.hid hb6'
      replace hu6 := Lib.hid hu6
      generalize (Wd.out xs hd a l i ++ l[i].words b6)[xs.length + 1 + i]'_ = z6 at hc
      clear l6 w6o g6 hc6 hlen hlen6 hb6 y1
      go_wp2_with fail
      go_roundw
      case measure => simp only [intOf]; omega
      case rel =>
        refine ⟨i + 1, _, rfl, by omega, L6.out.setBig hg6 _, ?_, ((G5.out.alloc _).trans G6.out).set (.inr hg6) _⟩
        rw [← Wd.out_step xs hd a l i hil b6 hb6'.out, ← hu6.out]
        exact W6.out.set _ _
    · have hie : i = l.length := by omega
      subst hie
      have y1 := l5.ha.cell 0
      have y3 := l5.ha.lt
      simp at y1
      rw [Wd.out_all] at w5
      have L5 := Lib.hid l5
      have W5 := Lib.hid w5
      have G5 := Lib.hid g5
      clear l5 w5 g5
      go_wp2_with fail
      go_returns
      refine ⟨o5, ?_, L5.out, W5.out, G5.out⟩
      show Ending.returned (.int .u32 _) = _
      rw [ha.out]

theorem wdLayNum (k n0 : Int) (s : ByteArray) (A : Option Addr) (c cap : Nat) (bo ba bl : Nat) (w : World) (hk : k = 1 ∨ (k = 3 ∧ c = 0)) (hn : -1073741824 ≤ n0 ∧ n0 ≤ 1073741823) :
    Calls Try.prog 69 #[.agg #[.int .i64 k, .int .i64 n0, .string s, .slice A c cap], .pointer (some ⟨bo, 0, none⟩), .pointer (some ⟨ba, 0, none⟩), .pointer (some ⟨bl, 0, none⟩)] w fun e w' =>
      e = .returned (.int .u32 (Wd.odd n0)) ∧ Below w.heap.size w w' := by
  have HO := Lib.hid fun w => wdOdd n0 w hn
  rcases hk with rfl | ⟨rfl, rfl⟩
  all_goals go_enter Try.func69, Try.ntmps69
  all_goals go_wp2_with fail
  all_goals refine (HO.out _).mono ?_
  all_goals rintro _ w1 ⟨rfl, hw1⟩
  all_goals subst hw1
  all_goals go_wp2_with fail
  all_goals go_returns
  all_goals exact ⟨rfl, by go_grown⟩

theorem GrowS.ofBelow {S : Nat → Prop} {w w' : World} (h : Below w.heap.size w w') : GrowS S w w' := (GrowS.refl S w).below h

theorem wdLay1 (t : Tr) : LayHyp [t] := by
  induction t using Tr.ind
  rename_i k n0 s l ih
  intro t ht Z w v xs at' bo ba bl C o hat hf hZ hL hC hO hx
  obtain rfl := List.mem_singleton.1 ht
  rw [Tr.at_mk] at hat
  obtain ⟨A, cap, rfl, hl1, _, hl3⟩ := hat
  simp only [Tr.fine, Bool.and_eq_true] at hf
  obtain ⟨hmay, hfs⟩ := hf
  simp only [Tr.size] at hx
  have hwd : ∀ b, (Tr.mk k n0 s l).word b = if k = 1 ∨ (k = 3 ∧ l.length = 0) then Wd.odd n0 else b := fun _ => rfl
  rw [hwd, Tr.words]
  by_cases hk : k = 1 ∨ (k = 3 ∧ l.length = 0)
  · rw [if_pos hk, if_pos hk]
    have hn : -1073741824 ≤ n0 ∧ n0 ≤ 1073741823 := by
      unfold Wd.may at hmay
      rcases hk with rfl | ⟨rfl, _⟩ <;> simp at hmay <;> omega
    refine (wdLayNum k n0 s A l.length cap bo ba bl w hk hn).mono ?_
    rintro _ w1 ⟨rfl, b1⟩
    refine ⟨o, rfl, ⟨hL.ho.call b1, hL.ha.call b1, hL.hl.call b1, hL.ne, hL.lt⟩, ?_, GrowS.ofBelow b1⟩
    rw [List.append_nil]
    exact hO.below b1 (Nat.le_refl _)
  · rw [if_neg hk, if_neg hk]
    rw [if_neg hk] at hx
    by_cases hk2 : k = 2
    · subst hk2
      rw [if_pos rfl]
      rw [if_pos rfl] at hx
      have hs : s.size ≤ 4096 := by unfold Wd.may at hmay; simp at hmay; omega
      exact wdLayText n0 s A l.length cap xs at' bo ba bl C o w hs hL hC hO (by omega)
    · rw [if_neg hk2]
      rw [if_neg hk2] at hx
      have h34 : (k = 3 ∨ k = 4) ∧ 0 ≤ n0 ∧ n0 ≤ 65535 ∧ l.length ≤ 1024 := by
        have h1 : k ≠ 1 := fun e => hk (.inl e)
        unfold Wd.may at hmay
        simp only [h1, hk2, if_false] at hmay
        split at hmay
        · simp at hmay; exact ⟨by assumption, hmay.1, hmay.2.1, hmay.2.2.2⟩
        · cases hmay
      have hyp : LayHyp l := fun t ht => ih t ht t (List.mem_singleton.2 rfl)
      obtain ⟨hk34, hn0, hn1, hll⟩ := h34
      rcases hk34 with rfl | rfl
      · rw [if_neg (by decide)]
        exact wdLayFields3 n0 s l A cap Z xs at' bo ba bl C o w (Lib.hid hyp) (Lib.hid hl3) hl1 hfs hn0 hn1 hll (by omega) hZ hL hC hO (by omega)
      · rw [if_pos rfl]
        exact wdLayFields4 n0 s l A cap Z xs at' bo ba bl C o w (Lib.hid hyp) (Lib.hid hl3) hl1 hfs hn0 hn1 hll hZ hL hC hO (by omega)

end Go.Proofs.Ytgohnekaolgblaa
