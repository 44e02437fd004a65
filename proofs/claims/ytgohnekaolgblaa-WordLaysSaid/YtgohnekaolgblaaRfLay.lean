/- gimletref27.lay, Lay: contracts (printed by wip/gen_rflay.py). -/
import Derived.Test.YtgohnekaolgblaaRfText
import Derived.Test.YtgohnekaolgblaaWdLayOut
namespace Go.Proofs.Ytgohnekaolgblaa
open Go.RowKit

def RfLayHyp (l : List Tr) : Prop := ∀ t ∈ l, ∀ (S : Nat → Nat → Prop) (w : World) (v : Value) (a : Int), Tr.at S w t v → (∀ b off, S b off → b < w.heap.size) → t.fine = true → 0 ≤ a → a < 4294967296 → t.size ≤ 1073741824 →
    Calls Try.prog 72 #[v, .int .u32 a] w fun e w' => ∃ o', e = .returned (.tuple #[o', .int .u32 (t.word a)]) ∧ Owns 22 .u32 w.heap.size w' o' (t.words a) ∧ Below w.heap.size w w'

set_option maxHeartbeats 2000000 in
set_option maxRecDepth 100000 in
theorem rfLayFields3 (n0 : Int) (s : ByteArray) (l : List Tr) (A : Option Addr) (cap : Nat) (a : Int) (w : World) (S : Nat → Nat → Prop)
    (HI : Hid (RfLayHyp l)) (hat : Hid (l ≠ [] → ∃ b off, A = some ⟨b, off, none⟩ ∧ S b off ∧ Tr.ats S w l b off)) (hS : Hid (∀ b off, S b off → b < w.heap.size)) (hlc : l.length ≤ cap) (_hcm : cap ≤ 9223372036854775807)
    (hf : Tr.fines l = true) (hn0 : 0 ≤ n0) (hn1 : n0 ≤ 65535) (hl : l.length ≤ 1024) (hl0 : 0 < l.length) (_ha0 : 0 ≤ a) (_ha1 : a < 4294967296) (hx : 1 + l.length + Tr.sizes l ≤ 1073741824) :
    Calls Try.prog 72 #[.agg #[.int .i64 3, .int .i64 n0, .string s, .slice A l.length cap], .int .u32 a] w fun e w' =>
      ∃ o', e = .returned (.tuple #[o', .int .u32 a]) ∧ Owns 22 .u32 w.heap.size w' o' ((Wd.head 0 n0 l.length).1 :: (Tr.owns a (1 + l.length) l ++ Tr.mores a (1 + l.length) l)) ∧ Below w.heap.size w w' := by
  obtain ⟨i0, hi, hz0, hz1, hz2⟩ := info_parts (show (Try.prog.info? 22).map (fun i => (i.zero, i.size, i.bytes)) = some (some (.int .u32 0), 1, 4) by kernel_rfl)
  obtain ⟨hd, hhd⟩ : ∃ x, x = (Wd.head 0 n0 l.length).1 := ⟨_, rfl⟩
  have hok := Wd.head_thing 0 n0 l.length (by omega) hn0 hn1 hl
  have HH : ∀ w, Calls Try.prog 47 #[.int .i64 0, .int .i64 n0, .int .i64 (l.length : Int)] w fun e w' => e = .returned (.tuple #[.int .u32 hd, .int .i64 0]) ∧ w' = w := fun w => by
    have h := refHead 0 n0 l.length w
    rw [← hhd, show (Wd.head 0 n0 (l.length : Int)).2 = 0 by rw [Wd.head_yes hok]] at h
    exact h
  rw [← hhd]
  replace HH := Lib.hid HH
  clear hhd hok
  have O2 : Owns 22 .u32 w.heap.size ((w.alloc (.cells #[.int .i64 3, .int .i64 n0, .string s, .slice A l.length cap] 58)).alloc (.cells #[.int .u32 hd] 22)) (.slice (some ⟨w.heap.size + 1, 0, none⟩) 1 1) [hd] := by
    simpa using Owns.lit 22 .u32 (w.alloc (.cells #[.int .i64 3, .int .i64 n0, .string s, .slice A l.length cap] 58)) [hd] w.heap.size (by simp) (by unfold maxLen; simp)
  replace O2 := Lib.hid O2
  have X2 := Lib.hid ((VB.new w 58 #[.int .i64 3, .int .i64 n0, .string s, .slice A l.length cap]).alloc (.cells #[.int .u32 hd] 22))
  have B2 := Lib.hid (B.alloc (B.alloc (B.refl w) (.cells #[.int .i64 3, .int .i64 n0, .string s, .slice A l.length cap] 58)) (.cells #[.int .u32 hd] 22))
  go_enter Try.func72, Try.ntmps72
  go_wp2_with fail
  refine (HH.out _).mono ?_
  rintro _ w1 ⟨rfl, hw1⟩
  subst hw1
  clear HH
  go_wp2_with (at_builtin; refine Hid.out ?_)
  refine Lib.hid ?_
  refine app_zeros Try.underlying24 Try.underlying3 hi hz0 hz1 hz2 rfl (.tmp 71) (.tmp 74) rfl l.length rfl rfl O2.out (by simp) (Below.refl w.heap.size _) (by simp; omega) (by simp; omega) (by unfold maxLen; simp; omega) (by omega) (by omega) ?_
  intro v4 w4 o4 b4 z4 g4
  obtain ⟨A4, k4, rfl, _, _⟩ := o4.sees.len
  rw [show ([hd] ++ List.replicate l.length (0 : Int)).length = 1 + l.length by simp; omega] at o4 ⊢
  have X4 := Lib.hid (X2.out.grownAny g4 (O2.out.ne X2.out (by decide)))
  have B4 := Lib.hid (B2.out.trans b4)
  have O4 := Lib.hid o4
  clear o4 b4 g4 z4 O2 X2 B2
  go_wp2_with fail
  go_loopw [13, 14] (fun o q wr => ∃ (i : Nat), q = .int .i64 (i : Int) ∧ i ≤ l.length ∧ Owns 22 .u32 w.heap.size wr o (Wd.out [] hd a l i) ∧ VB wr w.heap.size 58 #[.int .i64 3, .int .i64 n0, .string s, .slice A l.length cap] ∧ (∀ g, o.ownBlock = some g → w.heap.size ≠ g) ∧ Below w.heap.size w wr)
    (fun _ q _ => l.length - (intOf q).toNat)
  case atStart =>
    refine ⟨0, rfl, by omega, ?_, X4.out, O4.out.ne X4.out (by decide), B4.out⟩
    rw [Wd.out_zero]
    exact O4.out
  case round =>
    obtain ⟨i, rfl, hi', o5, x5, n5, b5⟩ := hrel
    have hlen : (Wd.out [] hd a l i).length = 1 + l.length + Tr.sizes (l.take i) := by rw [Wd.out_length _ _ _ _ _ (by omega)]; simp
    obtain ⟨g, cap5, rfl, hg5, hg5', _, _, hc5⟩ := o5.cells (by intro e; rw [e] at hlen; simp at hlen; omega)
    rw [hlen] at o5
    rw [hlen]
    have w3 := x5.cell 3
    have wl := x5.lt
    simp at w3
    have hsl0 := Tr.sizes_le l i
    by_cases hil : i < l.length
    · have hne5 : l ≠ [] := by intro e; subst e; simp at hil
      obtain ⟨b, off, rfl, hbS, hats⟩ := hat.out hne5
      obtain ⟨A1, cap1, d0, d1, d2, d3, hq1, hq2, hti⟩ := Tr.ats_cells hats i hil
      have hbw := hS.out _ _ hbS
      have kc : ∀ o, wr.cell? ⟨b, o, none⟩ = w.cell? ⟨b, o, none⟩ := fun o => b5.cell (p := ⟨b, o, none⟩) hbw
      rw [← kc] at d0 d1 d2 d3
      have hfi := Tr.fines_get hf i hil
      have hst := Tr.sizes_take l i hil
      have hsl := Tr.sizes_le l (i + 1)
      have hcall := fun b' h0 h1 => HI.out l[i] (List.getElem_mem hil) S wr _ b' (Tr.at_below hti b5 hS.out) (fun b off h => Nat.lt_of_lt_of_le (hS.out b off h) b5.size) hfi h0 h1 (by omega)
      replace hcall := Lib.hid hcall
      have hc := hc5 (1 + i) (by rw [hlen]; omega)
      have y4 := o5.free (1 + i)
      obtain ⟨lo, hlo⟩ : ∃ x, x = 1 + l.length + Tr.sizes (l.take i) := ⟨_, rfl⟩
      rw [← hlo] at o5 ⊢
      generalize (Wd.out [] hd a l i)[1 + i]'_ = z5 at hc
      have O5 := Lib.hid o5
      have X5 := Lib.hid x5
      have B5 := Lib.hid b5
      have hn5 : ¬ w.heap.size = g := n5 g rfl
      have hlo1 : lo ≤ 1073741824 := by omega
      have hbd : 1 + i < lo := by omega
      have hlo2 := Lib.hid hlo
      have hlen2 := Lib.hid hlen
      clear o5 x5 b5 n5 hc5 hlo hlen hats kc hne5 hti
      have haft : ∀ w6, Below wr.heap.size wr w6 → w6.cell? ⟨g, 1 + i, none⟩ = some (.int .u32 z5) ∧ w6.frozen? ⟨g, 1 + i, none⟩ = false ∧ g < w6.heap.size := fun w6 h6 => ⟨cellK h6 hc, (World.frozen?_of_block (h6.block g hg5')).trans y4, Nat.lt_of_lt_of_le hg5' h6.size⟩
      replace haft := Lib.hid haft
      go_wp2_with fail
      refine (hcall.out _ (by omega) (by omega)).mono ?_
      obtain ⟨ar, har⟩ : ∃ x, x = (a + 4 * (lo : Int)) % 4294967296 := ⟨_, rfl⟩
      rw [← har]
      rintro _ w6 ⟨o6, rfl, ow6, b6⟩
      have hw6 := ow6.sees.len
      obtain ⟨A6, k6, rfl, _, hk6⟩ := hw6
      rw [Tr.words_length] at ow6 ⊢
      obtain ⟨ur, hur⟩ : ∃ x, x = l[i].word ar := ⟨_, rfl⟩
      rw [← hur]
      obtain ⟨c6, f6, l6⟩ := haft.out w6 b6
      have O6 := Lib.hid (O5.out.below b6 (Nat.le_refl _))
      have X6 := Lib.hid (X5.out.call b6)
      have B6 := Lib.hid (B.call B5.out b6)
      have W6 := Lib.hid ow6
      have O7 := Lib.hid (O6.out.set (1 + i) ur)
      have S7 := Lib.hid (W6.out.far (b := g) (i := 1 + i) hg5' (.int .u32 ur)).sees
      have X7 := Lib.hid (X6.out.far g (1 + i) hn5 (.int .u32 ur))
      have B7 := Lib.hid (B6.out.setCell (p := ⟨g, 1 + i, none⟩) hg5 (.int .u32 ur))
      have P7 := Lib.hid (show w.heap.size < w6.heap.size from X6.out.lt)
      have hl7 : ((Wd.out [] hd a l i).set (1 + i) ur).length = lo := by rw [List.length_set, hlen2.out, hlo2.out]
      have hl8 : (l[i].words ar).length = l[i].size := Tr.words_length _ _
      have hfin : (Wd.out [] hd a l i).set (1 + i) ur ++ l[i].words ar = Wd.out [] hd a l (i + 1) := by
        have := Wd.out_step [] hd a l i hil ar (by rw [har, hlo2.out])
        rw [List.set_append_left _ _ (by rw [hlen2.out]; simp; omega), ← hur] at this
        simpa using this
      replace hfin := Lib.hid hfin
      have hs8 : lo + l[i].size ≤ 1073741824 := by rw [hlo2.out]; omega
      replace har := Lib.hid har
      replace hur := Lib.hid hur
      replace hl7 := Lib.hid hl7
      replace hl8 := Lib.hid hl8
      clear b6 ow6
      go_wp2_with (at_builtin; first
        | (refine app_src Try.underlying24 hi hz0 hz1 hz2 rfl (.tmp 103) (.tmp 104) rfl rfl rfl S7.out O7.out B7.out (by simp [World.setCell]; omega) (by rw [hl7.out, hl8.out]; omega) (by unfold maxLen; rw [hl7.out, hl8.out]; omega) ?_; intro v8 w8 o8 b8 z8 g8; rw [hfin.out] at o8; have n8 := o8.ne (X7.out.grownAny g8 (O7.out.ne X7.out (by decide))) (by decide); have X8 := Lib.hid (X7.out.grownAny g8 (O7.out.ne X7.out (by decide))); obtain ⟨A8, k8, rfl, _, _⟩ := o8.sees.len; have O8 := Lib.hid o8; have B8 := Lib.hid b8; clear o8 b8 g8)
        | refine Hid.out ?_)
      go_roundw
      case measure => simp only [intOf]; omega
      case rel => exact ⟨i + 1, rfl, by omega, O8.out, X8.out, n8, B8.out⟩
    · have hie : i = l.length := by omega
      subst hie
      have O5 := o5
      rw [Wd.out_all] at O5
      replace O5 := Lib.hid O5
      have B5 := Lib.hid b5
      clear o5 x5 b5 n5 hc5
      go_wp2_with fail
      go_returns
      exact ⟨_, rfl, O5.out, B5.out⟩

set_option maxHeartbeats 2000000 in
set_option maxRecDepth 100000 in
theorem rfLayFields4 (n0 : Int) (s : ByteArray) (l : List Tr) (A : Option Addr) (cap : Nat) (a : Int) (w : World) (S : Nat → Nat → Prop)
    (HI : Hid (RfLayHyp l)) (hat : Hid (l ≠ [] → ∃ b off, A = some ⟨b, off, none⟩ ∧ S b off ∧ Tr.ats S w l b off)) (hS : Hid (∀ b off, S b off → b < w.heap.size)) (hlc : l.length ≤ cap) (_hcm : cap ≤ 9223372036854775807)
    (hf : Tr.fines l = true) (hn0 : 0 ≤ n0) (hn1 : n0 ≤ 65535) (hl : l.length ≤ 1024) (_ha0 : 0 ≤ a) (_ha1 : a < 4294967296) (hx : 1 + l.length + Tr.sizes l ≤ 1073741824) :
    Calls Try.prog 72 #[.agg #[.int .i64 4, .int .i64 n0, .string s, .slice A l.length cap], .int .u32 a] w fun e w' =>
      ∃ o', e = .returned (.tuple #[o', .int .u32 a]) ∧ Owns 22 .u32 w.heap.size w' o' ((Wd.head 1 n0 l.length).1 :: (Tr.owns a (1 + l.length) l ++ Tr.mores a (1 + l.length) l)) ∧ Below w.heap.size w w' := by
  obtain ⟨i0, hi, hz0, hz1, hz2⟩ := info_parts (show (Try.prog.info? 22).map (fun i => (i.zero, i.size, i.bytes)) = some (some (.int .u32 0), 1, 4) by kernel_rfl)
  obtain ⟨hd, hhd⟩ : ∃ x, x = (Wd.head 1 n0 l.length).1 := ⟨_, rfl⟩
  have hok := Wd.head_thing 1 n0 l.length (by omega) hn0 hn1 hl
  have HH : ∀ w, Calls Try.prog 47 #[.int .i64 1, .int .i64 n0, .int .i64 (l.length : Int)] w fun e w' => e = .returned (.tuple #[.int .u32 hd, .int .i64 0]) ∧ w' = w := fun w => by
    have h := refHead 1 n0 l.length w
    rw [← hhd, show (Wd.head 1 n0 (l.length : Int)).2 = 0 by rw [Wd.head_yes hok]] at h
    exact h
  rw [← hhd]
  replace HH := Lib.hid HH
  clear hhd hok
  have O2 : Owns 22 .u32 w.heap.size ((w.alloc (.cells #[.int .i64 4, .int .i64 n0, .string s, .slice A l.length cap] 58)).alloc (.cells #[.int .u32 hd] 22)) (.slice (some ⟨w.heap.size + 1, 0, none⟩) 1 1) [hd] := by
    simpa using Owns.lit 22 .u32 (w.alloc (.cells #[.int .i64 4, .int .i64 n0, .string s, .slice A l.length cap] 58)) [hd] w.heap.size (by simp) (by unfold maxLen; simp)
  replace O2 := Lib.hid O2
  have X2 := Lib.hid ((VB.new w 58 #[.int .i64 4, .int .i64 n0, .string s, .slice A l.length cap]).alloc (.cells #[.int .u32 hd] 22))
  have B2 := Lib.hid (B.alloc (B.alloc (B.refl w) (.cells #[.int .i64 4, .int .i64 n0, .string s, .slice A l.length cap] 58)) (.cells #[.int .u32 hd] 22))
  go_enter Try.func72, Try.ntmps72
  go_wp2_with fail
  refine (HH.out _).mono ?_
  rintro _ w1 ⟨rfl, hw1⟩
  subst hw1
  clear HH
  go_wp2_with (at_builtin; refine Hid.out ?_)
  refine Lib.hid ?_
  refine app_zeros Try.underlying24 Try.underlying3 hi hz0 hz1 hz2 rfl (.tmp 71) (.tmp 74) rfl l.length rfl rfl O2.out (by simp) (Below.refl w.heap.size _) (by simp; omega) (by simp; omega) (by unfold maxLen; simp; omega) (by omega) (by omega) ?_
  intro v4 w4 o4 b4 z4 g4
  obtain ⟨A4, k4, rfl, _, _⟩ := o4.sees.len
  rw [show ([hd] ++ List.replicate l.length (0 : Int)).length = 1 + l.length by simp; omega] at o4 ⊢
  have X4 := Lib.hid (X2.out.grownAny g4 (O2.out.ne X2.out (by decide)))
  have B4 := Lib.hid (B2.out.trans b4)
  have O4 := Lib.hid o4
  clear o4 b4 g4 z4 O2 X2 B2
  go_wp2_with fail
  go_loopw [13, 14] (fun o q wr => ∃ (i : Nat), q = .int .i64 (i : Int) ∧ i ≤ l.length ∧ Owns 22 .u32 w.heap.size wr o (Wd.out [] hd a l i) ∧ VB wr w.heap.size 58 #[.int .i64 4, .int .i64 n0, .string s, .slice A l.length cap] ∧ (∀ g, o.ownBlock = some g → w.heap.size ≠ g) ∧ Below w.heap.size w wr)
    (fun _ q _ => l.length - (intOf q).toNat)
  case atStart =>
    refine ⟨0, rfl, by omega, ?_, X4.out, O4.out.ne X4.out (by decide), B4.out⟩
    rw [Wd.out_zero]
    exact O4.out
  case round =>
    obtain ⟨i, rfl, hi', o5, x5, n5, b5⟩ := hrel
    have hlen : (Wd.out [] hd a l i).length = 1 + l.length + Tr.sizes (l.take i) := by rw [Wd.out_length _ _ _ _ _ (by omega)]; simp
    obtain ⟨g, cap5, rfl, hg5, hg5', _, _, hc5⟩ := o5.cells (by intro e; rw [e] at hlen; simp at hlen; omega)
    rw [hlen] at o5
    rw [hlen]
    have w3 := x5.cell 3
    have wl := x5.lt
    simp at w3
    have hsl0 := Tr.sizes_le l i
    by_cases hil : i < l.length
    · have hne5 : l ≠ [] := by intro e; subst e; simp at hil
      obtain ⟨b, off, rfl, hbS, hats⟩ := hat.out hne5
      obtain ⟨A1, cap1, d0, d1, d2, d3, hq1, hq2, hti⟩ := Tr.ats_cells hats i hil
      have hbw := hS.out _ _ hbS
      have kc : ∀ o, wr.cell? ⟨b, o, none⟩ = w.cell? ⟨b, o, none⟩ := fun o => b5.cell (p := ⟨b, o, none⟩) hbw
      rw [← kc] at d0 d1 d2 d3
      have hfi := Tr.fines_get hf i hil
      have hst := Tr.sizes_take l i hil
      have hsl := Tr.sizes_le l (i + 1)
      have hcall := fun b' h0 h1 => HI.out l[i] (List.getElem_mem hil) S wr _ b' (Tr.at_below hti b5 hS.out) (fun b off h => Nat.lt_of_lt_of_le (hS.out b off h) b5.size) hfi h0 h1 (by omega)
      replace hcall := Lib.hid hcall
      have hc := hc5 (1 + i) (by rw [hlen]; omega)
      have y4 := o5.free (1 + i)
      obtain ⟨lo, hlo⟩ : ∃ x, x = 1 + l.length + Tr.sizes (l.take i) := ⟨_, rfl⟩
      rw [← hlo] at o5 ⊢
      generalize (Wd.out [] hd a l i)[1 + i]'_ = z5 at hc
      have O5 := Lib.hid o5
      have X5 := Lib.hid x5
      have B5 := Lib.hid b5
      have hn5 : ¬ w.heap.size = g := n5 g rfl
      have hlo1 : lo ≤ 1073741824 := by omega
      have hbd : 1 + i < lo := by omega
      have hlo2 := Lib.hid hlo
      have hlen2 := Lib.hid hlen
      clear o5 x5 b5 n5 hc5 hlo hlen hats kc hne5 hti
      have haft : ∀ w6, Below wr.heap.size wr w6 → w6.cell? ⟨g, 1 + i, none⟩ = some (.int .u32 z5) ∧ w6.frozen? ⟨g, 1 + i, none⟩ = false ∧ g < w6.heap.size := fun w6 h6 => ⟨cellK h6 hc, (World.frozen?_of_block (h6.block g hg5')).trans y4, Nat.lt_of_lt_of_le hg5' h6.size⟩
      replace haft := Lib.hid haft
      go_wp2_with fail
      refine (hcall.out _ (by omega) (by omega)).mono ?_
      obtain ⟨ar, har⟩ : ∃ x, x = (a + 4 * (lo : Int)) % 4294967296 := ⟨_, rfl⟩
      rw [← har]
      rintro _ w6 ⟨o6, rfl, ow6, b6⟩
      have hw6 := ow6.sees.len
      obtain ⟨A6, k6, rfl, _, hk6⟩ := hw6
      rw [Tr.words_length] at ow6 ⊢
      obtain ⟨ur, hur⟩ : ∃ x, x = l[i].word ar := ⟨_, rfl⟩
      rw [← hur]
      obtain ⟨c6, f6, l6⟩ := haft.out w6 b6
      have O6 := Lib.hid (O5.out.below b6 (Nat.le_refl _))
      have X6 := Lib.hid (X5.out.call b6)
      have B6 := Lib.hid (B.call B5.out b6)
      have W6 := Lib.hid ow6
      have O7 := Lib.hid (O6.out.set (1 + i) ur)
      have S7 := Lib.hid (W6.out.far (b := g) (i := 1 + i) hg5' (.int .u32 ur)).sees
      have X7 := Lib.hid (X6.out.far g (1 + i) hn5 (.int .u32 ur))
      have B7 := Lib.hid (B6.out.setCell (p := ⟨g, 1 + i, none⟩) hg5 (.int .u32 ur))
      have P7 := Lib.hid (show w.heap.size < w6.heap.size from X6.out.lt)
      have hl7 : ((Wd.out [] hd a l i).set (1 + i) ur).length = lo := by rw [List.length_set, hlen2.out, hlo2.out]
      have hl8 : (l[i].words ar).length = l[i].size := Tr.words_length _ _
      have hfin : (Wd.out [] hd a l i).set (1 + i) ur ++ l[i].words ar = Wd.out [] hd a l (i + 1) := by
        have := Wd.out_step [] hd a l i hil ar (by rw [har, hlo2.out])
        rw [List.set_append_left _ _ (by rw [hlen2.out]; simp; omega), ← hur] at this
        simpa using this
      replace hfin := Lib.hid hfin
      have hs8 : lo + l[i].size ≤ 1073741824 := by rw [hlo2.out]; omega
      replace har := Lib.hid har
      replace hur := Lib.hid hur
      replace hl7 := Lib.hid hl7
      replace hl8 := Lib.hid hl8
      clear b6 ow6
      go_wp2_with (at_builtin; first
        | (refine app_src Try.underlying24 hi hz0 hz1 hz2 rfl (.tmp 103) (.tmp 104) rfl rfl rfl S7.out O7.out B7.out (by simp [World.setCell]; omega) (by rw [hl7.out, hl8.out]; omega) (by unfold maxLen; rw [hl7.out, hl8.out]; omega) ?_; intro v8 w8 o8 b8 z8 g8; rw [hfin.out] at o8; have n8 := o8.ne (X7.out.grownAny g8 (O7.out.ne X7.out (by decide))) (by decide); have X8 := Lib.hid (X7.out.grownAny g8 (O7.out.ne X7.out (by decide))); obtain ⟨A8, k8, rfl, _, _⟩ := o8.sees.len; have O8 := Lib.hid o8; have B8 := Lib.hid b8; clear o8 b8 g8)
        | refine Hid.out ?_)
      go_roundw
      case measure => simp only [intOf]; omega
      case rel => exact ⟨i + 1, rfl, by omega, O8.out, X8.out, n8, B8.out⟩
    · have hie : i = l.length := by omega
      subst hie
      have O5 := o5
      rw [Wd.out_all] at O5
      replace O5 := Lib.hid O5
      have B5 := Lib.hid b5
      clear o5 x5 b5 n5 hc5
      go_wp2_with fail
      go_returns
      exact ⟨_, rfl, O5.out, B5.out⟩

theorem rfLayNum (k n0 : Int) (s : ByteArray) (A : Option Addr) (c cap : Nat) (a : Int) (w : World) (hk : k = 1 ∨ (k = 3 ∧ c = 0)) (hn : -1073741824 ≤ n0 ∧ n0 ≤ 1073741823) :
    Calls Try.prog 72 #[.agg #[.int .i64 k, .int .i64 n0, .string s, .slice A c cap], .int .u32 a] w fun e w' =>
      e = .returned (.tuple #[.slice none 0 0, .int .u32 (Wd.odd n0)]) ∧ Below w.heap.size w w' := by
  have HO : ∀ w, Calls Try.prog 43 #[.int .i64 n0] w fun e w' => e = .returned (.tuple #[.int .u32 (Wd.odd n0), .int .i64 0]) ∧ w' = w := fun w => by
    have h := refInt n0 w
    rw [show Wd.int n0 = (Wd.odd n0, 0) by unfold Wd.int; rw [if_neg (by omega)]] at h
    exact h
  replace HO := Lib.hid HO
  rcases hk with rfl | ⟨rfl, rfl⟩
  all_goals go_enter Try.func72, Try.ntmps72
  all_goals go_wp2_with fail
  all_goals refine (HO.out _).mono ?_
  all_goals rintro _ w1 ⟨rfl, hw1⟩
  all_goals subst hw1
  all_goals go_wp2_with fail
  all_goals go_returns
  all_goals exact ⟨rfl, by go_grown⟩

set_option maxHeartbeats 2000000 in
set_option maxRecDepth 100000 in
theorem rfLayText (n0 : Int) (s : ByteArray) (A : Option Addr) (c cap : Nat) (a : Int) (w : World) (hs : s.size ≤ 4096) :
    Calls Try.prog 72 #[.agg #[.int .i64 2, .int .i64 n0, .string s, .slice A c cap], .int .u32 a] w fun e w' =>
      ∃ o', e = .returned (.tuple #[o', .int .u32 a]) ∧ Owns 22 .u32 w.heap.size w' o' ((Wd.head 2 0 s.size).1 :: Wd.tw (Wd.byt s) ((s.size + 3) / 4)) ∧ Below w.heap.size w w' := by
  obtain ⟨i0, hi, hz0, hz1, hz2⟩ := info_parts (show (Try.prog.info? 22).map (fun i => (i.zero, i.size, i.bytes)) = some (some (.int .u32 0), 1, 4) by kernel_rfl)
  obtain ⟨hd, hhd⟩ : ∃ x, x = (Wd.head 2 0 s.size).1 := ⟨_, rfl⟩
  have hok := Wd.head_text s.size hs
  have HH : ∀ w, Calls Try.prog 47 #[.int .i64 2, .int .i64 0, .int .i64 (s.size : Int)] w fun e w' => e = .returned (.tuple #[.int .u32 hd, .int .i64 0]) ∧ w' = w := fun w => by
    have h := refHead 2 0 s.size w
    rw [← hhd, show (Wd.head 2 0 (s.size : Int)).2 = 0 by rw [Wd.head_yes hok]] at h
    exact h
  rw [← hhd]
  replace HH := Lib.hid HH
  clear hhd hok
  have HT := Lib.hid fun w => rfText s w hs
  have O2 : Owns 22 .u32 w.heap.size ((w.alloc (.cells #[.int .i64 2, .int .i64 n0, .string s, .slice A c cap] 58)).alloc (.cells #[.int .u32 hd] 22)) (.slice (some ⟨w.heap.size + 1, 0, none⟩) 1 1) [hd] := by
    simpa using Owns.lit 22 .u32 (w.alloc (.cells #[.int .i64 2, .int .i64 n0, .string s, .slice A c cap] 58)) [hd] w.heap.size (by simp) (by unfold maxLen; simp)
  replace O2 := Lib.hid O2
  have X2 := Lib.hid ((VB.new w 58 #[.int .i64 2, .int .i64 n0, .string s, .slice A c cap]).alloc (.cells #[.int .u32 hd] 22))
  have B2 := Lib.hid (B.alloc (B.alloc (B.refl w) (.cells #[.int .i64 2, .int .i64 n0, .string s, .slice A c cap] 58)) (.cells #[.int .u32 hd] 22))
  obtain ⟨m, hm⟩ : ∃ m, m = (s.size + 3) / 4 := ⟨_, rfl⟩
  rw [← hm] at HT ⊢
  have hml : (Wd.tw (Wd.byt s) m).length = m := Wd.tw_length _ _
  have hm4 : m ≤ 1024 := by omega
  generalize Wd.tw (Wd.byt s) m = ws at HT hml ⊢
  clear hm
  go_enter Try.func72, Try.ntmps72
  go_wp2_with fail
  refine (HH.out _).mono ?_
  rintro _ w1 ⟨rfl, hw1⟩
  subst hw1
  clear HH
  go_wp2_with fail
  refine (HT.out _).mono ?_
  rintro _ w5 ⟨o5, rfl, ow5, b5⟩
  have hw5 := ow5.sees.len
  obtain ⟨A5, k5, rfl, _, hk5⟩ := hw5
  rw [hml] at ow5 ⊢
  have O5 := Lib.hid (O2.out.below b5 (Nat.le_refl _))
  have S5 := Lib.hid ow5.sees
  have B5 := Lib.hid (B.call B2.out b5)
  have z5 := B5.out.size
  clear ow5 b5 O2 X2 B2
  go_wp2_with (at_builtin; refine Hid.out ?_)
  refine Lib.hid ?_
  refine app_src Try.underlying24 hi hz0 hz1 hz2 rfl (.tmp 51) (.tmp 54) rfl rfl rfl S5.out O5.out B5.out z5 (by simp; omega) (by unfold maxLen; simp; omega) ?_
  intro v8 w8 o8 b8 z8 g8
  obtain ⟨A8, k8, rfl, _, _⟩ := o8.sees.len
  rw [show ([hd] ++ ws).length = m + 1 by simp [hml]] at o8 ⊢
  replace O8 := Lib.hid o8
  replace b8 := Lib.hid b8
  clear o8 g8
  go_wp2_with fail
  go_returns
  exact ⟨_, rfl, O8.out, b8.out⟩

/-- gimletref27.lay lays the tree's words. -/
theorem rfLay1 (t : Tr) : RfLayHyp [t] := by
  induction t using Tr.ind
  rename_i k n0 s l ih
  intro t ht S w v a hat hS hf ha0 ha1 hx
  obtain rfl := List.mem_singleton.1 ht
  rw [Tr.at_mk] at hat
  obtain ⟨A, cap, rfl, hl1, hl2, hl3⟩ := hat
  unfold maxLen at hl2
  simp only [Tr.fine, Bool.and_eq_true] at hf
  obtain ⟨hmay, hfs⟩ := hf
  simp only [Tr.size] at hx
  have hwd : ∀ b, (Tr.mk k n0 s l).word b = if k = 1 ∨ (k = 3 ∧ l.length = 0) then Wd.odd n0 else b := fun _ => rfl
  rw [hwd, Tr.words]
  by_cases hk : k = 1 ∨ (k = 3 ∧ l.length = 0)
  · rw [if_pos hk, if_pos hk]
    have hn : -1073741824 ≤ n0 ∧ n0 ≤ 1073741823 := by
      unfold Wd.may at hmay
      rcases hk with rfl | ⟨rfl, _⟩ <;> simp at hmay <;> omega
    refine (rfLayNum k n0 s A l.length cap a w hk hn).mono ?_
    rintro _ w1 ⟨rfl, b1⟩
    exact ⟨_, rfl, Owns.nil _ _ _ _, b1⟩
  · rw [if_neg hk, if_neg hk]
    rw [if_neg hk] at hx
    by_cases hk2 : k = 2
    · subst hk2
      rw [if_pos rfl]
      have hs : s.size ≤ 4096 := by unfold Wd.may at hmay; simp at hmay; omega
      exact rfLayText n0 s A l.length cap a w hs
    · rw [if_neg hk2]
      rw [if_neg hk2] at hx
      have h34 : (k = 3 ∨ k = 4) ∧ 0 ≤ n0 ∧ n0 ≤ 65535 ∧ l.length ≤ 1024 := by
        have h1 : k ≠ 1 := fun e => hk (.inl e)
        unfold Wd.may at hmay
        simp only [h1, hk2, if_false] at hmay
        split at hmay
        · simp at hmay; exact ⟨by assumption, hmay.1, hmay.2.1, hmay.2.2.2⟩
        · cases hmay
      have hyp : RfLayHyp l := fun t ht => ih t ht t (List.mem_singleton.2 rfl)
      obtain ⟨hk34, hn0, hn1, hll⟩ := h34
      rcases hk34 with rfl | rfl
      · rw [if_neg (by decide)]
        exact rfLayFields3 n0 s l A cap a w S (Lib.hid hyp) (Lib.hid hl3) (Lib.hid hS) hl1 (by omega) hfs hn0 hn1 hll (by omega) ha0 ha1 (by omega)
      · rw [if_pos rfl]
        exact rfLayFields4 n0 s l A cap a w S (Lib.hid hyp) (Lib.hid hl3) (Lib.hid hS) hl1 (by omega) hfs hn0 hn1 hll ha0 ha1 (by omega)

theorem Tr.deep_le' (t : Tr) : t.deep ≤ t.count := by
  induction t using Tr.ind
  rename_i k n s l ih
  have hs : ∀ l', (∀ t ∈ l', t ∈ l) → Tr.deeps l' ≤ Tr.counts l' := by
    intro l'
    induction l' with
    | nil => intro _; simp [Tr.deeps]
    | cons t l' ih' =>
      intro hm
      simp only [Tr.deeps, Tr.counts]
      have h1 := ih t (hm t (by simp))
      have h2 := ih' (fun x hx => hm x (by simp [hx]))
      omega
  have := hs l (fun _ h => h)
  simp only [Tr.deep, Tr.count]
  omega

set_option maxHeartbeats 1000000 in
/-- gimletref27.Lay. -/
theorem rfLay (t : Tr) (v : Value) (a : Int) (w : World) (ht : Tr.at (fun b _ => b < w.heap.size) w t v) (hcn : t.count ≤ 16384) (h0 : 0 ≤ a) (h1 : a < 4294967296) :
    Calls Try.prog 33 #[v, .int .u32 a] w (LayPost w (Wd.lay t a)) := by
  have hdp := Tr.deep_le' t
  have HP := Lib.hid fun w => rfPlace a w h0 h1
  have HC := Lib.hid fun w' (h : Below w.heap.size w w') => rfChk t v w' (Tr.at_mono (Tr.at_below ht h (fun _ _ h => h)) (fun b _ hb => Nat.lt_of_lt_of_le hb h.size)) hcn (by omega)
  have HL := Lib.hid fun (hf : t.fine = true) w' (h : Below w.heap.size w w') => rfLay1 t t (List.mem_singleton.2 rfl) _ w' v a (Tr.at_below ht h (fun _ _ h => h)) (fun b _ hb => Nat.lt_of_lt_of_le hb h.size) hf h0 h1 (by have := Tr.size_le t hf; omega)
  obtain ⟨A, cap, rfl, -⟩ := Tr.at_agg ht
  clear ht
  have H0 : ∀ w', Below (w.alloc (.cells #[.int .i64 t.k, .int .i64 t.n, .string t.s, .slice A t.l.length cap] 58)).heap.size (w.alloc (.cells #[.int .i64 t.k, .int .i64 t.n, .string t.s, .slice A t.l.length cap] 58)) w' → (w'.cell? ⟨w.heap.size, 0, none⟩ = some (.int .i64 t.k) ∧ w'.cell? ⟨w.heap.size, 1, none⟩ = some (.int .i64 t.n) ∧ w'.cell? ⟨w.heap.size, 2, none⟩ = some (.string t.s) ∧ w'.cell? ⟨w.heap.size, 3, none⟩ = some (.slice A t.l.length cap)) ∧ w.heap.size < w'.heap.size := by
    intro w' hb
    have v0 := (VB.new w 58 #[.int .i64 t.k, .int .i64 t.n, .string t.s, .slice A t.l.length cap]).call hb
    exact ⟨⟨v0.cell 0, v0.cell 1, v0.cell 2, v0.cell 3⟩, v0.lt⟩
  have HBW : ∀ w', Below (w.alloc (.cells #[.int .i64 t.k, .int .i64 t.n, .string t.s, .slice A t.l.length cap] 58)).heap.size (w.alloc (.cells #[.int .i64 t.k, .int .i64 t.n, .string t.s, .slice A t.l.length cap] 58)) w' → Below w.heap.size w w' := fun w' hb => B.call (B.alloc (B.refl w) _) hb
  replace H0 := Lib.hid H0
  replace HBW := Lib.hid HBW
  unfold Wd.lay
  by_cases hp : Wd.place a
  · rw [if_neg (by simpa using hp)]
    simp only [hp, decide_true] at HP
    by_cases hc : Wd.chk t = 0
    · rw [if_neg (by simpa using hc)]
      rw [hc] at HC
      have hf := (Wd.chk_ok hc).2.2
      obtain ⟨u, hu⟩ : ∃ u, u = t.word a := ⟨_, rfl⟩
      obtain ⟨ws, hws⟩ : ∃ u, u = t.words a := ⟨_, rfl⟩
      rw [← hu, ← hws] at HL ⊢
      clear hc hp hu hws
      go_enter Try.func33, Try.ntmps33
      go_wp2_with fail
      refine (HP.out _).mono ?_
      rintro _ w1 ⟨rfl, hw1⟩
      subst hw1
      obtain ⟨⟨x0, x1, x2, x3⟩, lx⟩ := H0.out _ (B.refl _)
      go_wp2_with fail
      refine (HC.out _ (HBW.out _ (B.refl _))).mono ?_
      rintro _ w2 ⟨rfl, b2⟩
      have B2 := Lib.hid b2
      clear b2 x0 x1 x2 x3 lx
      obtain ⟨⟨x0, x1, x2, x3⟩, lx⟩ := H0.out _ B2.out
      go_wp2_with fail
      refine (HL.out hf _ (HBW.out _ B2.out)).mono ?_
      rintro _ w3 ⟨o3, rfl, ow3, b3⟩
      have hw3 := ow3.sees.len
      obtain ⟨A3, k3, rfl, _, hk3⟩ := hw3
      have O3 := Lib.hid (ow3.mono (B' := w.heap.size) (HBW.out _ B2.out).size)
      have B3 := Lib.hid (B.call B2.out b3)
      clear ow3 b3
      go_wp2_with fail
      go_returns
      exact ⟨_, rfl, O3.out, HBW.out _ B3.out⟩
    · rw [if_pos hc]
      obtain ⟨c, hcc⟩ : ∃ c, c = Wd.chk t := ⟨_, rfl⟩
      rw [← hcc] at hc HC ⊢
      clear hcc hp HL
      go_enter Try.func33, Try.ntmps33
      go_wp2_with fail
      refine (HP.out _).mono ?_
      rintro _ w1 ⟨rfl, hw1⟩
      subst hw1
      obtain ⟨⟨x0, x1, x2, x3⟩, lx⟩ := H0.out _ (B.refl _)
      go_wp2_with fail
      refine (HC.out _ (HBW.out _ (B.refl _))).mono ?_
      rintro _ w2 ⟨rfl, b2⟩
      have B2 := Lib.hid b2
      clear b2 x0 x1 x2 x3 lx
      go_wp2_with fail
      go_returns
      exact ⟨_, rfl, Owns.nil _ _ _ _, HBW.out _ B2.out⟩
  · rw [if_pos hp]
    have hpf : decide (Wd.place a) = false := by simpa using hp
    simp only [hpf] at HP
    clear hp hpf HC HL
    go_enter Try.func33, Try.ntmps33
    go_wp2_with fail
    refine (HP.out _).mono ?_
    rintro _ w1 ⟨rfl, hw1⟩
    subst hw1
    go_wp2_with fail
    go_returns
    exact ⟨_, rfl, Owns.nil _ _ _ _, HBW.out _ (B.refl _)⟩

end Go.Proofs.Ytgohnekaolgblaa
