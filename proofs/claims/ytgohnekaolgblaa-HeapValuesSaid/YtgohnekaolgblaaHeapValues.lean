/- gimletlaw29.HeapValues: the walk. -/
import Derived.Test.YtgohnekaolgblaaHpVals
import Derived.Test.YtgohnekaolgblaaHeapMany
namespace Go.Proofs.Ytgohnekaolgblaa
open Go.RowKit

theorem Hp.deep_le (t : Tr) : t.deep ≤ t.count := by
  induction t using Tr.ind
  rename_i k n s l ih
  have hl : ∀ (l' : List Tr), (∀ t ∈ l', t ∈ l) → Tr.deeps l' ≤ Tr.counts l' := by
    intro l'
    induction l' with
    | nil => intro _; simp [Tr.deeps]
    | cons t l' ih' =>
      intro hs
      have h1 := ih t (hs t (by simp))
      have h2 := ih' (fun t ht => hs t (by simp [ht]))
      simp only [Tr.deeps, Tr.counts]; omega
  have := hl l (fun _ h => h)
  simp only [Tr.deep, Tr.count]; omega

set_option maxHeartbeats 4000000 in
set_option maxRecDepth 100000 in
theorem heapValuesWalk (t : Tr) (v : Value) (ah to : Int) (w : World) (ht : Tr.at (fun b _ => b < w.heap.size) w t v) (ka : (Lit.int .i64 ah).wf = true) (kt : (Lit.int .u32 to).wf = true) :
    Calls Try.prog 15 #[v, .int .i64 ah, .int .u32 to] w fun e w' => e = .returned (.bool true) ∧ Below w.heap.size w w' := by
  have hto := wf_u32 kt
  have hah : -9223372036854775808 ≤ ah ∧ ah ≤ 9223372036854775807 := by simpa [Lit.wf, IntKind.min, IntKind.max, IntKind.bits, IntKind.signed] using ka
  clear ka kt
  have hkt : ∀ w', Below w.heap.size w w' → Tr.at (fun b _ => b < w.heap.size) w' t v := fun w' hb => Tr.at_below ht hb (fun _ _ h => h)
  have HV := Lib.hid fun w' (h : Below w.heap.size w w') => values t t (List.mem_singleton.2 rfl) _ w' v 1000 (hkt w' h) (fun _ _ hl => Nat.lt_of_lt_of_le hl h.size) (by omega) (by omega)
  have hv := Tr.vals_le t 1000 (by omega)
  have hsv := Hp.size_vals t 1000 (by omega)
  have HL := Lib.hid fun (hc : t.count ≤ 1000) a (h0 : 0 ≤ a ∧ a < 4294967296) w' (h : Below w.heap.size w w') => wdLay t v a w' (Tr.at_mono (hkt w' h) (fun b off hl => Nat.lt_of_lt_of_le hl h.size)) (by omega) (by have := Hp.deep_le t; omega) h0.1 h0.2
  have HP := Lib.hid fun w => pick ah 21 w (by omega) hah
  have AW := Lib.hid fun w => hpAwake w
  obtain ⟨A, cA, rfl, -⟩ := Tr.at_agg ht
  clear ht hkt hah
  obtain ⟨n, hn⟩ : ∃ x, x = t.vals 1000 := ⟨_, rfl⟩
  rw [← hn] at hv HV hsv
  clear hn
  have BW0 : Below w.heap.size w (w.alloc (.cells #[.int .i64 t.k, .int .i64 t.n, .string t.s, .slice A t.l.length cA] 58)) := B.alloc (B.refl w) _
  have H4 : ∀ w', Below (w.alloc (.cells #[.int .i64 t.k, .int .i64 t.n, .string t.s, .slice A t.l.length cA] 58)).heap.size (w.alloc (.cells #[.int .i64 t.k, .int .i64 t.n, .string t.s, .slice A t.l.length cA] 58)) w' → w'.cell? ⟨w.heap.size, 0, none⟩ = some (.int .i64 t.k) ∧ w'.cell? ⟨w.heap.size, 1, none⟩ = some (.int .i64 t.n) ∧ w'.cell? ⟨w.heap.size, 2, none⟩ = some (.string t.s) ∧ w'.cell? ⟨w.heap.size, 3, none⟩ = some (.slice A t.l.length cA) ∧ w.heap.size < w'.heap.size := by
    intro w' hb
    have v0 := (VB.new w 58 #[.int .i64 t.k, .int .i64 t.n, .string t.s, .slice A t.l.length cA]).call hb
    exact ⟨v0.cell 0, v0.cell 1, v0.cell 2, v0.cell 3, v0.lt⟩
  have HBW : ∀ w', Below (w.alloc (.cells #[.int .i64 t.k, .int .i64 t.n, .string t.s, .slice A t.l.length cA] 58)).heap.size (w.alloc (.cells #[.int .i64 t.k, .int .i64 t.n, .string t.s, .slice A t.l.length cA] 58)) w' → Below w.heap.size w w' := fun w' hb => B.call BW0 hb
  replace H4 := Lib.hid H4
  replace HBW := Lib.hid HBW
  replace BW0 := Lib.hid BW0
  have hrem : to.tmod 8 = to % 8 := Int.tmod_eq_emod_of_nonneg hto.1
  go_enter Try.func15, Try.ntmps15
  go_wp2_with fail
  refine (AW.out _).mono ?_
  rintro _ w1 ⟨rfl, b1⟩
  have B1 := Lib.hid b1
  clear b1 AW
  obtain ⟨x0, x1, x2, x3, lx⟩ := H4.out _ B1.out
  go_wp2_with fail
  refine (HV.out _ (HBW.out _ B1.out)).mono ?_
  rintro _ w2 ⟨rfl, b2⟩
  have B2 := Lib.hid (B.call B1.out b2)
  clear b2 B1 x0 x1 x2 x3 lx HV
  by_cases g1 : 1000 < n
  · go_wp2_with fail
    go_returns
    exact ⟨rfl, HBW.out _ B2.out⟩
  by_cases g2 : to < 8
  · go_wp2_with fail
    go_returns
    exact ⟨rfl, HBW.out _ B2.out⟩
  by_cases g3 : to % 8 = 0
  case neg =>
    have g3' : (to % 8 == 0) = false := by simpa using g3
    go_wp2_with fail
    go_returns
    exact ⟨rfl, HBW.out _ B2.out⟩
  by_cases g4 : 2147483648 < to
  · go_wp2_with fail
    go_returns
    exact ⟨rfl, HBW.out _ B2.out⟩
  obtain ⟨x0, x1, x2, x3, lx⟩ := H4.out _ B2.out
  go_wp2_with fail
  refine (HP.out _).mono ?_
  rintro _ w3 ⟨k, rfl, hk, hw3⟩
  subst hw3
  have hk' : k < 21 := by omega
  clear hk
  go_wp2_with fail
  have hct : t.count ≤ 1000 := by have := hv.2.2 (by omega); omega
  have hst : t.size ≤ 3000 := by have := hsv (by omega); omega
  have hp : Wd.place (16 + 4 * (k : Int)) := ⟨by omega, by omega, by omega⟩
  have HL2 := HL.out hct (16 + 4 * (k : Int)) ⟨by omega, by omega⟩
  clear HL hv hsv
  by_cases hc0 : Wd.chk t = 0
  case neg =>
    have hlay : Wd.lay t (16 + 4 * (k : Int)) = ([], 0, Wd.chk t) := by unfold Wd.lay; rw [if_neg (by simpa using hp), if_pos hc0]
    rw [hlay] at HL2
    obtain ⟨c, hcc⟩ : ∃ c, c = Wd.chk t := ⟨_, rfl⟩
    rw [← hcc] at HL2 hc0
    have hc0' : (c == 0) = false := by simpa using hc0
    clear hcc hlay
    refine (HL2 _ (HBW.out _ B2.out)).mono ?_
    rintro _ w4 ⟨o, rfl, own4, b4⟩
    have B4 := Lib.hid (B.call B2.out b4)
    obtain ⟨A4, c4, rfl, -, -⟩ := own4.sees.len
    clear own4 b4
    go_wp2_with fail
    go_returns
    exact ⟨rfl, HBW.out _ B4.out⟩
  have hlay : Wd.lay t (16 + 4 * (k : Int)) = (t.words (16 + 4 * (k : Int)), t.word (16 + 4 * (k : Int)), 0) := by unfold Wd.lay; rw [if_neg (by simpa using hp), if_neg (by simpa using hc0)]
  rw [hlay] at HL2
  have hpl : Hp.place to := ⟨by omega, g3, by omega⟩
  obtain ⟨m, r, X, Y, V⟩ := Hp.value_facts t k hc0 hk' hst to hpl _ _ rfl rfl
  have hwl := Tr.words_length t (16 + 4 * (k : Int))
  obtain ⟨ws, hws⟩ : ∃ ws, ws = t.words (16 + 4 * (k : Int)) := ⟨_, rfl⟩
  obtain ⟨u, hu⟩ : ∃ u, u = t.word (16 + 4 * (k : Int)) := ⟨_, rfl⟩
  rw [← hws, ← hu] at V HL2
  rw [← hws] at hwl
  rw [← hwl] at V hst
  have hml := V.ml
  have hrn := V.rn
  obtain ⟨i0, hi0, hz0, hz1, hz2⟩ := info_parts (show (Try.prog.info? 22).map (fun i => (i.zero, i.size, i.bytes)) = some (some (.int .u32 0), 1, 4) by kernel_rfl)
  replace V := Lib.hid V
  clear hlay hws hu hc0 hct hp hwl
  refine (HL2 _ (HBW.out _ B2.out)).mono ?_
  rintro _ w4 ⟨o, rfl, own4, b4⟩
  have B4 := Lib.hid (B.call B2.out b4)
  obtain ⟨A4, c4, rfl, y1, y2⟩ := own4.sees.len
  unfold maxLen at y2
  simp only at y1 own4 ⊢
  have S4 := Lib.hid fun w' (h : Below w4.heap.size w4 w') => own4.sees.below h (Nat.le_refl _)
  clear own4 b4 B2 HL2
  go_wp2_with fail
  go_loopw [12, 13] (fun o c wr => ∃ i : Nat, c = .int .i64 (i : Int) ∧ i ≤ k ∧ Owns 22 .u32 w4.heap.size wr o (List.replicate i 5) ∧ Below w4.heap.size w4 wr ∧ w4.heap.size ≤ wr.heap.size)
    (fun _ c _ => k - (intOf c).toNat)
  case atStart => exact ⟨0, rfl, by omega, Owns.nil _ _ _ _, B.refl w4, Nat.le_refl _⟩
  case round =>
    obtain ⟨i, rfl, hik, own, hb, hz⟩ := hrel
    by_cases hil : i < k
    · have hlen : (List.replicate i (5 : Int)).length ≤ 21 := by simp only [List.length_replicate]; omega
      obtain ⟨xs, hxs⟩ : ∃ xs, xs = List.replicate i (5 : Int) := ⟨_, rfl⟩
      rw [← hxs] at own hlen
      have hnx : xs ++ [5] = List.replicate (i + 1) 5 := by rw [hxs, ← List.replicate_succ']
      have HX := Lib.hid hnx
      clear hxs hnx
      go_wp2_with (at_builtin; refine app_own Try.underlying24 hi0 hz0 hz1 hz2 rfl _ _ rfl rfl rfl own hb hz (by omega) (by unfold maxLen; omega) ?_; intro v5 w5 own5 b5 z5)
      rw [HX.out] at own5
      exact ⟨⟨i + 1, by simp, by omega, own5, b5, z5⟩, by simp only [intOf]; omega⟩
    · have hie : i = k := by omega
      subst hie
      obtain ⟨Ax, cx, rfl, x1, x2⟩ := own.sees.len
      unfold maxLen at x2
      simp only [List.length_replicate] at x1 own ⊢
      have SW := S4.out _ hb
      have OWN := Lib.hid own
      have HB := Lib.hid hb
      clear own hb
      have q1 : ((List.replicate i (5 : Int)).length + ws.length) * 4 ≤ 140737488355328 := by rw [List.length_replicate]; omega
      have q2 : (List.replicate i (5 : Int)).length + ws.length ≤ maxLen := by rw [List.length_replicate]; unfold maxLen; omega
      replace q1 := Lib.hid q1
      replace q2 := Lib.hid q2
      go_wp2_with (at_builtin; refine app_at (B := w4.heap.size) (xs := List.replicate i 5) (ys := ws) Try.underlying24 hi0 hz0 hz1 hz2 rfl (.tmp 62) (.tmp 63) rfl rfl rfl SW OWN.out hz q1.out q2.out ?_; intro v5 w5 own5 g5 _)
      have B5 := Lib.hid (B.call B4.out (HB.out.grown g5 hz (fun g hg => (OWN.out.lt g hg).1)))
      obtain ⟨ls, hls⟩ : ∃ ls, ls = List.replicate i (5 : Int) ++ ws := ⟨_, rfl⟩
      rw [← hls] at own5 V
      clear hls q1 q2
      obtain ⟨A5, c5, rfl, z1, z2⟩ := own5.sees.len
      unfold maxLen at z2
      have S5 := Lib.hid fun w' (h : Below w5.heap.size w5 w') => own5.sees.below h (Nat.le_refl _)
      have ONE := Lib.hid fun (w' : World) => (Sees.lit .u32 w' 22 [u] 1 (by simp) (by simp [maxLen]) : Sees .u32 (w'.alloc (.cells #[.int .u32 u] 22)) (.slice (some ⟨w'.heap.size, 0, none⟩) 1 1) [u])
      have MV := Lib.hid fun w' (h : Below w5.heap.size w5 w') => hpMoves _ _ ls [u] 16 to (w'.alloc (.cells #[.int .u32 u] 22)) ((S5.out w' h).alloc _) V.out.rl (ONE.out w') V.out.ru (by omega) hto
      rw [V.out.moves] at MV
      have LV := Lib.hid fun w' (h : Below w5.heap.size w5 w') => hpLive _ _ ls [u] 16 (w'.alloc (.cells #[.int .u32 u] 22)) ((S5.out w' h).alloc _) V.out.rl (ONE.out w') V.out.ru (by omega)
      rw [V.out.live] at LV
      clear own5 g5 OWN HB
      refine (MV.out w5 (B.refl w5)).mono ?_
      rintro _ w6 ⟨o1, o2, rfl, own1, own2, b6⟩
      have B6 := Lib.hid (B.call (B.alloc B5.out _) b6)
      have C6 := Lib.hid (B.call (B.alloc (B.refl w5) _) b6)
      obtain ⟨A6, c6, rfl, p1, p2⟩ := own1.sees.len
      obtain ⟨A7, c7, rfl, p3, p4⟩ := own2.sees.len
      unfold maxLen at p2 p4
      simp only at p1 p3 own1 own2 ⊢
      rw [hml] at p1 own1 ⊢
      rw [hrn] at p3 own2 ⊢
      have SM := Lib.hid fun w' (h : Below w6.heap.size w6 w') => own1.sees.below h (Nat.le_refl _)
      have SQ := Lib.hid fun w' (h : Below w6.heap.size w6 w') => own2.sees.below h (Nat.le_refl _)
      have SAME := Lib.hid fun w' (h : Below w5.heap.size w5 w') (h' : Below w6.heap.size w6 w') => hpSameOk _ _ _ _ ls [u] m r 16 to (w'.alloc (.cells #[.int .u32 u] 22)) X Y X Y ((S5.out w' h).alloc _) (ONE.out w') ((SM.out w' h').alloc _) ((SQ.out w' h').alloc _) V.out.rl V.out.ru V.out.rm V.out.rr (by omega) hto V.out.chk V.out.chk2 (by rw [V.out.rn]; rfl) V.out.one V.out.two true (by simp)
      clear own1 own2 b6 MV B5
      replace hml := Lib.hid hml
      replace hrn := Lib.hid hrn
      go_wp2_with fail
      refine (LV.out w6 C6.out).mono ?_
      rintro _ w7 ⟨rfl, b7⟩
      have B7 := Lib.hid (B.call (B.alloc B6.out _) b7)
      have C7 := Lib.hid (B.call (B.alloc C6.out _) b7)
      have D7 := Lib.hid (B.call (B.alloc (B.refl w6) _) b7)
      clear b7 LV B6 C6
      go_wp2_with fail
      refine (SAME.out w7 C7.out D7.out).mono ?_
      rintro _ w8 ⟨rfl, b8⟩
      have B8 := Lib.hid (B.call (B.alloc B7.out _) b8)
      clear b8 SAME B7 C7 D7
      go_wp2_with fail
      go_returns
      exact ⟨rfl, HBW.out _ B8.out⟩

end Go.Proofs.Ytgohnekaolgblaa
