/- The law WordApart: the walk (printed by wip/gen_apart.py). -/
import Derived.Test.YtgohnekaolgblaaRdLaw5
import Derived.Test.YtgohnekaolgblaaTrVals
import Derived.Test.YtgohnekaolgblaaWdAwake
namespace Go.Proofs.Ytgohnekaolgblaa
open Go.RowKit

theorem Tr.deep_le (t : Tr) : t.deep ≤ t.count := by
  induction t using Tr.ind
  rename_i k n s l ih
  have hl : ∀ (l' : List Tr), (∀ t ∈ l', t ∈ l) → Tr.deeps l' ≤ Tr.counts l' := by
    intro l'
    induction l' with
    | nil => intro _; simp [Tr.deeps]
    | cons t l' ih' =>
      intro hs
      have h1 := ih t (hs t (by simp))
      have h2 := ih' (fun t ht => hs t (by simp [ht]))
      simp only [Tr.deeps, Tr.counts]; omega
  have := hl l (fun _ h => h)
  simp only [Tr.deep, Tr.count]; omega

theorem Wd.lay_zero {t : Tr} {a : Int} (h : (Wd.lay t a).2.2 = 0) : Wd.place a ∧ Wd.chk t = 0 ∧ Wd.lay t a = (t.words a, t.word a, 0) := by
  unfold Wd.lay at h ⊢
  split at h
  · simp at h
  · rename_i hp
    split at h
    · rename_i hc; exact absurd h hc
    · rename_i hc
      rw [if_neg hp, if_neg hc]
      exact ⟨by simpa using hp, by simpa using hc, rfl⟩
theorem keepT {lo : Nat} {w1 w2 : World} {t : Tr} {v : Value} (h : Tr.at (fun b off => lo ≤ b ∧ b < w1.heap.size ∧ Fresh w1 b off) w1 t v) (hb : Below w1.heap.size w1 w2) : Tr.at (fun b off => lo ≤ b ∧ b < w2.heap.size ∧ Fresh w2 b off) w2 t v :=
  Tr.at_mono (Tr.at_below h hb (fun _ _ h => h.2.1)) (fun _ _ h => ⟨h.1, Nat.lt_of_lt_of_le h.2.1 hb.size, h.2.2.keep (hb.block _ h.2.1)⟩)
theorem sameValueN (t u : Tr) (w : World) (v v' : Value) (h : ∃ lo, Tr.at (fun b off => lo ≤ b ∧ b < w.heap.size ∧ Fresh w b off) w t v) (h' : ∃ lo, Tr.at (fun b off => lo ≤ b ∧ b < w.heap.size ∧ Fresh w b off) w u v') (r : Bool) (hr : t.same u = r) :
    Calls Try.prog 36 #[v, v'] w fun e w' => e = .returned (.bool r) ∧ Below w.heap.size w w' := by
  obtain ⟨lo, h⟩ := h
  obtain ⟨lo', h'⟩ := h'
  rw [← hr]
  exact sameValue t t (List.mem_singleton.2 rfl) u _ _ w v v' h h' (fun b off h => h.2.1) (fun b off h => h.2.1)

theorem takeH {P : Program} {ops : Array Oper} {Q : Exit → Act → World → Prop} {md : Region.Mode} {S : World → Prop} (i : Nat) {oi : Oper} {d : Tmp} {v : Value} {fuel : Nat} {listed : Array Bool} {a : Act} {w : World} (hi : ops[i]? = some oi) (hd : oi.dst = some d)
    (hs : Region.noSelect ops = true) (hf : Region.free md ops listed i = true) (hr : (Region.ready md ops listed).contains i = true)
    (hQ : ∀ c a w, Q (.panic c) (a.put oi.dst v) w → Q (.panic c) a w) (hw : Region.wanted oi (yielded ops a.tmps) = true) (hy : ∀ w, S w → (execOp a.eval oi).run P w = .ok (.value v) w) (hS : S w)
    (h : wpAnyH P md ops Q S fuel (listed.setIfInBounds i true) { a with tmps := a.tmps.setIfInBounds d v } w) : wpAnyH P md ops Q S (fuel + 1) listed a w := by
  refine wpAnyH_take hi hs hf hr hQ (Or.inl ⟨hw, hy⟩) hS ?_
  rw [hd]
  exact h
theorem skipH {P : Program} {ops : Array Oper} {Q : Exit → Act → World → Prop} {md : Region.Mode} {S : World → Prop} (i : Nat) {oi : Oper} {d : Tmp} {fuel : Nat} {listed : Array Bool} {a : Act} {w : World} (hi : ops[i]? = some oi) (hd : oi.dst = some d)
    (hs : Region.noSelect ops = true) (hf : Region.free md ops listed i = true) (hr : (Region.ready md ops listed).contains i = true)
    (hQ : ∀ c a w, Q (.panic c) (a.put oi.dst undef) w → Q (.panic c) a w) (hw : Region.wanted oi (yielded ops a.tmps) = false) (hS : S w)
    (h : wpAnyH P md ops Q S fuel (listed.setIfInBounds i true) { a with tmps := a.tmps.setIfInBounds d undef } w) : wpAnyH P md ops Q S (fuel + 1) listed a w := by
  refine wpAnyH_take hi hs hf hr hQ (Or.inr ⟨hw, rfl⟩) hS ?_
  rw [hd]
  exact h

set_option linter.unusedSimpArgs false in
set_option maxHeartbeats 8000000 in
set_option maxRecDepth 100000 in
theorem wordApartWalk (ta tb : Tr) (va vb : Value) (a : Int) (w : World) (ha : Tr.at (fun b _ => b < w.heap.size) w ta va) (hb : Tr.at (fun b _ => b < w.heap.size) w tb vb) (h2 : (Lit.int .u32 a).wf = true) :
    Calls Try.prog 10 #[va, vb, .int .u32 a] w fun e w' => e = .returned (.bool true) ∧ Below w.heap.size w w' := by
  obtain ⟨hu0, hu1⟩ := wf_u32 h2
  have hka : ∀ w', Below w.heap.size w w' → Tr.at (fun b _ => b < w.heap.size) w' ta va := fun w' hb => Tr.at_below ha hb (fun _ _ h => h)
  have hkb : ∀ w', Below w.heap.size w w' → Tr.at (fun b _ => b < w.heap.size) w' tb vb := fun w' hb' => Tr.at_below hb hb' (fun _ _ h => h)
  have HVA := Lib.hid fun w' (h : Below w.heap.size w w') => values ta ta (List.mem_singleton.2 rfl) _ w' va 3000 (hka w' h) (fun _ _ hl => Nat.lt_of_lt_of_le hl h.size) (by omega) (by omega)
  have HVB := Lib.hid fun w' (h : Below w.heap.size w w') => values tb tb (List.mem_singleton.2 rfl) _ w' vb 3000 (hkb w' h) (fun _ _ hl => Nat.lt_of_lt_of_le hl h.size) (by omega) (by omega)
  have hva := Tr.vals_le ta 3000 (by omega)
  have hvb := Tr.vals_le tb 3000 (by omega)
  have HLA := Lib.hid fun (hc : ta.count ≤ 3000) w' (h : Below w.heap.size w w') => wdLay ta va a w' (Tr.at_mono (hka w' h) (fun b off hl => Nat.lt_of_lt_of_le hl h.size)) (by omega) (by have := Tr.deep_le ta; omega) hu0 hu1
  have HLB := Lib.hid fun (hc : tb.count ≤ 3000) w' (h : Below w.heap.size w w') => wdLay tb vb a w' (Tr.at_mono (hkb w' h) (fun b off hl => Nat.lt_of_lt_of_le hl h.size)) (by omega) (by have := Tr.deep_le tb; omega) hu0 hu1
  have HPA := Lib.hid fun (hc : ta.count ≤ 3000) w' (h : Below w.heap.size w w') => plainValue ta ta (List.mem_singleton.2 rfl) _ w' va (hka w' h) (fun b off hl => Nat.lt_of_lt_of_le hl h.size) (by omega)
  have HPB := Lib.hid fun (hc : tb.count ≤ 3000) w' (h : Below w.heap.size w w') => plainValue tb tb (List.mem_singleton.2 rfl) _ w' vb (hkb w' h) (fun b off hl => Nat.lt_of_lt_of_le hl h.size) (by omega)
  obtain ⟨A, cA, rfl, -⟩ := Tr.at_agg ha
  obtain ⟨A', cB, rfl, -⟩ := Tr.at_agg hb
  clear ha hb hka hkb h2
  obtain ⟨na, hna⟩ : ∃ x, x = ta.vals 3000 := ⟨_, rfl⟩
  obtain ⟨nb, hnb⟩ : ∃ x, x = tb.vals 3000 := ⟨_, rfl⟩
  rw [← hna] at hva HVA
  rw [← hnb] at hvb HVB
  clear hna hnb
  have BW0 : Below w.heap.size w ((w.alloc (.cells #[.int .i64 ta.k, .int .i64 ta.n, .string ta.s, .slice A ta.l.length cA] 58)).alloc (.cells #[.int .i64 tb.k, .int .i64 tb.n, .string tb.s, .slice A' tb.l.length cB] 58)) := B.alloc (B.alloc (B.refl w) _) _
  have H8 : ∀ w', Below ((w.alloc (.cells #[.int .i64 ta.k, .int .i64 ta.n, .string ta.s, .slice A ta.l.length cA] 58)).alloc (.cells #[.int .i64 tb.k, .int .i64 tb.n, .string tb.s, .slice A' tb.l.length cB] 58)).heap.size ((w.alloc (.cells #[.int .i64 ta.k, .int .i64 ta.n, .string ta.s, .slice A ta.l.length cA] 58)).alloc (.cells #[.int .i64 tb.k, .int .i64 tb.n, .string tb.s, .slice A' tb.l.length cB] 58)) w' → w'.cell? ⟨w.heap.size, 0, none⟩ = some (.int .i64 ta.k) ∧ w'.cell? ⟨w.heap.size, 1, none⟩ = some (.int .i64 ta.n) ∧ w'.cell? ⟨w.heap.size, 2, none⟩ = some (.string ta.s) ∧ w'.cell? ⟨w.heap.size, 3, none⟩ = some (.slice A ta.l.length cA) ∧ w'.cell? ⟨w.heap.size + 1, 0, none⟩ = some (.int .i64 tb.k) ∧ w'.cell? ⟨w.heap.size + 1, 1, none⟩ = some (.int .i64 tb.n) ∧ w'.cell? ⟨w.heap.size + 1, 2, none⟩ = some (.string tb.s) ∧ w'.cell? ⟨w.heap.size + 1, 3, none⟩ = some (.slice A' tb.l.length cB) ∧ w.heap.size + 1 < w'.heap.size := by
    intro w' hb
    have v0 := ((VB.new w 58 #[.int .i64 ta.k, .int .i64 ta.n, .string ta.s, .slice A ta.l.length cA]).alloc (.cells #[.int .i64 tb.k, .int .i64 tb.n, .string tb.s, .slice A' tb.l.length cB] 58)).call hb
    have v1 := (VB.new (w.alloc (.cells #[.int .i64 ta.k, .int .i64 ta.n, .string ta.s, .slice A ta.l.length cA] 58)) 58 #[.int .i64 tb.k, .int .i64 tb.n, .string tb.s, .slice A' tb.l.length cB]).call hb
    simp only [World.size_alloc] at v1
    exact ⟨v0.cell 0, v0.cell 1, v0.cell 2, v0.cell 3, v1.cell 0, v1.cell 1, v1.cell 2, v1.cell 3, v1.lt⟩
  have HBW : ∀ w', Below ((w.alloc (.cells #[.int .i64 ta.k, .int .i64 ta.n, .string ta.s, .slice A ta.l.length cA] 58)).alloc (.cells #[.int .i64 tb.k, .int .i64 tb.n, .string tb.s, .slice A' tb.l.length cB] 58)).heap.size ((w.alloc (.cells #[.int .i64 ta.k, .int .i64 ta.n, .string ta.s, .slice A ta.l.length cA] 58)).alloc (.cells #[.int .i64 tb.k, .int .i64 tb.n, .string tb.s, .slice A' tb.l.length cB] 58)) w' → Below w.heap.size w w' := fun w' hb => B.call BW0 hb
  replace H8 := Lib.hid H8
  replace HBW := Lib.hid HBW
  replace BW0 := Lib.hid BW0
  go_enter Try.func10, Try.ntmps10
  go_wp2_with fail
  refine (awake27 _).mono ?_
  rintro _ w1 ⟨rfl, b1⟩
  have BW1 := Lib.hid b1
  clear b1
  obtain ⟨x0, x1, x2, x3, y0, y1, y2, y3, lx⟩ := H8.out _ BW1.out
  go_wp2_with fail
  refine (HVA.out _ (HBW.out _ BW1.out)).mono ?_
  rintro _ w2 ⟨rfl, b2⟩
  have BW2 := Lib.hid (B.call BW1.out b2)
  clear b2 BW1 x0 x1 x2 x3 y0 y1 y2 y3 lx
  obtain ⟨x0, x1, x2, x3, y0, y1, y2, y3, lx⟩ := H8.out _ BW2.out
  by_cases hn1 : 3000 < na
  · go_wp2_with fail
    go_returns
    exact ⟨rfl, HBW.out _ BW2.out⟩
  have hca : ta.count ≤ 3000 := by have := hva.2.2 (by omega); omega
  go_wp2_with fail
  refine (HVB.out _ (HBW.out _ BW2.out)).mono ?_
  rintro _ w3 ⟨rfl, b3⟩
  have BW3 := Lib.hid (B.call BW2.out b3)
  clear b3 BW2 x0 x1 x2 x3 y0 y1 y2 y3 lx
  obtain ⟨x0, x1, x2, x3, y0, y1, y2, y3, lx⟩ := H8.out _ BW3.out
  by_cases hn2 : 3000 < nb
  · go_wp2_with fail
    go_returns
    exact ⟨rfl, HBW.out _ BW3.out⟩
  have hcb : tb.count ≤ 3000 := by have := hvb.2.2 (by omega); omega
  clear hva hvb HVA HVB
  go_wp2_with fail
  refine (HLA.out hca _ (HBW.out _ BW3.out)).mono ?_
  rintro _ w4 ⟨o4, rfl, ow4, b4⟩
  obtain ⟨A4, k4, rfl, _, _⟩ := ow4.sees.len
  have BW4 := Lib.hid (B.call BW3.out b4)
  have S4 := Lib.hid ow4.sees
  clear b4 ow4 BW3 x0 x1 x2 x3 y0 y1 y2 y3 lx
  obtain ⟨x0, x1, x2, x3, y0, y1, y2, y3, lx⟩ := H8.out _ BW4.out
  go_wp2_with fail
  refine (HLB.out hcb _ (HBW.out _ BW4.out)).mono ?_
  rintro _ w5 ⟨o5, rfl, ow5, b5⟩
  obtain ⟨A5, k5, rfl, _, _⟩ := ow5.sees.len
  have BW5 := Lib.hid (B.call BW4.out b5)
  have S5 := Lib.hid ow5.sees
  have S4' := Lib.hid (S4.out.below b5 (Nat.le_refl _))
  clear b5 ow5 BW4 S4 x0 x1 x2 x3 y0 y1 y2 y3 lx HLA HLB
  obtain ⟨x0, x1, x2, x3, y0, y1, y2, y3, lx⟩ := H8.out _ BW5.out
  by_cases he : (Wd.lay ta a).2.2 = 0
  · by_cases hf : (Wd.lay tb a).2.2 = 0
    · obtain ⟨hp, ca, ea⟩ := Wd.lay_zero he
      obtain ⟨_, cb, eb⟩ := Wd.lay_zero hf
      have happ := Wd.apart ta tb a hu0 hp ca cb
      rw [ea] at S4' ⊢
      rw [eb] at S5 ⊢
      simp only at S4' S5 ⊢
      obtain ⟨xa, hxa⟩ : ∃ x, x = ta.word a := ⟨_, rfl⟩
      obtain ⟨xb, hxb⟩ : ∃ x, x = tb.word a := ⟨_, rfl⟩
      obtain ⟨bsc, hbs⟩ : ∃ x, x = decide (ta.words a = tb.words a) := ⟨_, rfl⟩
      obtain ⟨rr, hrr⟩ : ∃ x, x = ta.plain.same tb.plain := ⟨_, rfl⟩
      rw [← hxa, ← hxb, ← hbs, ← hrr] at happ
      rw [← hxa, ← hxb]
      have HSC := Lib.hid fun w' (h : Below w5.heap.size w5 w') => sameCells _ _ _ _ w' (S4'.out.below h (Nat.le_refl _)) (S5.out.below h (Nat.le_refl _))
      rw [← hbs] at HSC
      obtain ⟨la, hla⟩ : ∃ x, x = (ta.words a).length := ⟨_, rfl⟩
      obtain ⟨lb, hlb⟩ : ∃ x, x = (tb.words a).length := ⟨_, rfl⟩
      rw [← hla, ← hlb] at HSC
      rw [← hla, ← hlb]
      have HPA' := Lib.hid fun w' (h : Below w5.heap.size w5 w') => HPA.out hca w' (HBW.out _ (B.call BW5.out h))
      have HPB' := Lib.hid fun w' (h : Below w5.heap.size w5 w') => HPB.out hcb w' (HBW.out _ (B.call BW5.out h))
      have HF := Lib.hid (HBW.out _ BW5.out)
      replace hrr := Lib.hid hrr
      clear HPA HPB hla hlb hxa hxb hbs ea eb ca cb hp he hf S4' S5 BW5 H8 HBW BW0
      cases bsc
      · obtain rfl : rr = false := by simpa using happ.symm
        clear happ
        go_wp2_with fail
        refine wp_region_noPanic ?_
        refine wp_region_held_drew (S := (fun w' => Below w5.heap.size w5 w' ∧ w'.cell? ⟨w.heap.size, 0, none⟩ = some (.int .i64 ta.k) ∧ w'.cell? ⟨w.heap.size, 1, none⟩ = some (.int .i64 ta.n) ∧ w'.cell? ⟨w.heap.size, 2, none⟩ = some (.string ta.s) ∧ w'.cell? ⟨w.heap.size, 3, none⟩ = some (.slice A ta.l.length cA) ∧ w'.cell? ⟨w.heap.size + 1, 0, none⟩ = some (.int .i64 tb.k) ∧ w'.cell? ⟨w.heap.size + 1, 1, none⟩ = some (.int .i64 tb.n) ∧ w'.cell? ⟨w.heap.size + 1, 2, none⟩ = some (.string tb.s) ∧ w'.cell? ⟨w.heap.size + 1, 3, none⟩ = some (.slice A' tb.l.length cB))) (by kernel_rfl) ?_ (fun hHeld => ?_)
        · exact ⟨(B.refl w5).drew, x0, x1, x2, x3, y0, y1, y2, y3⟩
        refine takeH 0 (v := ?_) rfl rfl (by kernel_rfl) (by kernel_rfl) (by kernel_rfl) (fun _ _ _ h => h) (by rfl) ?_ (by assumption) ?_
        rotate_left
        · intro w hSw; (try dsimp only at hSw); go_simp <;> with_reducible rfl
        try simp only [Act.put, List.setIfInBounds_toArray, List.set_cons_zero, List.set_cons_succ]
        refine takeH 1 (v := ?_) rfl rfl (by kernel_rfl) (by kernel_rfl) (by kernel_rfl) (fun _ _ _ h => h) (by rfl) ?_ (by assumption) ?_
        rotate_left
        · intro w hSw; (try dsimp only at hSw); go_simp <;> with_reducible rfl
        try simp only [Act.put, List.setIfInBounds_toArray, List.set_cons_zero, List.set_cons_succ]
        refine takeH 2 (v := ?_) rfl rfl (by kernel_rfl) (by kernel_rfl) (by kernel_rfl) (fun _ _ _ h => h) (by rfl) ?_ (by assumption) ?_
        rotate_left
        · intro w hSw; (try dsimp only at hSw); go_simp <;> with_reducible rfl
        try simp only [Act.put, List.setIfInBounds_toArray, List.set_cons_zero, List.set_cons_succ]
        refine takeH 3 (v := ?_) rfl rfl (by kernel_rfl) (by kernel_rfl) (by kernel_rfl) (fun _ _ _ h => h) (by rfl) ?_ (by assumption) ?_
        rotate_left
        · intro w hSw; (try dsimp only at hSw); go_simp <;> with_reducible rfl
        try simp only [Act.put, List.setIfInBounds_toArray, List.set_cons_zero, List.set_cons_succ]
        refine takeH 10 (v := ?_) rfl rfl (by kernel_rfl) (by kernel_rfl) (by kernel_rfl) (fun _ _ _ h => h) (by rfl) ?_ (by assumption) ?_
        rotate_left
        · intro w hSw; (try dsimp only at hSw); go_simp <;> with_reducible rfl
        try simp only [Act.put, List.setIfInBounds_toArray, List.set_cons_zero, List.set_cons_succ]
        refine takeH 12 (v := ?_) rfl rfl (by kernel_rfl) (by kernel_rfl) (by kernel_rfl) (fun _ _ _ h => h) (by rfl) ?_ (by assumption) ?_
        rotate_left
        · intro w hSw; (try dsimp only at hSw); go_simp <;> with_reducible rfl
        try simp only [Act.put, List.setIfInBounds_toArray, List.set_cons_zero, List.set_cons_succ]
        refine wpAnyH_ready (rs := [4]) (by kernel_rfl) (by simp) ?_
        refine AllReadyH.cons rfl (fun K hK => ?_) AllReadyH.nil
        go_simp
        go_at_call 21; go_split_ands; with_reducible refine (HSC.out _ (by assumption)).mono ?_; rintro _ wC ⟨rfl, bC⟩
        try go_wp2_with fail
        refine hK.out _ _ ?_ (fun hHeld => ?_)
        · go_split_ands; exact ⟨B.call (by assumption) bC, cellK bC (by assumption), cellK bC (by assumption), cellK bC (by assumption), cellK bC (by assumption), cellK bC (by assumption), cellK bC (by assumption), cellK bC (by assumption), cellK bC (by assumption)⟩
        clear hK K
        try simp only [Act.put, List.setIfInBounds_toArray, List.set_cons_zero, List.set_cons_succ]
        refine takeH 5 (v := ?_) rfl rfl (by kernel_rfl) (by kernel_rfl) (by kernel_rfl) (fun _ _ _ h => h) (by rfl) ?_ (by assumption) ?_
        rotate_left
        · intro w hSw; (try dsimp only at hSw); go_simp <;> with_reducible rfl
        try simp only [Act.put, List.setIfInBounds_toArray, List.set_cons_zero, List.set_cons_succ]
        refine skipH 6 rfl rfl (by kernel_rfl) (by kernel_rfl) (by kernel_rfl) (fun _ _ _ h => h) (by rfl) (by assumption) ?_
        try simp only [Act.put, List.setIfInBounds_toArray, List.set_cons_zero, List.set_cons_succ]
        refine skipH 7 rfl rfl (by kernel_rfl) (by kernel_rfl) (by kernel_rfl) (fun _ _ _ h => h) (by rfl) (by assumption) ?_
        try simp only [Act.put, List.setIfInBounds_toArray, List.set_cons_zero, List.set_cons_succ]
        refine skipH 8 rfl rfl (by kernel_rfl) (by kernel_rfl) (by kernel_rfl) (fun _ _ _ h => h) (by rfl) (by assumption) ?_
        try simp only [Act.put, List.setIfInBounds_toArray, List.set_cons_zero, List.set_cons_succ]
        refine takeH 9 (v := ?_) rfl rfl (by kernel_rfl) (by kernel_rfl) (by kernel_rfl) (fun _ _ _ h => h) (by rfl) ?_ (by assumption) ?_
        rotate_left
        · intro w hSw; (try dsimp only at hSw); go_simp <;> with_reducible rfl
        try simp only [Act.put, List.setIfInBounds_toArray, List.set_cons_zero, List.set_cons_succ]
        refine wpAnyH_ready (rs := [11]) (by kernel_rfl) (by simp) ?_
        refine AllReadyH.cons rfl (fun K hK => ?_) AllReadyH.nil
        go_simp
        go_at_call 41; go_split_ands; with_reducible refine (HPA'.out _ (by assumption)).mono ?_; rintro _ wA ⟨vA, rfl, atA, bA⟩; obtain ⟨A6, k6, rfl, _⟩ := Tr.at_agg atA
        try go_wp2_with fail
        refine hK.out _ _ ?_ (fun hHeld => ?_)
        · go_split_ands; exact ⟨B.call (by assumption) bA, cellK bA (by assumption), cellK bA (by assumption), cellK bA (by assumption), cellK bA (by assumption), cellK bA (by assumption), cellK bA (by assumption), cellK bA (by assumption), cellK bA (by assumption)⟩
        clear hK K
        try simp only [Act.put, List.setIfInBounds_toArray, List.set_cons_zero, List.set_cons_succ]
        refine wpAnyH_ready (rs := [13]) (by kernel_rfl) (by simp) ?_
        refine AllReadyH.cons rfl (fun K hK => ?_) AllReadyH.nil
        go_simp
        go_at_call 41; go_split_ands; with_reducible refine (HPB'.out _ (by assumption)).mono ?_; rintro _ wB ⟨vB, rfl, atB, bB⟩; obtain ⟨A7, k7, rfl, _⟩ := Tr.at_agg atB
        try go_wp2_with fail
        refine hK.out _ _ ?_ (fun hHeld => ?_)
        · go_split_ands; exact ⟨B.call (by assumption) bB, cellK bB (by assumption), cellK bB (by assumption), cellK bB (by assumption), cellK bB (by assumption), cellK bB (by assumption), cellK bB (by assumption), cellK bB (by assumption), cellK bB (by assumption)⟩
        clear hK K
        try simp only [Act.put, List.setIfInBounds_toArray, List.set_cons_zero, List.set_cons_succ]
        refine wpAnyH_ready (rs := [14]) (by kernel_rfl) (by simp) ?_
        refine AllReadyH.cons rfl (fun K hK => ?_) AllReadyH.nil
        go_simp
        go_at_call 36; go_split_ands; with_reducible refine (sameValueN ta.plain tb.plain _ _ _ (by first | exact ⟨_, atA⟩ | exact ⟨_, keepT atA bB⟩ | exact ⟨_, keepT atA bC⟩ | exact ⟨_, keepT (keepT atA bB) bC⟩ | exact ⟨_, keepT (keepT atA bC) bB⟩) (by first | exact ⟨_, atB⟩ | exact ⟨_, keepT atB bA⟩ | exact ⟨_, keepT atB bC⟩ | exact ⟨_, keepT (keepT atB bA) bC⟩ | exact ⟨_, keepT (keepT atB bC) bA⟩) _ hrr.out.symm).mono ?_; rintro _ wS ⟨rfl, bS⟩
        try go_wp2_with fail
        refine hK.out _ _ ?_ (fun hHeld => ?_)
        · go_split_ands; exact ⟨B.call (by assumption) bS, cellK bS (by assumption), cellK bS (by assumption), cellK bS (by assumption), cellK bS (by assumption), cellK bS (by assumption), cellK bS (by assumption), cellK bS (by assumption), cellK bS (by assumption)⟩
        clear hK K
        try simp only [Act.put, List.setIfInBounds_toArray, List.set_cons_zero, List.set_cons_succ]
        refine takeH 15 (v := ?_) rfl rfl (by kernel_rfl) (by kernel_rfl) (by kernel_rfl) (fun _ _ _ h => h) (by rfl) ?_ (by assumption) ?_
        rotate_left
        · intro w hSw; (try dsimp only at hSw); go_simp <;> with_reducible rfl
        try simp only [Act.put, List.setIfInBounds_toArray, List.set_cons_zero, List.set_cons_succ]
        refine takeH 16 (v := ?_) rfl rfl (by kernel_rfl) (by kernel_rfl) (by kernel_rfl) (fun _ _ _ h => h) (by rfl) ?_ (by assumption) ?_
        rotate_left
        · intro w hSw; (try dsimp only at hSw); go_simp <;> with_reducible rfl
        try simp only [Act.put, List.setIfInBounds_toArray, List.set_cons_zero, List.set_cons_succ]
        refine takeH 17 (v := ?_) rfl rfl (by kernel_rfl) (by kernel_rfl) (by kernel_rfl) (fun _ _ _ h => h) (by rfl) ?_ (by assumption) ?_
        rotate_left
        · intro w hSw; (try dsimp only at hSw); go_simp <;> with_reducible rfl
        try simp only [Act.put, List.setIfInBounds_toArray, List.set_cons_zero, List.set_cons_succ]
        refine wpAnyH_done (by kernel_rfl) ?_ _
        refine NoPanic.normal ?_
        all_goals go_wp2_with fail
        all_goals go_returns
        all_goals go_split_ands
        all_goals exact ⟨rfl, B.call HF.out (by assumption)⟩
      · by_cases hx : xa = xb
        · subst hx
          obtain rfl : rr = true := by simpa using happ.symm
          clear happ
          go_wp2_with fail
          go_region_held3 (fun w' => Below w5.heap.size w5 w' ∧ w'.cell? ⟨w.heap.size, 0, none⟩ = some (.int .i64 ta.k) ∧ w'.cell? ⟨w.heap.size, 1, none⟩ = some (.int .i64 ta.n) ∧ w'.cell? ⟨w.heap.size, 2, none⟩ = some (.string ta.s) ∧ w'.cell? ⟨w.heap.size, 3, none⟩ = some (.slice A ta.l.length cA) ∧ w'.cell? ⟨w.heap.size + 1, 0, none⟩ = some (.int .i64 tb.k) ∧ w'.cell? ⟨w.heap.size + 1, 1, none⟩ = some (.int .i64 tb.n) ∧ w'.cell? ⟨w.heap.size + 1, 2, none⟩ = some (.string tb.s) ∧ w'.cell? ⟨w.heap.size + 1, 3, none⟩ = some (.slice A' tb.l.length cB))
            (first
              | exact ⟨(B.refl w5).drew, x0, x1, x2, x3, y0, y1, y2, y3⟩
              | (go_split_ands; exact ⟨B.call (by assumption) bS, cellK bS (by assumption), cellK bS (by assumption), cellK bS (by assumption), cellK bS (by assumption), cellK bS (by assumption), cellK bS (by assumption), cellK bS (by assumption), cellK bS (by assumption)⟩)
              | (go_split_ands; exact ⟨B.call (by assumption) bC, cellK bC (by assumption), cellK bC (by assumption), cellK bC (by assumption), cellK bC (by assumption), cellK bC (by assumption), cellK bC (by assumption), cellK bC (by assumption), cellK bC (by assumption)⟩)
              | (go_split_ands; exact ⟨B.call (by assumption) bA, cellK bA (by assumption), cellK bA (by assumption), cellK bA (by assumption), cellK bA (by assumption), cellK bA (by assumption), cellK bA (by assumption), cellK bA (by assumption), cellK bA (by assumption)⟩)
              | (go_split_ands; exact ⟨B.call (by assumption) bB, cellK bB (by assumption), cellK bB (by assumption), cellK bB (by assumption), cellK bB (by assumption), cellK bB (by assumption), cellK bB (by assumption), cellK bB (by assumption), cellK bB (by assumption)⟩))
            ((first
              | (go_at_call 21; go_split_ands; with_reducible refine (HSC.out _ (by assumption)).mono ?_; rintro _ wC ⟨rfl, bC⟩)
              | (go_at_call 41; go_split_ands; with_reducible refine (HPA'.out _ (by assumption)).mono ?_; rintro _ wA ⟨vA, rfl, atA, bA⟩; obtain ⟨A6, k6, rfl, _⟩ := Tr.at_agg atA)
              | (go_at_call 41; go_split_ands; with_reducible refine (HPB'.out _ (by assumption)).mono ?_; rintro _ wB ⟨vB, rfl, atB, bB⟩; obtain ⟨A7, k7, rfl, _⟩ := Tr.at_agg atB)
              | (go_at_call 36; go_split_ands; with_reducible refine (sameValueN ta.plain tb.plain _ _ _ (by first | exact ⟨_, atA⟩ | exact ⟨_, keepT atA bB⟩ | exact ⟨_, keepT atA bC⟩ | exact ⟨_, keepT (keepT atA bB) bC⟩ | exact ⟨_, keepT (keepT atA bC) bB⟩) (by first | exact ⟨_, atB⟩ | exact ⟨_, keepT atB bA⟩ | exact ⟨_, keepT atB bC⟩ | exact ⟨_, keepT (keepT atB bA) bC⟩ | exact ⟨_, keepT (keepT atB bC) bA⟩) _ hrr.out.symm).mono ?_; rintro _ wS ⟨rfl, bS⟩)))
          all_goals go_wp2_with fail
          all_goals go_returns
          all_goals go_split_ands
          all_goals exact ⟨rfl, B.call HF.out (by assumption)⟩
        · have hxx : (xa == xb) = false := by simpa using hx
          obtain rfl : rr = false := by rw [hxx] at happ; simpa using happ.symm
          clear happ
          go_wp2_with fail
          go_region_held3 (fun w' => Below w5.heap.size w5 w' ∧ w'.cell? ⟨w.heap.size, 0, none⟩ = some (.int .i64 ta.k) ∧ w'.cell? ⟨w.heap.size, 1, none⟩ = some (.int .i64 ta.n) ∧ w'.cell? ⟨w.heap.size, 2, none⟩ = some (.string ta.s) ∧ w'.cell? ⟨w.heap.size, 3, none⟩ = some (.slice A ta.l.length cA) ∧ w'.cell? ⟨w.heap.size + 1, 0, none⟩ = some (.int .i64 tb.k) ∧ w'.cell? ⟨w.heap.size + 1, 1, none⟩ = some (.int .i64 tb.n) ∧ w'.cell? ⟨w.heap.size + 1, 2, none⟩ = some (.string tb.s) ∧ w'.cell? ⟨w.heap.size + 1, 3, none⟩ = some (.slice A' tb.l.length cB))
            (first
              | exact ⟨(B.refl w5).drew, x0, x1, x2, x3, y0, y1, y2, y3⟩
              | (go_split_ands; exact ⟨B.call (by assumption) bS, cellK bS (by assumption), cellK bS (by assumption), cellK bS (by assumption), cellK bS (by assumption), cellK bS (by assumption), cellK bS (by assumption), cellK bS (by assumption), cellK bS (by assumption)⟩)
              | (go_split_ands; exact ⟨B.call (by assumption) bC, cellK bC (by assumption), cellK bC (by assumption), cellK bC (by assumption), cellK bC (by assumption), cellK bC (by assumption), cellK bC (by assumption), cellK bC (by assumption), cellK bC (by assumption)⟩)
              | (go_split_ands; exact ⟨B.call (by assumption) bA, cellK bA (by assumption), cellK bA (by assumption), cellK bA (by assumption), cellK bA (by assumption), cellK bA (by assumption), cellK bA (by assumption), cellK bA (by assumption), cellK bA (by assumption)⟩)
              | (go_split_ands; exact ⟨B.call (by assumption) bB, cellK bB (by assumption), cellK bB (by assumption), cellK bB (by assumption), cellK bB (by assumption), cellK bB (by assumption), cellK bB (by assumption), cellK bB (by assumption), cellK bB (by assumption)⟩))
            ((first
              | (go_at_call 21; go_split_ands; with_reducible refine (HSC.out _ (by assumption)).mono ?_; rintro _ wC ⟨rfl, bC⟩)
              | (go_at_call 41; go_split_ands; with_reducible refine (HPA'.out _ (by assumption)).mono ?_; rintro _ wA ⟨vA, rfl, atA, bA⟩; obtain ⟨A6, k6, rfl, _⟩ := Tr.at_agg atA)
              | (go_at_call 41; go_split_ands; with_reducible refine (HPB'.out _ (by assumption)).mono ?_; rintro _ wB ⟨vB, rfl, atB, bB⟩; obtain ⟨A7, k7, rfl, _⟩ := Tr.at_agg atB)
              | (go_at_call 36; go_split_ands; with_reducible refine (sameValueN ta.plain tb.plain _ _ _ (by first | exact ⟨_, atA⟩ | exact ⟨_, keepT atA bB⟩ | exact ⟨_, keepT atA bC⟩ | exact ⟨_, keepT (keepT atA bB) bC⟩ | exact ⟨_, keepT (keepT atA bC) bB⟩) (by first | exact ⟨_, atB⟩ | exact ⟨_, keepT atB bA⟩ | exact ⟨_, keepT atB bC⟩ | exact ⟨_, keepT (keepT atB bA) bC⟩ | exact ⟨_, keepT (keepT atB bC) bA⟩) _ hrr.out.symm).mono ?_; rintro _ wS ⟨rfl, bS⟩)))
          all_goals go_wp2_with fail
          all_goals go_returns
          all_goals go_split_ands
          all_goals exact ⟨rfl, B.call HF.out (by assumption)⟩
    · go_wp2_with fail
      all_goals go_returns
      all_goals exact ⟨rfl, HBW.out _ BW5.out⟩
  · go_wp2_with fail
    all_goals go_returns
    all_goals exact ⟨rfl, HBW.out _ BW5.out⟩

end Go.Proofs.Ytgohnekaolgblaa
