/- Layer 4: what is done under 'reads': limits are read. -/
import Derived.Test.YtdlfmchpaohoaaaKindGet
namespace Go.Proofs.Ytdlfmchpaohoaaa
open Go.RowKit

theorem num_ok (g : Nat) (v : Value) (bs : List Int) (a : Nat) (least most : Int) (w : World) (hr : RB w g v a) (hv : Sees .u8 w v bs) (hb : Byt bs) (ha : a ≤ bs.length) (hm : bs.length ≤ 140737488351232)
    (x q : Nat) (hg : Leb.getU bs a = ((x : Int), (q : Int), 0, 0)) (h0 : least ≤ x) (h1 : (x : Int) ≤ most) :
    Calls Try.prog 50 #[.pointer (some ⟨g, 0, none⟩), .int .u32 least, .int .u32 most] w fun e w' => e = .returned (.int .u32 x) ∧ w.grownBy w' (some g) ∧ RB w' g v q := by
  have hw := number_ok g v bs a least most w hr hv hb ha hm x q hg h0 h1 (by omega)
  rw [Int.toNat_natCast] at hw
  exact hw

theorem num_bad (g : Nat) (v : Value) (bs : List Int) (a : Nat) (least most : Int) (w : World) (hr : RB w g v a) (hv : Sees .u8 w v bs) (hb : Byt bs) (ha : a ≤ bs.length) (hm : bs.length ≤ 140737488351232)
    (e0 p0 : Int) (he : ¬ e0 = 0) (h : Leb.getU bs a = (0, 0, e0, p0) ∨ ∃ x q : Int, Leb.getU bs a = (x, q, 0, 0) ∧ (x < least ∨ most < x) ∧ e0 = 141 ∧ p0 = a) :
    Calls Try.prog 50 #[.pointer (some ⟨g, 0, none⟩), .int .u32 least, .int .u32 most] w fun e w' => e = .panicked [{ v := stopv e0 p0, recovered := false }] ∧ w.grownBy w' (some g) := by
  rcases h with h | ⟨x, q, hg, hx, rfl, rfl⟩
  · exact number_err g v bs a least most w hr hv hb ha hm e0 p0 h he
  · by_cases hl : x < least
    · exact number_low g v bs a least most w hr hv hb ha hm x q hg hl
    · exact number_high g v bs a least most w hr hv hb ha hm x q hg hl (by omega)

theorem Sees.vb' {w w' : World} {t : Nat} {T : TypeId} {cs : Array Value} {v : Value} {bs : List Int} (h : Sees .u8 w v bs) (hr : VB w t T cs) (hcs : ∀ u ∈ cs, ∀ n : Int, u ≠ .int .u8 n) (hg : w.grownBy w' (some t)) : Sees .u8 w' v bs :=
  h.vb hr (fun i n he => by
    obtain ⟨hlt, he⟩ := Array.getElem?_eq_some_iff.1 he
    exact hcs _ (Array.getElem_mem hlt) n he) hg

/-- What is told of limits. -/
def DoLim (w : World) (g t : Nat) (v : Value) (r : Int × Int × Int × Int × Int × Int) (e : Ending) (w' : World) : Prop :=
  (r.2.2.2.2.1 = 0 ∧ e = .returned (.tuple #[]) ∧ Grow2 w w' g t ∧ RB w' g v r.2.2.2.1.toNat ∧ VB w' t 46 #[.int .u32 r.1, .int .u32 r.2.1, .bool (decide (r.2.2.1 = 1))]) ∨
  (¬ r.2.2.2.2.1 = 0 ∧ e = .panicked [{ v := stopv r.2.2.2.2.1 r.2.2.2.2.2, recovered := false }] ∧ Grow2 w w' g t)

set_option maxHeartbeats 1000000 in
theorem do_lim_cap (g t m : Nat) (v : Value) (bs : List Int) (a : Nat) (most : Int) (w : World) (hr : RB w g v a) (ht : VB w t 46 #[.int .u32 0, .int .u32 0, .bool false]) (hmo : VB w m 22 #[.int .u32 most]) (hne : g ≠ t) (hmg : m ≠ g) (hmt : m ≠ t)
    (hv : Sees .u8 w v bs) (hb : Byt bs) (hm : bs.length ≤ 140737488351232) (hl : a < bs.length) (hc : bs[a] = 1) :
    Calls Try.prog 49 #[.pointer (some ⟨g, 0, none⟩), .pointer (some ⟨t, 0, none⟩), .pointer (some ⟨m, 0, none⟩)] w fun e w' => DoLim w g t v (Kind.limits bs a most) e w' := by
  have hget : bs[a]? = some 1 := by rw [List.getElem?_eq_getElem hl, hc]
  have HGET := Lib.hid hget; clear hget
  have s1 : ∀ (w : World) (g : Nat), g = w.heap.size → Sees .u8 (w.alloc (.cells #[.int .u8 0, .int .u8 1] 5)) (.slice (some ⟨g, 0, none⟩) 2 2) [0, 1] := by
    rintro w g rfl; exact Sees.lit .u8 w 5 [0, 1] 2 (by decide) (by decide)
  have hby := byte_any g v _ bs [0, 1] a (w.alloc (.cells #[.int .u8 0, .int .u8 1] 5)) (hr.alloc _) (hv.alloc _) (s1 _ _ rfl) hl hm
  rw [hc] at hby
  have HBY := Lib.hid hby; clear hby s1 hc
  have HR := Lib.hid hr; clear hr
  have HT := Lib.hid ht; clear ht
  have HM := Lib.hid hmo; clear hmo
  have HV := Lib.hid hv; clear hv
  have HB := Lib.hid hb; clear hb
  rcases Kind.num_cases bs ((a + 1 : Nat) : Int) 0 most HB.out with ⟨x, q, hN, hP, hx0, hx1, hx2, hq1, hq0, hq2⟩ | ⟨e1, p1, hN, he1, hP⟩
  · rcases Kind.num_cases bs (q : Int) x most HB.out with ⟨y, r, hN', hQ, hy0, hy1, hy2, hr1, hr0, hr2⟩ | ⟨e2, p2, hN', he2, hQ⟩
    · have hres : Kind.limits bs a most = ((x : Int), (y : Int), 1, (r : Int), 0, 0) := by unfold Kind.limits; rw [HGET.out]; simp only [hN, hN']; rfl
      rw [hres]; clear hres hN hN'
      have HP := Lib.hid hP; clear hP
      have HQ := Lib.hid hQ; clear hQ
      go_enter Try.func49, Try.ntmps49
      go_wp2_with fail
      refine HBY.out.mono ?_
      intro e w1 ho
      obtain ⟨rfl, g1, r1⟩ := hitOf (by simp) ho
      have t1 := (HT.out.alloc (.cells #[.int .u8 0, .int .u8 1] 5)).grown g1 (Ne.symm hne)
      have c0 := t1.cell 2
      have f0 := t1.free 2
      have lt0 := t1.lt
      simp at c0
      have m1 := (((HM.out.alloc (.cells #[.int .u8 0, .int .u8 1] 5)).grown g1 hmg).grown (G.setCell w1 t 2 (.bool true)) hmt)
      have d0 := m1.cell 0
      simp at d0
      have M1 := Lib.hid m1; clear m1
      have T1 := Lib.hid (t1.set 2 (.bool true)); simp at T1
      have R1 := Lib.hid (r1.grown (G.setCell w1 t 2 (.bool true)) hne)
      have V1 := Lib.hid (((HV.out.alloc (.cells #[.int .u8 0, .int .u8 1] 5)).rb (HR.out.alloc _) g1).vb' t1 (by simp) (G.setCell w1 t 2 (.bool true)))
      have G1 := Lib.hid ((Grow2.one (G.trans (World.grownBy_alloc w (.cells #[.int .u8 0, .int .u8 1] 5) (some g)) g1) t).trans (Grow2.two (G.setCell w1 t 2 (.bool true)) g))
      clear g1 r1 t1
      go_wp2_with fail
      refine (num_ok g v bs (a + 1) 0 most _ R1.out V1.out HB.out (by omega) hm x q HP.out (by omega) hx1).mono ?_
      rintro e w2 ⟨rfl, g2, r2⟩
      have t2 := T1.out.grown g2 (Ne.symm hne)
      have c20 := t2.cell 0
      have c22 := t2.cell 2
      have f20 := t2.free 0
      have lt2 := t2.lt
      simp at c20 c22
      have m2 := M1.out.grown g2 hmg
      have d2 := m2.cell 0
      simp at d2
      have M2 := Lib.hid (m2.grown (G.setCell w2 t 0 (.int .u32 x)) hmt)
      have T2 := Lib.hid (t2.set 0 (.int .u32 x)); simp at T2
      have R2 := Lib.hid (r2.grown (G.setCell w2 t 0 (.int .u32 x)) hne)
      have V2 := Lib.hid ((V1.out.rb R1.out g2).vb' t2 (by simp) (G.setCell w2 t 0 (.int .u32 x)))
      have G2 := Lib.hid (G1.out.trans ((Grow2.one g2 t).trans (Grow2.two (G.setCell w2 t 0 (.int .u32 x)) g)))
      clear g2 r2 t2 m2
      go_wp2_with fail
      refine (num_ok g v bs q x most _ R2.out V2.out HB.out (by omega) hm y r HQ.out hy0 hy1).mono ?_
      rintro e w3 ⟨rfl, g3, r3⟩
      have t3 := T2.out.grown g3 (Ne.symm hne)
      have c3 := t3.cell 1
      have f3 := t3.free 1
      have lt3 := t3.lt
      simp at c3
      go_wp2_with fail
      go_returns
      refine .inl ⟨rfl, rfl, G2.out.trans ((Grow2.one g3 t).trans (Grow2.two (G.setCell _ _ _ _) g)), ?_, t3.set 1 _⟩
      exact r3.grown (G.setCell _ _ _ _) hne
    · have hres : Kind.limits bs a most = (0, 0, 0, 0, e2, p2) := by unfold Kind.limits; rw [HGET.out]; simp only [hN, hN']; simp [he2]
      rw [hres]; clear hres hN hN'
      have HP := Lib.hid hP; clear hP
      have HQ := Lib.hid hQ; clear hQ
      go_enter Try.func49, Try.ntmps49
      go_wp2_with fail
      refine HBY.out.mono ?_
      intro e w1 ho
      obtain ⟨rfl, g1, r1⟩ := hitOf (by simp) ho
      have t1 := (HT.out.alloc (.cells #[.int .u8 0, .int .u8 1] 5)).grown g1 (Ne.symm hne)
      have c0 := t1.cell 2
      have f0 := t1.free 2
      have lt0 := t1.lt
      simp at c0
      have m1 := (((HM.out.alloc (.cells #[.int .u8 0, .int .u8 1] 5)).grown g1 hmg).grown (G.setCell w1 t 2 (.bool true)) hmt)
      have d0 := m1.cell 0
      simp at d0
      have M1 := Lib.hid m1; clear m1
      have T1 := Lib.hid (t1.set 2 (.bool true)); simp at T1
      have R1 := Lib.hid (r1.grown (G.setCell w1 t 2 (.bool true)) hne)
      have V1 := Lib.hid (((HV.out.alloc (.cells #[.int .u8 0, .int .u8 1] 5)).rb (HR.out.alloc _) g1).vb' t1 (by simp) (G.setCell w1 t 2 (.bool true)))
      have G1 := Lib.hid ((Grow2.one (G.trans (World.grownBy_alloc w (.cells #[.int .u8 0, .int .u8 1] 5) (some g)) g1) t).trans (Grow2.two (G.setCell w1 t 2 (.bool true)) g))
      clear g1 r1 t1
      go_wp2_with fail
      refine (num_ok g v bs (a + 1) 0 most _ R1.out V1.out HB.out (by omega) hm x q HP.out (by omega) hx1).mono ?_
      rintro e w2 ⟨rfl, g2, r2⟩
      have t2 := T1.out.grown g2 (Ne.symm hne)
      have c20 := t2.cell 0
      have c22 := t2.cell 2
      have f20 := t2.free 0
      have lt2 := t2.lt
      simp at c20 c22
      have m2 := M1.out.grown g2 hmg
      have d2 := m2.cell 0
      simp at d2
      have M2 := Lib.hid (m2.grown (G.setCell w2 t 0 (.int .u32 x)) hmt)
      have T2 := Lib.hid (t2.set 0 (.int .u32 x)); simp at T2
      have R2 := Lib.hid (r2.grown (G.setCell w2 t 0 (.int .u32 x)) hne)
      have V2 := Lib.hid ((V1.out.rb R1.out g2).vb' t2 (by simp) (G.setCell w2 t 0 (.int .u32 x)))
      have G2 := Lib.hid (G1.out.trans ((Grow2.one g2 t).trans (Grow2.two (G.setCell w2 t 0 (.int .u32 x)) g)))
      clear g2 r2 t2 m2
      go_wp2_with fail
      refine (num_bad g v bs q x most _ R2.out V2.out HB.out (by omega) hm e2 p2 he2 HQ.out).mono ?_
      rintro e w3 ⟨rfl, g3⟩
      go_wp2_with fail
      exact ⟨rfl, .inr ⟨he2, rfl, G2.out.trans (Grow2.one g3 t)⟩⟩
  · have hres : Kind.limits bs a most = (0, 0, 0, 0, e1, p1) := by unfold Kind.limits; rw [HGET.out]; simp only [hN]; simp [he1]
    rw [hres]; clear hres hN
    have HP := Lib.hid hP; clear hP
    go_enter Try.func49, Try.ntmps49
    go_wp2_with fail
    refine HBY.out.mono ?_
    intro e w1 ho
    obtain ⟨rfl, g1, r1⟩ := hitOf (by simp) ho
    have t1 := (HT.out.alloc (.cells #[.int .u8 0, .int .u8 1] 5)).grown g1 (Ne.symm hne)
    have c0 := t1.cell 2
    have f0 := t1.free 2
    have lt0 := t1.lt
    simp at c0
    have m1 := (((HM.out.alloc (.cells #[.int .u8 0, .int .u8 1] 5)).grown g1 hmg).grown (G.setCell w1 t 2 (.bool true)) hmt)
    have d0 := m1.cell 0
    simp at d0
    have M1 := Lib.hid m1; clear m1
    have T1 := Lib.hid (t1.set 2 (.bool true)); simp at T1
    have R1 := Lib.hid (r1.grown (G.setCell w1 t 2 (.bool true)) hne)
    have V1 := Lib.hid (((HV.out.alloc (.cells #[.int .u8 0, .int .u8 1] 5)).rb (HR.out.alloc _) g1).vb' t1 (by simp) (G.setCell w1 t 2 (.bool true)))
    have G1 := Lib.hid ((Grow2.one (G.trans (World.grownBy_alloc w (.cells #[.int .u8 0, .int .u8 1] 5) (some g)) g1) t).trans (Grow2.two (G.setCell w1 t 2 (.bool true)) g))
    clear g1 r1 t1
    go_wp2_with fail
    refine (num_bad g v bs (a + 1) 0 most _ R1.out V1.out HB.out (by omega) hm e1 p1 he1 HP.out).mono ?_
    rintro e w2 ⟨rfl, g2⟩
    go_wp2_with fail
    exact ⟨rfl, .inr ⟨he1, rfl, G1.out.trans (Grow2.one g2 t)⟩⟩

set_option maxHeartbeats 1000000 in
theorem do_lim_free (g t m : Nat) (v : Value) (bs : List Int) (a : Nat) (most : Int) (w : World) (hr : RB w g v a) (ht : VB w t 46 #[.int .u32 0, .int .u32 0, .bool false]) (hmo : VB w m 22 #[.int .u32 most]) (hne : g ≠ t) (hmg : m ≠ g) (hmt : m ≠ t)
    (hv : Sees .u8 w v bs) (hb : Byt bs) (hm : bs.length ≤ 140737488351232) (hl : a < bs.length) (hc : bs[a] = 0) :
    Calls Try.prog 49 #[.pointer (some ⟨g, 0, none⟩), .pointer (some ⟨t, 0, none⟩), .pointer (some ⟨m, 0, none⟩)] w fun e w' => DoLim w g t v (Kind.limits bs a most) e w' := by
  have hget : bs[a]? = some 0 := by rw [List.getElem?_eq_getElem hl, hc]
  have HGET := Lib.hid hget; clear hget
  have s1 : ∀ (w : World) (g : Nat), g = w.heap.size → Sees .u8 (w.alloc (.cells #[.int .u8 0, .int .u8 1] 5)) (.slice (some ⟨g, 0, none⟩) 2 2) [0, 1] := by
    rintro w g rfl; exact Sees.lit .u8 w 5 [0, 1] 2 (by decide) (by decide)
  have hby := byte_any g v _ bs [0, 1] a (w.alloc (.cells #[.int .u8 0, .int .u8 1] 5)) (hr.alloc _) (hv.alloc _) (s1 _ _ rfl) hl hm
  rw [hc] at hby
  have HBY := Lib.hid hby; clear hby s1 hc
  have HR := Lib.hid hr; clear hr
  have HT := Lib.hid ht; clear ht
  have HM := Lib.hid hmo; clear hmo
  have HV := Lib.hid hv; clear hv
  have HB := Lib.hid hb; clear hb
  rcases Kind.num_cases bs ((a + 1 : Nat) : Int) 0 most HB.out with ⟨x, q, hN, hP, hx0, hx1, hx2, hq1, hq0, hq2⟩ | ⟨e1, p1, hN, he1, hP⟩
  · have hres : Kind.limits bs a most = ((x : Int), 0, 0, (q : Int), 0, 0) := by unfold Kind.limits; rw [HGET.out]; simp only [hN]; rfl
    rw [hres]; clear hres hN
    have HP := Lib.hid hP; clear hP
    go_enter Try.func49, Try.ntmps49
    go_wp2_with fail
    refine HBY.out.mono ?_
    intro e w1 ho
    obtain ⟨rfl, g1, r1⟩ := hitOf (by simp) ho
    have t1 := (HT.out.alloc (.cells #[.int .u8 0, .int .u8 1] 5)).grown g1 (Ne.symm hne)
    have c0 := t1.cell 2
    have f0 := t1.free 2
    have lt0 := t1.lt
    simp at c0
    have m1 := (((HM.out.alloc (.cells #[.int .u8 0, .int .u8 1] 5)).grown g1 hmg).grown (G.setCell w1 t 2 (.bool false)) hmt)
    have d0 := m1.cell 0
    simp at d0
    have M1 := Lib.hid m1; clear m1
    have T1 := Lib.hid (t1.set 2 (.bool false)); simp at T1
    have R1 := Lib.hid (r1.grown (G.setCell w1 t 2 (.bool false)) hne)
    have V1 := Lib.hid (((HV.out.alloc (.cells #[.int .u8 0, .int .u8 1] 5)).rb (HR.out.alloc _) g1).vb' t1 (by simp) (G.setCell w1 t 2 (.bool false)))
    have G1 := Lib.hid ((Grow2.one (G.trans (World.grownBy_alloc w (.cells #[.int .u8 0, .int .u8 1] 5) (some g)) g1) t).trans (Grow2.two (G.setCell w1 t 2 (.bool false)) g))
    clear g1 r1 t1
    go_wp2_with fail
    refine (num_ok g v bs (a + 1) 0 most _ R1.out V1.out HB.out (by omega) hm x q HP.out (by omega) hx1).mono ?_
    rintro e w2 ⟨rfl, g2, r2⟩
    have t2 := T1.out.grown g2 (Ne.symm hne)
    have c20 := t2.cell 0
    have c22 := t2.cell 2
    have f20 := t2.free 0
    have lt2 := t2.lt
    simp at c20 c22
    have m2 := M1.out.grown g2 hmg
    have d2 := m2.cell 0
    simp at d2
    have M2 := Lib.hid (m2.grown (G.setCell w2 t 0 (.int .u32 x)) hmt)
    have T2 := Lib.hid (t2.set 0 (.int .u32 x)); simp at T2
    have R2 := Lib.hid (r2.grown (G.setCell w2 t 0 (.int .u32 x)) hne)
    have V2 := Lib.hid ((V1.out.rb R1.out g2).vb' t2 (by simp) (G.setCell w2 t 0 (.int .u32 x)))
    have G2 := Lib.hid (G1.out.trans ((Grow2.one g2 t).trans (Grow2.two (G.setCell w2 t 0 (.int .u32 x)) g)))
    clear g2 r2 t2 m2
    go_wp2_with fail
    go_returns
    exact .inl ⟨rfl, rfl, G2.out, R2.out, T2.out⟩
  · have hres : Kind.limits bs a most = (0, 0, 0, 0, e1, p1) := by unfold Kind.limits; rw [HGET.out]; simp only [hN]; simp [he1]
    rw [hres]; clear hres hN
    have HP := Lib.hid hP; clear hP
    go_enter Try.func49, Try.ntmps49
    go_wp2_with fail
    refine HBY.out.mono ?_
    intro e w1 ho
    obtain ⟨rfl, g1, r1⟩ := hitOf (by simp) ho
    have t1 := (HT.out.alloc (.cells #[.int .u8 0, .int .u8 1] 5)).grown g1 (Ne.symm hne)
    have c0 := t1.cell 2
    have f0 := t1.free 2
    have lt0 := t1.lt
    simp at c0
    have m1 := (((HM.out.alloc (.cells #[.int .u8 0, .int .u8 1] 5)).grown g1 hmg).grown (G.setCell w1 t 2 (.bool false)) hmt)
    have d0 := m1.cell 0
    simp at d0
    have M1 := Lib.hid m1; clear m1
    have T1 := Lib.hid (t1.set 2 (.bool false)); simp at T1
    have R1 := Lib.hid (r1.grown (G.setCell w1 t 2 (.bool false)) hne)
    have V1 := Lib.hid (((HV.out.alloc (.cells #[.int .u8 0, .int .u8 1] 5)).rb (HR.out.alloc _) g1).vb' t1 (by simp) (G.setCell w1 t 2 (.bool false)))
    have G1 := Lib.hid ((Grow2.one (G.trans (World.grownBy_alloc w (.cells #[.int .u8 0, .int .u8 1] 5) (some g)) g1) t).trans (Grow2.two (G.setCell w1 t 2 (.bool false)) g))
    clear g1 r1 t1
    go_wp2_with fail
    refine (num_bad g v bs (a + 1) 0 most _ R1.out V1.out HB.out (by omega) hm e1 p1 he1 HP.out).mono ?_
    rintro e w2 ⟨rfl, g2⟩
    go_wp2_with fail
    exact ⟨rfl, .inr ⟨he1, rfl, G1.out.trans (Grow2.one g2 t)⟩⟩

theorem do_lim (g t m : Nat) (v : Value) (bs : List Int) (a : Nat) (most : Int) (w : World) (hr : RB w g v a) (ht : VB w t 46 #[.int .u32 0, .int .u32 0, .bool false]) (hmo : VB w m 22 #[.int .u32 most]) (hne : g ≠ t) (hmg : m ≠ g) (hmt : m ≠ t)
    (hv : Sees .u8 w v bs) (hb : Byt bs) (_ha : a ≤ bs.length) (hm : bs.length ≤ 140737488351232) :
    Calls Try.prog 49 #[.pointer (some ⟨g, 0, none⟩), .pointer (some ⟨t, 0, none⟩), .pointer (some ⟨m, 0, none⟩)] w fun e w' => DoLim w g t v (Kind.limits bs a most) e w' := by
  have s1 : ∀ (w : World) (g : Nat), g = w.heap.size → Sees .u8 (w.alloc (.cells #[.int .u8 0, .int .u8 1] 5)) (.slice (some ⟨g, 0, none⟩) 2 2) [0, 1] := by
    rintro w g rfl; exact Sees.lit .u8 w 5 [0, 1] 2 (by decide) (by decide)
  have GA : w.grownBy (w.alloc (.cells #[.int .u8 0, .int .u8 1] 5)) (some g) := World.grownBy_alloc _ _ _
  by_cases hl : a < bs.length
  · by_cases hc1 : bs[a] = 1
    · exact do_lim_cap g t m v bs a most w hr ht hmo hne hmg hmt hv hb hm hl hc1
    · by_cases hc0 : bs[a] = 0
      · exact do_lim_free g t m v bs a most w hr ht hmo hne hmg hmt hv hb hm hl hc0
      · have hres : Kind.limits bs a most = (0, 0, 0, 0, 140, (a : Int)) := by unfold Kind.limits; rw [List.getElem?_eq_getElem hl]; simp [hc0, hc1]
        rw [hres]; clear hres
        have HC0 := Lib.hid hc0; clear hc0
        have HC1 := Lib.hid hc1; clear hc1
        have S1 := Lib.hid s1; clear s1
        have HV := Lib.hid hv; clear hv
        go_enter Try.func49, Try.ntmps49
        go_wp2_with fail
        refine (byte_any g v _ bs [0, 1] a _ (hr.alloc _) (HV.out.alloc _) (S1.out _ _ rfl) hl hm).mono ?_
        intro e w1 ho
        rcases ho with ⟨hno, _, _, _⟩ | ⟨_, rfl, g1⟩
        · simp only [List.mem_cons, List.not_mem_nil, or_false] at hno
          rcases hno with h | h
          · exact absurd h HC0.out
          · exact absurd h HC1.out
        · go_wp2_with fail
          exact ⟨rfl, .inr ⟨by simp, rfl, Grow2.one (G.trans GA g1) t⟩⟩
  · have hres : Kind.limits bs a most = (0, 0, 0, 0, 4, (bs.length : Int)) := by unfold Kind.limits; rw [List.getElem?_eq_none (by omega)]
    rw [hres]; clear hres
    have HV := Lib.hid hv; clear hv
    clear s1
    go_enter Try.func49, Try.ntmps49
    go_wp2_with fail
    refine (byte_end g v _ bs a _ (hr.alloc _) (HV.out.alloc _) (by omega)).mono ?_
    rintro e w1 ⟨rfl, g1⟩
    go_wp2_with fail
    exact ⟨rfl, .inr ⟨by simp, rfl, Grow2.one (G.trans GA g1) t⟩⟩

end Go.Proofs.Ytdlfmchpaohoaaa
