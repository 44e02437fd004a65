/- word.Check: contract. -/
import Derived.Test.YtgohnekaolgblaaTrNum
namespace Go.Proofs.Ytgohnekaolgblaa
open Go.RowKit

/-- What the closure of word.Check is laid with. -/
structure ChkAt (w : World) (B bn bm bf bd : Nat) (td : TypeId) (n m : Int) (f : Bool) : Prop where
  hn : VB w bn 3 #[.int .i64 n]
  hm : VB w bm 3 #[.int .i64 m]
  hf : VB w bf 4 #[.bool f]
  hd : VB w bd td #[.func (.func 73) #[] #[.pointer (some ⟨bn, 0, none⟩), .pointer (some ⟨bm, 0, none⟩), .pointer (some ⟨bf, 0, none⟩), .pointer (some ⟨bd, 0, none⟩)]]
  bB : B ≤ bn ∧ B ≤ bm ∧ B ≤ bf
  ne : bn ≠ bm ∧ bn ≠ bf ∧ bm ≠ bf ∧ bd ≠ bn ∧ bd ≠ bm ∧ bd ≠ bf

theorem ChkAt.keep {w w' : World} {B bn bm bf bd : Nat} {td : TypeId} {n m : Int} {f : Bool} (h : ChkAt w B bn bm bf bd td n m f) (hb : Below w.heap.size w w') : ChkAt w' B bn bm bf bd td n m f :=
  ⟨h.hn.call hb, h.hm.call hb, h.hf.call hb, h.hd.call hb, h.bB, h.ne⟩
theorem ChkAt.setN {w : World} {B bn bm bf bd : Nat} {td : TypeId} {n m : Int} {f : Bool} (h : ChkAt w B bn bm bf bd td n m f) (x : Int) : ChkAt (w.setCell ⟨bn, 0, none⟩ (.int .i64 x)) B bn bm bf bd td x m f := by
  obtain ⟨h1, h2, h3, h4, h5, e1, e2, e3, e4, e5, e6⟩ := h
  exact ⟨by simpa using h1.set 0 (.int .i64 x), h2.far _ _ (by omega) _, h3.far _ _ (by omega) _, h4.far _ _ (by omega) _, h5, e1, e2, e3, e4, e5, e6⟩
theorem ChkAt.setM {w : World} {B bn bm bf bd : Nat} {td : TypeId} {n m : Int} {f : Bool} (h : ChkAt w B bn bm bf bd td n m f) (x : Int) : ChkAt (w.setCell ⟨bm, 0, none⟩ (.int .i64 x)) B bn bm bf bd td n x f := by
  obtain ⟨h1, h2, h3, h4, h5, e1, e2, e3, e4, e5, e6⟩ := h
  exact ⟨h1.far _ _ (by omega) _, by simpa using h2.set 0 (.int .i64 x), h3.far _ _ (by omega) _, h4.far _ _ (by omega) _, h5, e1, e2, e3, e4, e5, e6⟩
theorem ChkAt.setF {w : World} {B bn bm bf bd : Nat} {td : TypeId} {n m : Int} {f : Bool} (h : ChkAt w B bn bm bf bd td n m f) (x : Bool) : ChkAt (w.setCell ⟨bf, 0, none⟩ (.bool x)) B bn bm bf bd td n m x := by
  obtain ⟨h1, h2, h3, h4, h5, e1, e2, e3, e4, e5, e6⟩ := h
  exact ⟨h1.far _ _ (by omega) _, h2.far _ _ (by omega) _, by simpa using h3.set 0 (.bool x), h4.far _ _ (by omega) _, h5, e1, e2, e3, e4, e5, e6⟩

set_option maxHeartbeats 1000000 in
theorem wdCheck1 (t : Tr) : ∀ (Z : Nat) (w : World) (v : Value) (d : Int) (n m : Int) (f : Bool) (bn bm bf bd : Nat) (td : TypeId), Tr.at (fun b _ => b < Z) w t v → ChkAt w Z bn bm bf bd td n m f → Z ≤ w.heap.size → 0 ≤ n → n + t.count ≤ 4611686018427387904 → 0 ≤ d → d + t.deep ≤ 4611686018427387904 →
    Calls Try.prog 73 #[v, .int .i64 d, .pointer (some ⟨bn, 0, none⟩), .pointer (some ⟨bm, 0, none⟩), .pointer (some ⟨bf, 0, none⟩), .pointer (some ⟨bd, 0, none⟩)] w fun e w' =>
      e = .returned (.tuple #[]) ∧ GrowS (fun k => k = bn ∨ k = bm ∨ k = bf) w w' ∧ ChkAt w' Z bn bm bf bd td (n + t.count) (max m (d + t.deep - 1)) (f && t.fine) := by
  induction t using Tr.ind
  rename_i k n0 s l ih
  intro Z w v d n m f bn bm bf bd td hat hc hB h0 h1 h2 h3
  have HA := Lib.hid hat
  rw [Tr.at_mk] at hat
  obtain ⟨A, cap, rfl, hl1, hl2, hl3⟩ := hat
  unfold maxLen at hl2
  have HL := Lib.hid hl3; clear hl3
  have a1 := hc.hn.cell 0
  have a2 := hc.hm.cell 0
  have a3 := hc.hf.cell 0
  have f1 := hc.hn.free 0
  have f2 := hc.hm.free 0
  have f3 := hc.hf.free 0
  have l1 := hc.hn.lt
  have l2 := hc.hm.lt
  have l3 := hc.hf.lt
  have ne := hc.ne
  have bb := hc.bB
  have HC := Lib.hid hc; clear hc
  have HI := Lib.hid ih; clear ih
  simp at a1 a2 a3
  simp only [Tr.count, Tr.deep] at h1 h3
  obtain ⟨ne1, ne2, ne3, ne4, ne5, ne6⟩ := ne
  have G0 := Lib.hid (GrowS.refl (fun k => k = bn ∨ k = bm ∨ k = bf) w)
  -- WAYS
  have HI0 : True := trivial
  cases f
  · by_cases hmd : m < d
    · have HM : max m d = d := by omega
      clear HI0
      go_enter Try.func73, Try.ntmps73
      go_wp2_with fail
      go_loopw [23] (fun c wr => ∃ i : Nat, c = .int .i64 (i : Int) ∧ i ≤ l.length ∧ ChkAt wr Z bn bm bf bd td (n + 1 + Tr.counts (l.take i)) (max d (d + Tr.deeps (l.take i))) (false && Tr.fines (l.take i)) ∧ GrowS (fun k => k = bn ∨ k = bm ∨ k = bf) w wr)
        (fun c _ => l.length - (intOf c).toNat)
      case atStart =>
        refine ⟨0, rfl, by omega, ?_, ?_⟩
        · have := (((HC.out.setN (n + 1)).setM d).setF false).keep (B.alloc (B.refl _) (.cells #[.int .i64 k, .int .i64 n0, .string s, .slice A l.length cap] 58))
          simpa [Tr.counts, Tr.deeps, Tr.fines] using this
        · have := (((G0.out.set (b := bn) (i := 0) (.inl rfl) (.int .i64 (n + 1))).set (b := bm) (i := 0) (.inr (.inl rfl)) (.int .i64 d)).set (b := bf) (i := 0) (.inr (.inr rfl)) (.bool false)).alloc (.cells #[.int .i64 k, .int .i64 n0, .string s, .slice A l.length cap] 58)
          exact this
      case round =>
        obtain ⟨i, rfl, hi, hcr, hg⟩ := hrel
        by_cases hil : i < l.length
        · have hne : l ≠ [] := by intro e; subst e; simp at hil
          obtain ⟨b, off, rfl, hbZ, hats⟩ := HL.out hne
          obtain ⟨A1, cap1, c0, c1, c2, c3, hq1, hq2, hti⟩ := Tr.ats_cells hats i hil
          have hold : ∀ b (off : Nat), b < Z → b < w.heap.size ∧ ¬ (b = bn ∨ b = bm ∨ b = bf) := fun b _ h => ⟨by omega, by omega⟩
          have kc : ∀ o, wr.cell? ⟨b, o, none⟩ = w.cell? ⟨b, o, none⟩ := fun o => World.cell?_of_block (hg.block b (hold b 0 hbZ).1 (hold b 0 hbZ).2)
          rw [← kc] at c0 c1 c2 c3
          have hti' := Tr.at_grow hti hg hold
          have a5 := hcr.hd.cell 0
          have l4 := hcr.hd.lt
          simp at a5
          have HCR := Lib.hid hcr
          have HTI := Lib.hid hti'
          have HGR := Lib.hid hg
          have hsz := hg.size
          clear hti' hti hats hcr hg kc hne
          have hcnt := Tr.counts_take l i hil
          have hcle := Tr.counts_le l (i + 1)
          have hdp := Tr.deeps_take l i hil
          have hdle := Tr.deeps_le l (i + 1)
          have hfn := Tr.fines_take l i hil
          go_wp2_with fail
          refine (HI.out l[i] (List.getElem_mem hil) Z _ _ (d + 1) _ _ _ bn bm bf bd td (Tr.at_alloc HTI.out _) (HCR.out.keep (B.alloc (B.refl _) _)) (by simp; omega) (by omega) (by omega) (by omega) (by omega)).mono ?_
          rintro _ w2 ⟨rfl, g2, hc2⟩
          clear a5
          go_wp2_with fail
          go_roundw
          case measure => simp only [intOf]; omega
          case rel =>
            refine ⟨i + 1, rfl, by omega, ?_, ?_⟩
            · rw [hcnt, hdp, hfn]
              rw [show n + 1 + ((Tr.counts (l.take i) + l[i].count : Nat) : Int) = n + 1 + Tr.counts (l.take i) + l[i].count by omega,
                show max d (d + ((max (Tr.deeps (l.take i)) l[i].deep : Nat) : Int)) = max (max d (d + Tr.deeps (l.take i))) (d + 1 + l[i].deep - 1) by omega, ← Bool.and_assoc]
              exact hc2
            · exact (HGR.out.alloc _).trans g2
        · have hie : i = l.length := by omega
          subst hie
          have HCR := Lib.hid hcr
          have HGR := Lib.hid hg
          clear hcr hg
          go_wp2_with fail
          go_returns
          refine ⟨rfl, HGR.out, ?_⟩
          have hh := HCR.out
          rw [List.take_length] at hh
          simp only [Tr.count, Tr.deep, Tr.fine]
          rw [show n + ((Tr.counts l + 1 : Nat) : Int) = n + 1 + Tr.counts l by omega, show max m (d + ((Tr.deeps l + 1 : Nat) : Int) - 1) = max d (d + Tr.deeps l) by omega]
          simpa using hh
    · have HM : max m d = m := by omega
      clear HI0
      go_enter Try.func73, Try.ntmps73
      go_wp2_with fail
      go_loopw [23] (fun c wr => ∃ i : Nat, c = .int .i64 (i : Int) ∧ i ≤ l.length ∧ ChkAt wr Z bn bm bf bd td (n + 1 + Tr.counts (l.take i)) (max m (d + Tr.deeps (l.take i))) (false && Tr.fines (l.take i)) ∧ GrowS (fun k => k = bn ∨ k = bm ∨ k = bf) w wr)
        (fun c _ => l.length - (intOf c).toNat)
      case atStart =>
        refine ⟨0, rfl, by omega, ?_, ?_⟩
        · have := (((HC.out.setN (n + 1)).setM m).setF false).keep (B.alloc (B.refl _) (.cells #[.int .i64 k, .int .i64 n0, .string s, .slice A l.length cap] 58))
          simpa [Tr.counts, Tr.deeps, Tr.fines, show max m d = m from HM] using this
        · have := (((G0.out.set (b := bn) (i := 0) (.inl rfl) (.int .i64 (n + 1))).set (b := bm) (i := 0) (.inr (.inl rfl)) (.int .i64 m)).set (b := bf) (i := 0) (.inr (.inr rfl)) (.bool false)).alloc (.cells #[.int .i64 k, .int .i64 n0, .string s, .slice A l.length cap] 58)
          exact this
      case round =>
        obtain ⟨i, rfl, hi, hcr, hg⟩ := hrel
        by_cases hil : i < l.length
        · have hne : l ≠ [] := by intro e; subst e; simp at hil
          obtain ⟨b, off, rfl, hbZ, hats⟩ := HL.out hne
          obtain ⟨A1, cap1, c0, c1, c2, c3, hq1, hq2, hti⟩ := Tr.ats_cells hats i hil
          have hold : ∀ b (off : Nat), b < Z → b < w.heap.size ∧ ¬ (b = bn ∨ b = bm ∨ b = bf) := fun b _ h => ⟨by omega, by omega⟩
          have kc : ∀ o, wr.cell? ⟨b, o, none⟩ = w.cell? ⟨b, o, none⟩ := fun o => World.cell?_of_block (hg.block b (hold b 0 hbZ).1 (hold b 0 hbZ).2)
          rw [← kc] at c0 c1 c2 c3
          have hti' := Tr.at_grow hti hg hold
          have a5 := hcr.hd.cell 0
          have l4 := hcr.hd.lt
          simp at a5
          have HCR := Lib.hid hcr
          have HTI := Lib.hid hti'
          have HGR := Lib.hid hg
          have hsz := hg.size
          clear hti' hti hats hcr hg kc hne
          have hcnt := Tr.counts_take l i hil
          have hcle := Tr.counts_le l (i + 1)
          have hdp := Tr.deeps_take l i hil
          have hdle := Tr.deeps_le l (i + 1)
          have hfn := Tr.fines_take l i hil
          go_wp2_with fail
          refine (HI.out l[i] (List.getElem_mem hil) Z _ _ (d + 1) _ _ _ bn bm bf bd td (Tr.at_alloc HTI.out _) (HCR.out.keep (B.alloc (B.refl _) _)) (by simp; omega) (by omega) (by omega) (by omega) (by omega)).mono ?_
          rintro _ w2 ⟨rfl, g2, hc2⟩
          clear a5
          go_wp2_with fail
          go_roundw
          case measure => simp only [intOf]; omega
          case rel =>
            refine ⟨i + 1, rfl, by omega, ?_, ?_⟩
            · rw [hcnt, hdp, hfn]
              rw [show n + 1 + ((Tr.counts (l.take i) + l[i].count : Nat) : Int) = n + 1 + Tr.counts (l.take i) + l[i].count by omega,
                show max m (d + ((max (Tr.deeps (l.take i)) l[i].deep : Nat) : Int)) = max (max m (d + Tr.deeps (l.take i))) (d + 1 + l[i].deep - 1) by omega, ← Bool.and_assoc]
              exact hc2
            · exact (HGR.out.alloc _).trans g2
        · have hie : i = l.length := by omega
          subst hie
          have HCR := Lib.hid hcr
          have HGR := Lib.hid hg
          clear hcr hg
          go_wp2_with fail
          go_returns
          refine ⟨rfl, HGR.out, ?_⟩
          have hh := HCR.out
          rw [List.take_length] at hh
          simp only [Tr.count, Tr.deep, Tr.fine]
          rw [show n + ((Tr.counts l + 1 : Nat) : Int) = n + 1 + Tr.counts l by omega, show max m (d + ((Tr.deeps l + 1 : Nat) : Int) - 1) = max m (d + Tr.deeps l) by omega]
          simpa using hh
  · by_cases hmd : m < d
    · have HM : max m d = d := by omega
      clear HI0
      go_enter Try.func73, Try.ntmps73
      go_wp2_with fail
      refine (wdMay k n0 s A l.length cap _).mono ?_
      rintro _ w1 ⟨rfl, b1⟩
      have HC1 := (((HC.out.setN (n + 1)).setM d).keep (B.alloc (B.refl _) (.cells #[.int .i64 k, .int .i64 n0, .string s, .slice A l.length cap] 58))).keep b1
      have W1 := VB.new ((w.setCell ⟨bn, 0, none⟩ (.int .i64 (n + 1))).setCell ⟨bm, 0, none⟩ (.int .i64 d)) 58 #[.int .i64 k, .int .i64 n0, .string s, .slice A l.length cap]
      have W1' := W1.call b1
      have q3 := W1'.cell 3
      have a5 := HC1.hf.cell 0
      have f5 := HC1.hf.free 0
      simp at q3 a5
      have HC1 := Lib.hid HC1
      clear W1 W1' a1 a2 a3 f1 f2 f3
      go_wp2_with fail
      go_loopw [23] (fun c wr => ∃ i : Nat, c = .int .i64 (i : Int) ∧ i ≤ l.length ∧ ChkAt wr Z bn bm bf bd td (n + 1 + Tr.counts (l.take i)) (max d (d + Tr.deeps (l.take i))) (Wd.may k n0 s l.length && Tr.fines (l.take i)) ∧ GrowS (fun k => k = bn ∨ k = bm ∨ k = bf) w wr)
        (fun c _ => l.length - (intOf c).toNat)
      case atStart =>
        refine ⟨0, rfl, by omega, ?_, ?_⟩
        · have := HC1.out.setF (Wd.may k n0 s l.length)
          simpa [Tr.counts, Tr.deeps, Tr.fines, show max m d = m ∨ True from .inr trivial] using this
        · have := ((((G0.out.set (b := bn) (i := 0) (.inl rfl) (.int .i64 (n + 1))).set (b := bm) (i := 0) (.inr (.inl rfl)) (.int .i64 d)).alloc (.cells #[.int .i64 k, .int .i64 n0, .string s, .slice A l.length cap] 58)).below b1).set (b := bf) (i := 0) (.inr (.inr rfl)) (.bool (Wd.may k n0 s l.length))
          exact this
      case round =>
        obtain ⟨i, rfl, hi, hcr, hg⟩ := hrel
        by_cases hil : i < l.length
        · have hne : l ≠ [] := by intro e; subst e; simp at hil
          obtain ⟨b, off, rfl, hbZ, hats⟩ := HL.out hne
          obtain ⟨A1, cap1, c0, c1, c2, c3, hq1, hq2, hti⟩ := Tr.ats_cells hats i hil
          have hold : ∀ b (off : Nat), b < Z → b < w.heap.size ∧ ¬ (b = bn ∨ b = bm ∨ b = bf) := fun b _ h => ⟨by omega, by omega⟩
          have kc : ∀ o, wr.cell? ⟨b, o, none⟩ = w.cell? ⟨b, o, none⟩ := fun o => World.cell?_of_block (hg.block b (hold b 0 hbZ).1 (hold b 0 hbZ).2)
          rw [← kc] at c0 c1 c2 c3
          have hti' := Tr.at_grow hti hg hold
          have a5 := hcr.hd.cell 0
          have l4 := hcr.hd.lt
          simp at a5
          have HCR := Lib.hid hcr
          have HTI := Lib.hid hti'
          have HGR := Lib.hid hg
          have hsz := hg.size
          clear hti' hti hats hcr hg kc hne
          have hcnt := Tr.counts_take l i hil
          have hcle := Tr.counts_le l (i + 1)
          have hdp := Tr.deeps_take l i hil
          have hdle := Tr.deeps_le l (i + 1)
          have hfn := Tr.fines_take l i hil
          go_wp2_with fail
          refine (HI.out l[i] (List.getElem_mem hil) Z _ _ (d + 1) _ _ _ bn bm bf bd td (Tr.at_alloc HTI.out _) (HCR.out.keep (B.alloc (B.refl _) _)) (by simp; omega) (by omega) (by omega) (by omega) (by omega)).mono ?_
          rintro _ w2 ⟨rfl, g2, hc2⟩
          clear a5
          go_wp2_with fail
          go_roundw
          case measure => simp only [intOf]; omega
          case rel =>
            refine ⟨i + 1, rfl, by omega, ?_, ?_⟩
            · rw [hcnt, hdp, hfn]
              rw [show n + 1 + ((Tr.counts (l.take i) + l[i].count : Nat) : Int) = n + 1 + Tr.counts (l.take i) + l[i].count by omega,
                show max d (d + ((max (Tr.deeps (l.take i)) l[i].deep : Nat) : Int)) = max (max d (d + Tr.deeps (l.take i))) (d + 1 + l[i].deep - 1) by omega, ← Bool.and_assoc]
              exact hc2
            · exact (HGR.out.alloc _).trans g2
        · have hie : i = l.length := by omega
          subst hie
          have HCR := Lib.hid hcr
          have HGR := Lib.hid hg
          clear hcr hg
          go_wp2_with fail
          go_returns
          refine ⟨rfl, HGR.out, ?_⟩
          have hh := HCR.out
          rw [List.take_length] at hh
          simp only [Tr.count, Tr.deep, Tr.fine]
          rw [show n + ((Tr.counts l + 1 : Nat) : Int) = n + 1 + Tr.counts l by omega, show max m (d + ((Tr.deeps l + 1 : Nat) : Int) - 1) = max d (d + Tr.deeps l) by omega]
          simpa using hh
    · have HM : max m d = m := by omega
      clear HI0
      go_enter Try.func73, Try.ntmps73
      go_wp2_with fail
      refine (wdMay k n0 s A l.length cap _).mono ?_
      rintro _ w1 ⟨rfl, b1⟩
      have HC1 := (((HC.out.setN (n + 1)).setM m).keep (B.alloc (B.refl _) (.cells #[.int .i64 k, .int .i64 n0, .string s, .slice A l.length cap] 58))).keep b1
      have W1 := VB.new ((w.setCell ⟨bn, 0, none⟩ (.int .i64 (n + 1))).setCell ⟨bm, 0, none⟩ (.int .i64 m)) 58 #[.int .i64 k, .int .i64 n0, .string s, .slice A l.length cap]
      have W1' := W1.call b1
      have q3 := W1'.cell 3
      have a5 := HC1.hf.cell 0
      have f5 := HC1.hf.free 0
      simp at q3 a5
      have HC1 := Lib.hid HC1
      clear W1 W1' a1 a2 a3 f1 f2 f3
      go_wp2_with fail
      go_loopw [23] (fun c wr => ∃ i : Nat, c = .int .i64 (i : Int) ∧ i ≤ l.length ∧ ChkAt wr Z bn bm bf bd td (n + 1 + Tr.counts (l.take i)) (max m (d + Tr.deeps (l.take i))) (Wd.may k n0 s l.length && Tr.fines (l.take i)) ∧ GrowS (fun k => k = bn ∨ k = bm ∨ k = bf) w wr)
        (fun c _ => l.length - (intOf c).toNat)
      case atStart =>
        refine ⟨0, rfl, by omega, ?_, ?_⟩
        · have := HC1.out.setF (Wd.may k n0 s l.length)
          simpa [Tr.counts, Tr.deeps, Tr.fines, show max m d = m ∨ True from .inr trivial, show max m d = m from HM] using this
        · have := ((((G0.out.set (b := bn) (i := 0) (.inl rfl) (.int .i64 (n + 1))).set (b := bm) (i := 0) (.inr (.inl rfl)) (.int .i64 m)).alloc (.cells #[.int .i64 k, .int .i64 n0, .string s, .slice A l.length cap] 58)).below b1).set (b := bf) (i := 0) (.inr (.inr rfl)) (.bool (Wd.may k n0 s l.length))
          exact this
      case round =>
        obtain ⟨i, rfl, hi, hcr, hg⟩ := hrel
        by_cases hil : i < l.length
        · have hne : l ≠ [] := by intro e; subst e; simp at hil
          obtain ⟨b, off, rfl, hbZ, hats⟩ := HL.out hne
          obtain ⟨A1, cap1, c0, c1, c2, c3, hq1, hq2, hti⟩ := Tr.ats_cells hats i hil
          have hold : ∀ b (off : Nat), b < Z → b < w.heap.size ∧ ¬ (b = bn ∨ b = bm ∨ b = bf) := fun b _ h => ⟨by omega, by omega⟩
          have kc : ∀ o, wr.cell? ⟨b, o, none⟩ = w.cell? ⟨b, o, none⟩ := fun o => World.cell?_of_block (hg.block b (hold b 0 hbZ).1 (hold b 0 hbZ).2)
          rw [← kc] at c0 c1 c2 c3
          have hti' := Tr.at_grow hti hg hold
          have a5 := hcr.hd.cell 0
          have l4 := hcr.hd.lt
          simp at a5
          have HCR := Lib.hid hcr
          have HTI := Lib.hid hti'
          have HGR := Lib.hid hg
          have hsz := hg.size
          clear hti' hti hats hcr hg kc hne
          have hcnt := Tr.counts_take l i hil
          have hcle := Tr.counts_le l (i + 1)
          have hdp := Tr.deeps_take l i hil
          have hdle := Tr.deeps_le l (i + 1)
          have hfn := Tr.fines_take l i hil
          go_wp2_with fail
          refine (HI.out l[i] (List.getElem_mem hil) Z _ _ (d + 1) _ _ _ bn bm bf bd td (Tr.at_alloc HTI.out _) (HCR.out.keep (B.alloc (B.refl _) _)) (by simp; omega) (by omega) (by omega) (by omega) (by omega)).mono ?_
          rintro _ w2 ⟨rfl, g2, hc2⟩
          clear a5
          go_wp2_with fail
          go_roundw
          case measure => simp only [intOf]; omega
          case rel =>
            refine ⟨i + 1, rfl, by omega, ?_, ?_⟩
            · rw [hcnt, hdp, hfn]
              rw [show n + 1 + ((Tr.counts (l.take i) + l[i].count : Nat) : Int) = n + 1 + Tr.counts (l.take i) + l[i].count by omega,
                show max m (d + ((max (Tr.deeps (l.take i)) l[i].deep : Nat) : Int)) = max (max m (d + Tr.deeps (l.take i))) (d + 1 + l[i].deep - 1) by omega, ← Bool.and_assoc]
              exact hc2
            · exact (HGR.out.alloc _).trans g2
        · have hie : i = l.length := by omega
          subst hie
          have HCR := Lib.hid hcr
          have HGR := Lib.hid hg
          clear hcr hg
          go_wp2_with fail
          go_returns
          refine ⟨rfl, HGR.out, ?_⟩
          have hh := HCR.out
          rw [List.take_length] at hh
          simp only [Tr.count, Tr.deep, Tr.fine]
          rw [show n + ((Tr.counts l + 1 : Nat) : Int) = n + 1 + Tr.counts l by omega, show max m (d + ((Tr.deeps l + 1 : Nat) : Int) - 1) = max m (d + Tr.deeps l) by omega]
          simpa using hh

end Go.Proofs.Ytgohnekaolgblaa
