/- gimletref02.Runes, Bad, name.Runes: contracts. -/
import Derived.Test.YtdlfmchpaohoaaaDoorNmRefC
import Derived.Test.YtdlfmchpaohoaaaDoorNmBad
import Derived.Test.YtdlfmchpaohoaaaDoorRefParts
namespace Go.Proofs.YtdlfmchpaohoaaaDoor
open Go.RowKit

theorem Tryd.infoInt : (Tryd.prog.info? 3).map (fun i => (i.zero, i.size, i.bytes)) = some (some (.int .i64 0), 1, 8) := by kernel_rfl

/-- The runes from a place on. -/
def Nm.runesFrom (xs : List Int) : Nat → Nat → List Int
  | 0, _ => []
  | f + 1, p => if p < xs.length then ((Nm.dec xs p).1 : Int) :: Nm.runesFrom xs f (p + (Nm.dec xs p).2) else []

theorem Nm.runesFrom_end (xs : List Int) (f p : Nat) (h : ¬ p < xs.length) : Nm.runesFrom xs f p = [] := by
  cases f with
  | zero => rfl
  | succ f => simp only [Nm.runesFrom, if_neg h]

theorem Nm.runesFrom_len (xs : List Int) : ∀ f p, p ≤ xs.length → (Nm.runesFrom xs f p).length ≤ xs.length - p
  | 0, p, h => by simp [Nm.runesFrom]
  | f + 1, p, h => by
    by_cases hp : p < xs.length
    · have h1 := Nm.dec_pos xs p
      have h2 := Nm.dec_fits xs p hp
      have h3 := Nm.runesFrom_len xs f (p + (Nm.dec xs p).2) h2
      simp only [Nm.runesFrom, if_pos hp, List.length_cons]
      omega
    · rw [Nm.runesFrom_end xs _ _ hp]; simp

/-- Where bytes are no text. -/
def Nm.badAt (xs : List Int) : Int := Nm.badFrom xs xs.length 0

theorem Nm.badFrom_cases (xs : List Int) : ∀ f p, Nm.badFrom xs f p = -1 ∨ ∃ a : Nat, Nm.badFrom xs f p = (a : Int) ∧ a < xs.length
  | 0, p => .inl rfl
  | f + 1, p => by
    simp only [Nm.badFrom]
    by_cases hp : p < xs.length
    · rw [if_pos hp]
      by_cases hb : Nm.bad xs p
      · rw [if_pos hb]; exact .inr ⟨p, rfl, hp⟩
      · rw [if_neg hb]; exact Nm.badFrom_cases xs f _
    · rw [if_neg hp]; exact .inl rfl

/-- What Runes tells: the runes, or the fault. -/
def Nm.RunesOut (xs : List Int) (e : Ending) (w' : World) : Prop :=
  (Nm.badAt xs = -1 ∧ ∃ v, e = .returned (.tuple #[v, .agg #[.int .i64 0, .int .i64 0]]) ∧ Sees .i64 w' v (Nm.runesFrom xs xs.length 0)) ∨
  ((∃ a : Nat, Nm.badAt xs = (a : Int)) ∧ e = .returned (.tuple #[.slice none 0 0, .agg #[.int .i64 4, .int .i64 (Nm.badAt xs)]]))

set_option maxHeartbeats 2000000 in
theorem refRunes (v : Value) (xs : List Int) (w : World) (hv : Sees .u8 w v xs) (hb : Byt xs) (hm : xs.length ≤ 2000000) :
    Calls Tryd.prog 11 #[v] w fun e w' => Nm.RunesOut xs e w' ∧ Below w.heap.size w w' := by
  obtain ⟨i0, hi, hz0, hz1, hz2⟩ := info_parts Tryd.infoInt
  obtain ⟨A, cap, rfl, _, _⟩ := hv.len
  have HV := Lib.hid hv; clear hv
  have HB := Lib.hid hb; clear hb
  go_enter Tryd.func11, Tryd.ntmps11
  go_wp2_with fail
  go_loopw [4, 5] (fun o c wr => ∃ (i fuel : Nat) (acc : List Int), c = .int .i64 (i : Int) ∧ i ≤ xs.length ∧ Owns 3 .i64 (w.heap.size + 1) wr o acc ∧ Below (w.heap.size + 1) (w.alloc (.cells #[.int .i64 0, .int .i64 0] 27)) wr ∧ w.heap.size + 1 ≤ wr.heap.size ∧
      Nm.badFrom xs fuel i = Nm.badAt xs ∧ acc ++ Nm.runesFrom xs fuel i = Nm.runesFrom xs xs.length 0 ∧ xs.length ≤ i + fuel ∧ acc.length ≤ i)
    (fun _ c _ => xs.length - (intOf c).toNat)
  case atStart => exact ⟨0, xs.length, [], rfl, by omega, Owns.nil _ _ _ _, Below.refl _ _, by simp, rfl, rfl, by omega, by simp⟩
  case round =>
    obtain ⟨i, fuel, acc, rfl, hil, hown, hbel, hsz, hbf, hrf, hfu, hal⟩ := hrel
    by_cases hs : i < xs.length
    · obtain ⟨f, rfl⟩ : ∃ f, fuel = f + 1 := ⟨fuel - 1, by omega⟩
      have d1 := Nm.dec_pos xs i
      have d2 := Nm.dec_fits xs i hs
      have dl := Nm.dec_le HB.out i
      have SV := Lib.hid ((HV.out.alloc (.cells #[.int .i64 0, .int .i64 0] 27)).below hbel (by simp))
      have HO := Lib.hid hown
      have HBE := Lib.hid hbel
      have HBF := Lib.hid hbf; have HRF := Lib.hid hrf
      clear hown hbel hbf hrf
      go_wp2_with fail
      refine (refAt _ xs i _ SV.out HB.out hs (by omega)).mono ?_
      rintro _ w1 ⟨⟨a, b, ok, rfl, hat⟩, b1⟩
      have hbel1 := HBE.out.trans (b1.mono (by omega))
      have hsz1 := b1.size
      obtain ⟨f0, f1, f2, f3, f4⟩ := bcell2 (bnew hbel1)
      rcases hat with ⟨hbad, rfl⟩ | ⟨hbad, rfl, rfl, rfl⟩
      · have hres : Nm.badAt xs = (i : Int) := by rw [← HBF.out]; simp only [Nm.badFrom, if_pos hs, if_pos hbad]
        have HRE := Lib.hid hres; clear hres
        go_wp2_with fail
        refine bodyPost_ret (v := .tuple #[.slice none 0 0, .agg #[.int .i64 4, .int .i64 (i : Int)]]) (by simp [results, Tryd.results11, go_sem, f0, f1]) rfl ⟨.inr ⟨⟨i, HRE.out⟩, ?_⟩, bend hbel1⟩
        rw [HRE.out]
      · have hown1 := HO.out.below b1 (Nat.le_refl _)
        have hbf' : Nm.badFrom xs f (i + (Nm.dec xs i).2) = Nm.badAt xs := by rw [← HBF.out]; simp only [Nm.badFrom, if_pos hs, if_neg hbad]
        have hrf' : (acc ++ [((Nm.dec xs i).1 : Int)]) ++ Nm.runesFrom xs f (i + (Nm.dec xs i).2) = Nm.runesFrom xs xs.length 0 := by rw [← HRF.out]; simp only [Nm.runesFrom, if_pos hs, List.append_assoc, List.singleton_append]
        have HBF' := Lib.hid hbf'; have HRF' := Lib.hid hrf'
        clear hbf' hrf'
        generalize Nm.dec xs i = d at *
        obtain ⟨d, k⟩ := d
        simp only at *
        go_wp2_with (at_builtin; refine app_own Tryd.underlying24 hi hz0 hz1 hz2 rfl _ _ rfl rfl rfl hown1 hbel1 (by omega) (by omega) (by unfold maxLen; omega) ?_; intro v2 w2 o2 b2 z2)
        refine ⟨⟨i + k, f, acc ++ [(d : Int)], by go_num, by omega, o2, b2, z2, HBF'.out, HRF'.out, by omega, by simp; omega⟩, by simp only [intOf]; omega⟩
    · have hie : i = xs.length := by omega
      have hbad : Nm.badAt xs = -1 := by rw [← hbf, Nm.badFrom_end xs fuel i hs]
      have hacc : acc = Nm.runesFrom xs xs.length 0 := by rw [← hrf, Nm.runesFrom_end xs fuel i hs, List.append_nil]
      have HBA := Lib.hid hbad; have HAC := Lib.hid hacc
      obtain ⟨f0, f1, f2, f3, f4⟩ := bcell2 (bnew hbel)
      obtain ⟨A1, k1, rfl, _, _⟩ := hown.sees.len
      have HO := Lib.hid hown; have HBE := Lib.hid hbel
      clear hbf hrf hbad hacc hown hbel
      subst hie
      go_wp2_with fail
      refine bodyPost_ret (v := .tuple #[.slice A1 acc.length k1, .agg #[.int .i64 0, .int .i64 0]]) (by simp [results, Tryd.results11, go_sem, f0, f1]) rfl ⟨.inl ⟨HBA.out, _, rfl, ?_⟩, bend HBE.out⟩
      rw [← HAC.out]
      exact (Owns.setNew (Owns.setNew HO.out HO.out _ _) HO.out _ _).sees

end Go.Proofs.YtdlfmchpaohoaaaDoor
