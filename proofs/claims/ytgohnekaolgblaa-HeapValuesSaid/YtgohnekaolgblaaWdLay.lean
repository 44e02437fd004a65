/- word.Lay: contract. -/
import Derived.Test.YtgohnekaolgblaaWdLay1
import Derived.Test.YtgohnekaolgblaaWdChk
namespace Go.Proofs.Ytgohnekaolgblaa
open Go.RowKit

def Wd.place (a : Int) : Prop := a ≠ 0 ∧ a % 4 = 0 ∧ a ≤ 2147483648
instance (a : Int) : Decidable (Wd.place a) := inferInstanceAs (Decidable (_ ∧ _))
def Wd.lay (t : Tr) (a : Int) : List Int × Int × Int := if ¬ Wd.place a then ([], 0, 5) else if Wd.chk t ≠ 0 then ([], 0, Wd.chk t) else (t.words a, t.word a, 0)

theorem Wd.chk_ok {t : Tr} (h : Wd.chk t = 0) : t.count ≤ 16384 ∧ t.deep ≤ 200 ∧ t.fine = true := by
  unfold Wd.chk at h
  split at h
  · cases h
  · split at h
    · cases h
    · rename_i h1 h2
      refine ⟨by omega, by omega, ?_⟩
      cases hf : t.fine
      · exact absurd hf h2
      · rfl

def LayPost (w : World) (r : List Int × Int × Int) (e : Ending) (w' : World) : Prop := ∃ o, e = .returned (.tuple #[o, .int .u32 r.2.1, .int .i64 r.2.2]) ∧ Owns 22 .u32 w.heap.size w' o r.1 ∧ Below w.heap.size w w'

theorem wdLay_place (v : Value) (at' : Int) (w : World) (k n : Int) (s : ByteArray) (A : Option Addr) (c cap : Nat) (hv : v = .agg #[.int .i64 k, .int .i64 n, .string s, .slice A c cap]) (h0 : 0 ≤ at') (h1 : at' < 4294967296) (hp : ¬ Wd.place at') :
    Calls Try.prog 32 #[v, .int .u32 at'] w (LayPost w ([], 0, 5)) := by
  subst hv
  have hand : bits .and .u32 at' 3 = at' % 4 := bits_mask .u32 at' 2 (by decide)
  by_cases e0 : at' = 0
  · subst e0
    go_enter Try.func32, Try.ntmps32
    go_wp2
    go_returns
    exact ⟨_, rfl, Owns.nil _ _ _ _, by go_grown⟩
  by_cases e1 : at' % 4 = 0
  · have e2 : 2147483648 < at' := by
      unfold Wd.place at hp
      omega
    go_enter Try.func32, Try.ntmps32
    go_wp2
    go_returns
    exact ⟨_, rfl, Owns.nil _ _ _ _, by go_grown⟩
  · clear hp
    go_enter Try.func32, Try.ntmps32
    go_wp2
    go_returns
    exact ⟨_, rfl, Owns.nil _ _ _ _, by go_grown⟩

theorem wdLay_bad (t : Tr) (v : Value) (at' : Int) (w : World) (ht : Tr.at (fun b _ => b < w.heap.size) w t v) (hcn : t.count ≤ 4611686018427387904) (hdp : t.deep ≤ 4611686018427387903) (hp : Wd.place at') (h0 : 0 ≤ at') (hc : Wd.chk t ≠ 0) :
    Calls Try.prog 32 #[v, .int .u32 at'] w (LayPost w ([], 0, Wd.chk t)) := by
  obtain ⟨c, hcc⟩ : ∃ c, c = Wd.chk t := ⟨_, rfl⟩
  have hand : bits .and .u32 at' 3 = 0 := (bits_mask .u32 at' 2 (by decide)).trans hp.2.1
  obtain ⟨p1, p2, p3⟩ := hp
  have e1 : (at' == 0) = false := by simpa using p1
  have e2 : decide (2147483648 < at') = false := by simp; omega
  have hchk := fun w' (hb : Below w.heap.size w w') => wdChk t v w' (Tr.at_keep (S := fun b _ => b < w.heap.size) (fun b _ h => Nat.lt_of_lt_of_le h hb.size) (fun b _ o _ hlt hc => (hb.cell (p := ⟨b, o, none⟩) hlt).trans hc) t v ht) hcn hdp
  rw [← hcc] at hc hchk ⊢
  obtain ⟨A, cap, rfl, hl1, hl2, hl3⟩ := Tr.at_agg ht
  clear hcc ht hl3
  replace hchk := Lib.hid hchk
  go_enter Try.func32, Try.ntmps32
  go_wp2_with fail
  refine (hchk.out _ (B.alloc (B.alloc (B.refl w) _) _)).mono ?_
  rintro _ w1 ⟨rfl, b1⟩
  have BW := Lib.hid (B.call (B.alloc (B.alloc (B.refl w) _) _) b1)
  clear b1
  go_wp2_with fail
  go_returns
  exact ⟨_, rfl, Owns.nil _ _ _ _, BW.out⟩

set_option maxHeartbeats 1000000 in
theorem wdLay_ok (t : Tr) (v : Value) (at' : Int) (w : World) (ht : Tr.at (fun b _ => b < w.heap.size) w t v) (hp : Wd.place at') (h0 : 0 ≤ at') (hc : Wd.chk t = 0) :
    Calls Try.prog 32 #[v, .int .u32 at'] w (LayPost w (t.words at', t.word at', 0)) := by
  have hmf : ∀ (fn : Fn) (first cap : Array Value) (w : World), (Instr.makeFunc fn first cap).run Try.prog w = .ok (.func fn first cap) w := fun _ _ _ _ => rfl
  have hand : bits .and .u32 at' 3 = 0 := (bits_mask .u32 at' 2 (by decide)).trans hp.2.1
  obtain ⟨p1, p2, p3⟩ := hp
  have e1 : (at' == 0) = false := by simpa using p1
  have e2 : decide (2147483648 < at') = false := by simp; omega
  obtain ⟨k1, k2, k3⟩ := Wd.chk_ok hc
  have hsz := Tr.size_le t k3
  have hkeep : ∀ w', Below w.heap.size w w' → Tr.at (fun b _ => b < w.heap.size) w' t v := fun w' hb => Tr.at_below ht hb (fun _ _ h => h)
  have hchk := fun w' (hb : Below w.heap.size w w') => wdChk t v w' (Tr.at_mono (hkeep w' hb) (fun b _ h => Nat.lt_of_lt_of_le h hb.size)) (by omega) (by omega)
  rw [hc] at hchk
  have hlay := wdLay1 t t (List.mem_singleton.2 rfl)
  obtain ⟨A, cap, rfl, hl1, hl2, hl3⟩ := Tr.at_agg ht
  obtain ⟨u, hu⟩ : ∃ u, u = t.word at' := ⟨_, rfl⟩
  obtain ⟨ws, hws⟩ : ∃ u, u = t.words at' := ⟨_, rfl⟩
  rw [← hu, ← hws]
  replace hu := Lib.hid hu
  replace hws := Lib.hid hws
  clear ht hl3
  unfold maxLen at hl2
  replace hchk := Lib.hid hchk
  replace hlay := Lib.hid hlay
  replace hkeep := Lib.hid hkeep
  go_enter Try.func32, Try.ntmps32
  go_wp2_with fail
  refine (hchk.out _ (B.alloc (B.alloc (B.refl w) _) _)).mono ?_
  rintro _ w1 ⟨rfl, b1⟩
  have BW := Lib.hid (B.call (B.alloc (B.alloc (B.refl w) _) _) b1)
  have x1 := ((VB.new w 58 #[.int .i64 t.k, .int .i64 t.n, .string t.s, .slice A t.l.length cap]).alloc (.cells #[.int .u32 at'] 22)).call b1
  have x2 := (VB.new (w.alloc (.cells #[.int .i64 t.k, .int .i64 t.n, .string t.s, .slice A t.l.length cap] 58)) 22 #[.int .u32 at']).call b1
  simp only [World.size_alloc] at x2
  have y0 := x1.cell 0
  have y1 := x1.cell 1
  have y2 := x1.cell 2
  have y3 := x1.cell 3
  have y4 := x1.lt
  have y5 := x2.lt
  simp at y0 y1 y2 y3
  have X2 := Lib.hid x2
  clear b1 x1 x2
  go_wp2_with fail
  have L0 : LayAt ((w1.alloc (.cells #[.slice none 0 0] 24)).alloc (.cells #[.func (.func 69) #[] #[.pointer (some ⟨w1.heap.size, 0, none⟩), .pointer (some ⟨w.heap.size + 1, 0, none⟩), .pointer (some ⟨w1.heap.size + 1, 0, none⟩)]] 103)) w1.heap.size (w.heap.size + 1) (w1.heap.size + 1) (w1.heap.size + 2) (.slice none 0 0) at' :=
    ⟨(VB.new w1 24 #[.slice none 0 0]).alloc _, (X2.out.alloc _).alloc _, by simpa using VB.new (w1.alloc (.cells #[.slice none 0 0] 24)) 103 #[.func (.func 69) #[] #[.pointer (some ⟨w1.heap.size, 0, none⟩), .pointer (some ⟨w.heap.size + 1, 0, none⟩), .pointer (some ⟨w1.heap.size + 1, 0, none⟩)]], by omega, by omega⟩
  refine (hlay.out w.heap.size _ _ [] at' _ _ _ (w1.heap.size + 2) _ (Tr.at_alloc (Tr.at_alloc (hkeep.out w1 BW.out) _) _) k3 (by omega) L0 (by simp) (Owns.nil _ _ _ _) (by simp only [List.length_nil]; omega)).mono ?_
  have ea : (at' + 4 * ((([] : List Int).length : Nat) : Int)) % 4294967296 = at' := by simp; omega
  rw [ea]
  rintro _ w2 ⟨o2, rfl, l2, ow2, g2⟩
  rw [List.nil_append] at ow2
  have z0 := l2.ho.cell 0
  have z1 := l2.ho.lt
  simp at z0
  rw [← hws.out] at ow2
  rw [← hu.out]
  have OW := Lib.hid (ow2.mono (B' := w.heap.size) (by omega))
  have B2 := Lib.hid (BW.out.trans (g2.toBelow (B := w.heap.size) (by simp; omega) (fun k hk => by omega) |> fun (h : Below w.heap.size _ w2) => ((B.alloc (B.alloc (B.refl w1) _) _).mono (by omega)).trans h))
  clear l2 ow2 g2 L0 y0 y1 y2 y3
  go_wp2_with fail
  go_returns
  exact ⟨_, rfl, OW.out, B2.out⟩

/-- word.Lay tells what the tree's words are, or the error. -/
theorem wdLay (t : Tr) (v : Value) (at' : Int) (w : World) (ht : Tr.at (fun b _ => b < w.heap.size) w t v) (hcn : t.count ≤ 4611686018427387904) (hdp : t.deep ≤ 4611686018427387903) (h0 : 0 ≤ at') (h1 : at' < 4294967296) :
    Calls Try.prog 32 #[v, .int .u32 at'] w (LayPost w (Wd.lay t at')) := by
  unfold Wd.lay
  by_cases hp : Wd.place at'
  · rw [if_neg (by simpa using hp)]
    by_cases hc : Wd.chk t = 0
    · rw [if_neg (by simpa using hc)]
      exact wdLay_ok t v at' w ht hp h0 hc
    · rw [if_pos hc]
      exact wdLay_bad t v at' w ht hcn hdp hp h0 hc
  · rw [if_pos hp]
    obtain ⟨A, cap, he, _⟩ := Tr.at_agg ht
    exact wdLay_place v at' w _ _ _ _ _ _ he h0 h1 hp

end Go.Proofs.Ytgohnekaolgblaa
