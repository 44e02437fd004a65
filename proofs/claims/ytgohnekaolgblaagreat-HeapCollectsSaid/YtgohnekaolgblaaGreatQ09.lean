/- Which expressions may be: contracts (gimletref28.parts, variable, global, exp; gimletref03.Arity), where they may (printed by wip/gen_ckd.py). -/
import Derived.Test.YtgohnekaolgblaaGreatQ08
namespace Go.Proofs.YtgohnekaolgblaaGreat
open Go.RowKit

/-- How many expressions an expression has. -/
def partsOf (k : Int) : Nat := if k = 1 ∨ k = 2 ∨ k = 3 then 0 else if k = 7 then 2 else 1
def opsOf (k : Int) : List Int := if k = 6 then [69] else [70, 73, 79, 106, 107, 108, 113, 114, 116, 118]

/-- A store of what stands there turns nothing. -/
theorem Below.same {B : Nat} {w : World} {g i : Nat} {T : TypeId} {cs : Array Value} {v : Value} (h : VB w g T cs) (hv : cs[i]? = some v) : Below B w (w.setCell ⟨g, i, none⟩ v) := by
  refine ⟨rfl, rfl, rfl, by simp [World.setCell], fun k _ => ?_⟩
  by_cases hk : k = g
  · subst hk
    have e : cs.setIfInBounds i v = cs := by
      obtain ⟨hi, hv⟩ := Array.getElem?_eq_some_iff.1 hv
      subst hv
      simp [Array.setIfInBounds, hi]
    have h1 := VB.set h i v
    rw [e] at h1
    exact h1.trans h.symm
  · exact Below.heap_setCell w ⟨g, i, none⟩ v k hk

theorem rParts (k n : Int) (A : Option Addr) (l c : Nat) (w : World) (hk : k = 1 ∨ k = 2 ∨ k = 3 ∨ k = 4 ∨ k = 6 ∨ k = 7) : Calls Tryz.prog 89 #[.agg #[.int .i64 k, .int .i64 n, .slice A l c]] w fun e w' => e = .returned (.int .i64 (partsOf k : Nat)) ∧ Below w.heap.size w w' := by
  have hb := Lib.hid (B.alloc (B.refl w) (.cells #[.int .i64 k, .int .i64 n, .slice A l c] 79))
  rcases hk with rfl | rfl | rfl | rfl | rfl | rfl
  · go_enter Tryz.func89, Tryz.ntmps89
    go_wp2_with fail
    go_returns
    exact ⟨rfl, hb.out⟩
  · go_enter Tryz.func89, Tryz.ntmps89
    go_wp2_with fail
    go_returns
    exact ⟨rfl, hb.out⟩
  · go_enter Tryz.func89, Tryz.ntmps89
    go_wp2_with fail
    go_returns
    exact ⟨rfl, hb.out⟩
  · go_enter Tryz.func89, Tryz.ntmps89
    go_wp2_with fail
    go_returns
    exact ⟨rfl, hb.out⟩
  · go_enter Tryz.func89, Tryz.ntmps89
    go_wp2_with fail
    go_returns
    exact ⟨rfl, hb.out⟩
  · go_enter Tryz.func89, Tryz.ntmps89
    go_wp2_with fail
    go_returns
    exact ⟨rfl, hb.out⟩
theorem rArity (k n : Int) (w : World) (hk : k = 6 ∨ k = 7) (hn : n ∈ opsOf k) : Calls Tryz.prog 90 #[.int .i64 n] w fun e w' => e = .returned (.int .i64 (partsOf k : Nat)) ∧ w' = w := by
  rcases hk with rfl | rfl
  · have hn : n = 69 := by simpa [opsOf] using hn
    subst hn
    go_enter Tryz.func90, Tryz.ntmps90
    go_wp2_with fail
    go_returns
    exact ⟨rfl, rfl⟩
  · have hn : n = 70 ∨ n = 73 ∨ n = 79 ∨ n = 106 ∨ n = 107 ∨ n = 108 ∨ n = 113 ∨ n = 114 ∨ n = 116 ∨ n = 118 := by simpa [opsOf] using hn
    rcases hn with rfl | rfl | rfl | rfl | rfl | rfl | rfl | rfl | rfl | rfl
    · go_enter Tryz.func90, Tryz.ntmps90
      go_wp2_with fail
      go_returns
      exact ⟨rfl, rfl⟩
    · go_enter Tryz.func90, Tryz.ntmps90
      go_wp2_with fail
      go_returns
      exact ⟨rfl, rfl⟩
    · go_enter Tryz.func90, Tryz.ntmps90
      go_wp2_with fail
      go_returns
      exact ⟨rfl, rfl⟩
    · go_enter Tryz.func90, Tryz.ntmps90
      go_wp2_with fail
      go_returns
      exact ⟨rfl, rfl⟩
    · go_enter Tryz.func90, Tryz.ntmps90
      go_wp2_with fail
      go_returns
      exact ⟨rfl, rfl⟩
    · go_enter Tryz.func90, Tryz.ntmps90
      go_wp2_with fail
      go_returns
      exact ⟨rfl, rfl⟩
    · go_enter Tryz.func90, Tryz.ntmps90
      go_wp2_with fail
      go_returns
      exact ⟨rfl, rfl⟩
    · go_enter Tryz.func90, Tryz.ntmps90
      go_wp2_with fail
      go_returns
      exact ⟨rfl, rfl⟩
    · go_enter Tryz.func90, Tryz.ntmps90
      go_wp2_with fail
      go_returns
      exact ⟨rfl, rfl⟩
    · go_enter Tryz.func90, Tryz.ntmps90
      go_wp2_with fail
      go_returns
      exact ⟨rfl, rfl⟩

/-- The judge, where nothing wrong was met: its program, the function that is looked at. -/
structure Jx where
  uf : Option Addr
  nf : Nat
  cf : Nat
  ug : Option Addr
  ng : Nat
  cg : Nat
  ud : Option Addr
  nd : Nat
  cd : Nat
  pages : Int
  main : Int
  fp : Int
  fl : Int
  ul : Option Addr
  nl : Nat
  cl : Nat
def Jx.cells (j : Jx) : Array Value := #[.slice j.uf j.nf j.cf, .slice j.ug j.ng j.cg, .slice j.ud j.nd j.cd, .int .i64 j.pages, .int .i64 j.main, .int .i64 j.fp, .int .i64 j.fl, .slice j.ul j.nl j.cl, .bool false, .bool false, .bool false]
def JAt (w : World) (g : Nat) (j : Jx) : Prop := VB w g 100 j.cells

theorem rVariable (w : World) (g : Nat) (j : Jx) (n : Int) (hj : JAt w g j) (h1 : 0 ≤ n) (h2 : n < j.fp + j.fl) (h3 : 0 ≤ j.fp ∧ j.fp ≤ 1000000 ∧ 0 ≤ j.fl ∧ j.fl ≤ 1000000) :
    Calls Tryz.prog 87 #[.pointer (some ⟨g, 0, none⟩), .int .i64 n] w fun e w' => e = .returned (.tuple #[]) ∧ Below w.heap.size w w' := by
  have c5 := hj.cell 5
  have c6 := hj.cell 6
  simp [Jx.cells] at c5 c6
  obtain ⟨p, hp⟩ : ∃ p, p = j.fp := ⟨_, rfl⟩
  obtain ⟨f, hf⟩ : ∃ f, f = j.fl := ⟨_, rfl⟩
  rw [← hp] at c5 h2 h3
  rw [← hf] at c6 h2 h3
  have hnn : ¬ n < 0 := by omega
  have hge : ¬ p + f ≤ n := by omega
  have hwr : IntKind.i64.wrap (p + f) = p + f := by simp [IntKind.wrap, IntKind.signed, IntKind.bits]; omega
  clear hj hp hf
  go_enter Tryz.func87, Tryz.ntmps87
  go_wp2_with fail
  go_quiet (fail)
  go_wp2_with fail
  go_returns
  exact ⟨rfl, ⟨rfl, rfl, rfl, Nat.le_refl _, fun _ _ => rfl⟩⟩

theorem rGlobal (w : World) (g : Nat) (j : Jx) (n : Int) (hj : JAt w g j) (h1 : 0 ≤ n) (h2 : n < j.ng) :
    Calls Tryz.prog 88 #[.pointer (some ⟨g, 0, none⟩), .int .i64 n] w fun e w' => e = .returned (.tuple #[]) ∧ Below w.heap.size w w' := by
  have c1 := hj.cell 1
  simp [Jx.cells] at c1
  obtain ⟨m, hm⟩ : ∃ m, m = j.ng := ⟨_, rfl⟩
  rw [← hm] at c1 h2
  have hnn : ¬ n < 0 := by omega
  have hge : ¬ (m : Int) ≤ n := by omega
  clear hj hm
  go_enter Tryz.func88, Tryz.ntmps88
  go_wp2_with fail
  go_returns
  exact ⟨rfl, Below.refl _ _⟩


def exOk (nv ng k n : Int) (len : Nat) : Prop := (k = 1 ∧ len = 0 ∧ 0 ≤ n ∧ n ≤ 4294967295) ∨ (k = 2 ∧ len = 0 ∧ 0 ≤ n ∧ n < nv) ∨ (k = 3 ∧ len = 0 ∧ 0 ≤ n ∧ n < ng) ∨ (k = 4 ∧ len = 1 ∧ n = 0) ∨ (k = 6 ∧ len = 1 ∧ n ∈ opsOf 6) ∨ (k = 7 ∧ len = 2 ∧ n ∈ opsOf 7)
mutual
/-- An expression may be: with so many variables, lasting words. -/
def Ex.good (nv ng : Int) : Ex → Prop | .mk k n l => exOk nv ng k n l.length ∧ Ex.goods nv ng l
def Ex.goods (nv ng : Int) : List Ex → Prop | [] => True | t :: l => t.good nv ng ∧ Ex.goods nv ng l
end
theorem Ex.goods_mem {nv ng : Int} : ∀ {l : List Ex}, Ex.goods nv ng l → ∀ t ∈ l, t.good nv ng
  | [], _, t, h => by cases h
  | x :: l, hg, t, h => by
    rw [Ex.goods] at hg
    rcases List.mem_cons.1 h with rfl | h
    · exact hg.1
    · exact Ex.goods_mem hg.2 t h
theorem ExL.elemAt {S : Nat → Prop} {w : World} {l : List Ex} {A : Option Addr} {cap : Nat} (h : ExL S w l (.slice A l.length cap)) (i : Nat) (hi : i < l.length) :
    ∃ b off k n A1 c1 l1, A = some ⟨b, off, none⟩ ∧ b < w.heap.size ∧ w.cell? ⟨b, off + i * 3, none⟩ = some (.int .i64 k) ∧ w.cell? ⟨b, off + i * 3 + 1, none⟩ = some (.int .i64 n) ∧ w.cell? ⟨b, off + i * 3 + 2, none⟩ = some (.slice A1 l1 c1) ∧ Ex.at S w l[i] (.agg #[.int .i64 k, .int .i64 n, .slice A1 l1 c1]) := by
  obtain ⟨b, off, A1, k1, h1, h2, c0, c1, c2, h3⟩ := h.elem i hi
  refine ⟨b, off, _, _, A1, k1, _, h1, h2, c0, c1, c2, ?_⟩
  generalize l[i] = t at *
  obtain ⟨k, n, l'⟩ := t
  exact Ex.at_mk.2 ⟨_, rfl, h3⟩

set_option maxHeartbeats 4000000 in
theorem rExp (t : Ex) : ∀ (S : Nat → Prop) (w : World) (v : Value) (g : Nat) (j : Jx), JAt w g j → Ex.at S w t v → t.good (j.fp + j.fl) j.ng → (0 ≤ j.fp ∧ j.fp ≤ 1000000 ∧ 0 ≤ j.fl ∧ j.fl ≤ 1000000) →
    Calls Tryz.prog 80 #[.pointer (some ⟨g, 0, none⟩), v] w fun e w' => e = .returned (.tuple #[]) ∧ Below w.heap.size w w' := by
  refine Ex.ind (P := fun t => ∀ (S : Nat → Prop) (w : World) (v : Value) (g : Nat) (j : Jx), JAt w g j → Ex.at S w t v → t.good (j.fp + j.fl) j.ng → (0 ≤ j.fp ∧ j.fp ≤ 1000000 ∧ 0 ≤ j.fl ∧ j.fl ≤ 1000000) →
    Calls Tryz.prog 80 #[.pointer (some ⟨g, 0, none⟩), v] w fun e w' => e = .returned (.tuple #[]) ∧ Below w.heap.size w w') ?_ t
  intro k n l ih S w v g j hj hv hg hb
  rw [Ex.good] at hg
  obtain ⟨hok, hgs⟩ := hg
  obtain ⟨u, rfl, hl⟩ := Ex.at_mk.1 hv
  obtain ⟨A, cap, rfl⟩ := hl.slice
  have hgm := Lib.hid (Ex.goods_mem hgs)
  have hl2 : l.length ≤ 2 := by rcases hok with h | h | h | h | h | h <;> omega
  replace ih := Lib.hid ih
  replace hl := Lib.hid hl
  replace hb := Lib.hid hb
  have hglt := hj.lt
  have W0 := Lib.hid (VB.new w 79 #[.int .i64 k, .int .i64 n, .slice A l.length cap])
  have J0 := Lib.hid (VB.alloc hj (.cells #[.int .i64 k, .int .i64 n, .slice A l.length cap] 79))
  have B0 := Lib.hid (B.alloc (B.refl w) (.cells #[.int .i64 k, .int .i64 n, .slice A l.length cap] 79))
  clear hv hgs hj
  rcases hok with ⟨rfl, hlen, hn1⟩ | ⟨rfl, hlen, hn1⟩ | ⟨rfl, hlen, hn1⟩ | ⟨rfl, hlen, hn1⟩ | ⟨rfl, hlen, hn1⟩ | ⟨rfl, hlen, hn1⟩
  · have C1 := rParts 1 n A l.length cap (w.alloc (.cells #[.int .i64 1, .int .i64 n, .slice A l.length cap] 79)) (by simp)
    rw [show partsOf 1 = l.length by rw [hlen]; rfl] at C1
    replace C1 := Lib.hid C1
    replace hlen := Lib.hid hlen
    replace hn1 := Lib.hid hn1
    go_enter Tryz.func80, Tryz.ntmps80
    go_wp2_with fail
    refine C1.out.mono ?_
    rintro _ w1 ⟨rfl, b1⟩
    have W1 := VB.call W0.out b1
    have J1 := VB.call J0.out b1
    have B1 := Lib.hid (B.call B0.out b1)
    have q0 := W1.cell 0
    have q1 := W1.cell 1
    have q2 := W1.cell 2
    have j10 := J1.cell 10
    have jf10 := J1.free 10
    simp [Jx.cells] at q0 q1 q2 j10
    have W1 := Lib.hid W1
    have J1 := Lib.hid J1
    clear b1 C1
    have hnn : ¬ n < 0 := by have := hn1.out; omega
    have hnb : ¬ 4294967295 < n := by have := hn1.out; omega
    have S1 : Below w1.heap.size w1 (w1.setCell ⟨g, 10, none⟩ (.bool (decide (n < 0) || decide (4294967295 < n)))) := by
      rw [show (decide (n < 0) || decide (4294967295 < n)) = false by simp; omega]
      exact Below.same (B := w1.heap.size) J1.out (i := 10) (v := .bool false) rfl
    replace S1 := Lib.hid S1
    go_wp2_with fail
    go_loopw [5] (fun q wr => ∃ i : Nat, q = .int .i64 (i : Int) ∧ i ≤ l.length ∧ Below w.heap.size w wr ∧ VB wr w.heap.size 79 #[.int .i64 1, .int .i64 n, .slice A l.length cap] ∧ JAt wr g j)
      (fun q _ => l.length - (intOf q).toNat)
    case atStart => exact ⟨0, rfl, by omega, B.call B1.out S1.out, VB.call W1.out S1.out, VB.call J1.out S1.out⟩
    case round =>
      obtain ⟨i, rfl, hi, hb1, hv1, hj1⟩ := hrel
      have z2 := hv1.cell 2
      simp at z2
      by_cases hil : i < l.length
      · obtain ⟨b, off, k', n', A1, k1, l1, rfl, hbw, d0, d1, d2, hat⟩ := (hl.out.below hb1).elemAt i hil
        have hc := ih.out l[i] (List.getElem_mem hil) S wr _ g j hj1 hat (hgm.out _ (List.getElem_mem hil)) hb.out
        replace hc := Lib.hid hc
        have hb1 := Lib.hid hb1
        have hv1 := Lib.hid hv1
        have hj1 := Lib.hid hj1
        clear hat
        go_wp2_with fail
        refine hc.out.mono ?_
        rintro _ w3 ⟨rfl, b3⟩
        go_wp2_with fail
        go_roundw
        case measure => simp only [intOf]; omega
        case rel => exact ⟨i + 1, rfl, by omega, B.call hb1.out b3, VB.call hv1.out b3, VB.call hj1.out b3⟩
      · have hie : i = l.length := by omega
        replace hb1 := Lib.hid hb1
        replace hv1 := Lib.hid hv1
        replace hj1 := Lib.hid hj1
        go_wp2_with fail
        go_returns
        exact ⟨rfl, hb1.out⟩
  · have C1 := rParts 2 n A l.length cap (w.alloc (.cells #[.int .i64 2, .int .i64 n, .slice A l.length cap] 79)) (by simp)
    rw [show partsOf 2 = l.length by rw [hlen]; rfl] at C1
    replace C1 := Lib.hid C1
    replace hlen := Lib.hid hlen
    replace hn1 := Lib.hid hn1
    go_enter Tryz.func80, Tryz.ntmps80
    go_wp2_with fail
    refine C1.out.mono ?_
    rintro _ w1 ⟨rfl, b1⟩
    have W1 := VB.call W0.out b1
    have J1 := VB.call J0.out b1
    have B1 := Lib.hid (B.call B0.out b1)
    have q0 := W1.cell 0
    have q1 := W1.cell 1
    have q2 := W1.cell 2
    have j10 := J1.cell 10
    have jf10 := J1.free 10
    simp [Jx.cells] at q0 q1 q2 j10
    have W1 := Lib.hid W1
    have J1 := Lib.hid J1
    clear b1 C1
    have C2 := Lib.hid (rVariable w1 g j n J1.out hn1.out.1 hn1.out.2 hb.out)
    go_wp2_with fail
    refine C2.out.mono ?_
    rintro _ w2 ⟨rfl, b2⟩
    have S1 := Lib.hid b2
    clear b2
    go_wp2_with fail
    go_loopw [5] (fun q wr => ∃ i : Nat, q = .int .i64 (i : Int) ∧ i ≤ l.length ∧ Below w.heap.size w wr ∧ VB wr w.heap.size 79 #[.int .i64 2, .int .i64 n, .slice A l.length cap] ∧ JAt wr g j)
      (fun q _ => l.length - (intOf q).toNat)
    case atStart => exact ⟨0, rfl, by omega, B.call B1.out S1.out, VB.call W1.out S1.out, VB.call J1.out S1.out⟩
    case round =>
      obtain ⟨i, rfl, hi, hb1, hv1, hj1⟩ := hrel
      have z2 := hv1.cell 2
      simp at z2
      by_cases hil : i < l.length
      · obtain ⟨b, off, k', n', A1, k1, l1, rfl, hbw, d0, d1, d2, hat⟩ := (hl.out.below hb1).elemAt i hil
        have hc := ih.out l[i] (List.getElem_mem hil) S wr _ g j hj1 hat (hgm.out _ (List.getElem_mem hil)) hb.out
        replace hc := Lib.hid hc
        have hb1 := Lib.hid hb1
        have hv1 := Lib.hid hv1
        have hj1 := Lib.hid hj1
        clear hat
        go_wp2_with fail
        refine hc.out.mono ?_
        rintro _ w3 ⟨rfl, b3⟩
        go_wp2_with fail
        go_roundw
        case measure => simp only [intOf]; omega
        case rel => exact ⟨i + 1, rfl, by omega, B.call hb1.out b3, VB.call hv1.out b3, VB.call hj1.out b3⟩
      · have hie : i = l.length := by omega
        replace hb1 := Lib.hid hb1
        replace hv1 := Lib.hid hv1
        replace hj1 := Lib.hid hj1
        go_wp2_with fail
        go_returns
        exact ⟨rfl, hb1.out⟩
  · have C1 := rParts 3 n A l.length cap (w.alloc (.cells #[.int .i64 3, .int .i64 n, .slice A l.length cap] 79)) (by simp)
    rw [show partsOf 3 = l.length by rw [hlen]; rfl] at C1
    replace C1 := Lib.hid C1
    replace hlen := Lib.hid hlen
    replace hn1 := Lib.hid hn1
    go_enter Tryz.func80, Tryz.ntmps80
    go_wp2_with fail
    refine C1.out.mono ?_
    rintro _ w1 ⟨rfl, b1⟩
    have W1 := VB.call W0.out b1
    have J1 := VB.call J0.out b1
    have B1 := Lib.hid (B.call B0.out b1)
    have q0 := W1.cell 0
    have q1 := W1.cell 1
    have q2 := W1.cell 2
    have j10 := J1.cell 10
    have jf10 := J1.free 10
    simp [Jx.cells] at q0 q1 q2 j10
    have W1 := Lib.hid W1
    have J1 := Lib.hid J1
    clear b1 C1
    have C2 := Lib.hid (rGlobal w1 g j n J1.out hn1.out.1 hn1.out.2)
    go_wp2_with fail
    refine C2.out.mono ?_
    rintro _ w2 ⟨rfl, b2⟩
    have S1 := Lib.hid b2
    clear b2
    go_wp2_with fail
    go_loopw [5] (fun q wr => ∃ i : Nat, q = .int .i64 (i : Int) ∧ i ≤ l.length ∧ Below w.heap.size w wr ∧ VB wr w.heap.size 79 #[.int .i64 3, .int .i64 n, .slice A l.length cap] ∧ JAt wr g j)
      (fun q _ => l.length - (intOf q).toNat)
    case atStart => exact ⟨0, rfl, by omega, B.call B1.out S1.out, VB.call W1.out S1.out, VB.call J1.out S1.out⟩
    case round =>
      obtain ⟨i, rfl, hi, hb1, hv1, hj1⟩ := hrel
      have z2 := hv1.cell 2
      simp at z2
      by_cases hil : i < l.length
      · obtain ⟨b, off, k', n', A1, k1, l1, rfl, hbw, d0, d1, d2, hat⟩ := (hl.out.below hb1).elemAt i hil
        have hc := ih.out l[i] (List.getElem_mem hil) S wr _ g j hj1 hat (hgm.out _ (List.getElem_mem hil)) hb.out
        replace hc := Lib.hid hc
        have hb1 := Lib.hid hb1
        have hv1 := Lib.hid hv1
        have hj1 := Lib.hid hj1
        clear hat
        go_wp2_with fail
        refine hc.out.mono ?_
        rintro _ w3 ⟨rfl, b3⟩
        go_wp2_with fail
        go_roundw
        case measure => simp only [intOf]; omega
        case rel => exact ⟨i + 1, rfl, by omega, B.call hb1.out b3, VB.call hv1.out b3, VB.call hj1.out b3⟩
      · have hie : i = l.length := by omega
        replace hb1 := Lib.hid hb1
        replace hv1 := Lib.hid hv1
        replace hj1 := Lib.hid hj1
        go_wp2_with fail
        go_returns
        exact ⟨rfl, hb1.out⟩
  · have C1 := rParts 4 n A l.length cap (w.alloc (.cells #[.int .i64 4, .int .i64 n, .slice A l.length cap] 79)) (by simp)
    rw [show partsOf 4 = l.length by rw [hlen]; rfl] at C1
    replace C1 := Lib.hid C1
    replace hlen := Lib.hid hlen
    replace hn1 := Lib.hid hn1
    go_enter Tryz.func80, Tryz.ntmps80
    go_wp2_with fail
    refine C1.out.mono ?_
    rintro _ w1 ⟨rfl, b1⟩
    have W1 := VB.call W0.out b1
    have J1 := VB.call J0.out b1
    have B1 := Lib.hid (B.call B0.out b1)
    have q0 := W1.cell 0
    have q1 := W1.cell 1
    have q2 := W1.cell 2
    have j10 := J1.cell 10
    have jf10 := J1.free 10
    simp [Jx.cells] at q0 q1 q2 j10
    have W1 := Lib.hid W1
    have J1 := Lib.hid J1
    clear b1 C1
    have hn0 : n = 0 := hn1.out
    subst hn0
    have S1 := Lib.hid (Below.same (B := w1.heap.size) J1.out (i := 10) (v := .bool false) rfl)
    go_wp2_with fail
    go_loopw [5] (fun q wr => ∃ i : Nat, q = .int .i64 (i : Int) ∧ i ≤ l.length ∧ Below w.heap.size w wr ∧ VB wr w.heap.size 79 #[.int .i64 4, .int .i64 0, .slice A l.length cap] ∧ JAt wr g j)
      (fun q _ => l.length - (intOf q).toNat)
    case atStart => exact ⟨0, rfl, by omega, B.call B1.out S1.out, VB.call W1.out S1.out, VB.call J1.out S1.out⟩
    case round =>
      obtain ⟨i, rfl, hi, hb1, hv1, hj1⟩ := hrel
      have z2 := hv1.cell 2
      simp at z2
      by_cases hil : i < l.length
      · obtain ⟨b, off, k', n', A1, k1, l1, rfl, hbw, d0, d1, d2, hat⟩ := (hl.out.below hb1).elemAt i hil
        have hc := ih.out l[i] (List.getElem_mem hil) S wr _ g j hj1 hat (hgm.out _ (List.getElem_mem hil)) hb.out
        replace hc := Lib.hid hc
        have hb1 := Lib.hid hb1
        have hv1 := Lib.hid hv1
        have hj1 := Lib.hid hj1
        clear hat
        go_wp2_with fail
        refine hc.out.mono ?_
        rintro _ w3 ⟨rfl, b3⟩
        go_wp2_with fail
        go_roundw
        case measure => simp only [intOf]; omega
        case rel => exact ⟨i + 1, rfl, by omega, B.call hb1.out b3, VB.call hv1.out b3, VB.call hj1.out b3⟩
      · have hie : i = l.length := by omega
        replace hb1 := Lib.hid hb1
        replace hv1 := Lib.hid hv1
        replace hj1 := Lib.hid hj1
        go_wp2_with fail
        go_returns
        exact ⟨rfl, hb1.out⟩
  · have C1 := rParts 6 n A l.length cap (w.alloc (.cells #[.int .i64 6, .int .i64 n, .slice A l.length cap] 79)) (by simp)
    rw [show partsOf 6 = l.length by rw [hlen]; rfl] at C1
    replace C1 := Lib.hid C1
    replace hlen := Lib.hid hlen
    replace hn1 := Lib.hid hn1
    go_enter Tryz.func80, Tryz.ntmps80
    go_wp2_with fail
    refine C1.out.mono ?_
    rintro _ w1 ⟨rfl, b1⟩
    have W1 := VB.call W0.out b1
    have J1 := VB.call J0.out b1
    have B1 := Lib.hid (B.call B0.out b1)
    have q0 := W1.cell 0
    have q1 := W1.cell 1
    have q2 := W1.cell 2
    have j10 := J1.cell 10
    have jf10 := J1.free 10
    simp [Jx.cells] at q0 q1 q2 j10
    have W1 := Lib.hid W1
    have J1 := Lib.hid J1
    clear b1 C1
    have C2 := fun w => rArity 6 n w (by simp) hn1.out
    rw [show partsOf 6 = l.length by rw [hlen.out]; rfl] at C2
    replace C2 := Lib.hid C2
    go_wp2_with fail
    refine (C2.out w1).mono ?_
    rintro _ w2 ⟨rfl, rfl⟩
    have S1 := Lib.hid (Below.same (B := w2.heap.size) J1.out (i := 10) (v := .bool false) rfl)
    go_wp2_with fail
    go_loopw [5] (fun q wr => ∃ i : Nat, q = .int .i64 (i : Int) ∧ i ≤ l.length ∧ Below w.heap.size w wr ∧ VB wr w.heap.size 79 #[.int .i64 6, .int .i64 n, .slice A l.length cap] ∧ JAt wr g j)
      (fun q _ => l.length - (intOf q).toNat)
    case atStart => exact ⟨0, rfl, by omega, B.call B1.out S1.out, VB.call W1.out S1.out, VB.call J1.out S1.out⟩
    case round =>
      obtain ⟨i, rfl, hi, hb1, hv1, hj1⟩ := hrel
      have z2 := hv1.cell 2
      simp at z2
      by_cases hil : i < l.length
      · obtain ⟨b, off, k', n', A1, k1, l1, rfl, hbw, d0, d1, d2, hat⟩ := (hl.out.below hb1).elemAt i hil
        have hc := ih.out l[i] (List.getElem_mem hil) S wr _ g j hj1 hat (hgm.out _ (List.getElem_mem hil)) hb.out
        replace hc := Lib.hid hc
        have hb1 := Lib.hid hb1
        have hv1 := Lib.hid hv1
        have hj1 := Lib.hid hj1
        clear hat
        go_wp2_with fail
        refine hc.out.mono ?_
        rintro _ w3 ⟨rfl, b3⟩
        go_wp2_with fail
        go_roundw
        case measure => simp only [intOf]; omega
        case rel => exact ⟨i + 1, rfl, by omega, B.call hb1.out b3, VB.call hv1.out b3, VB.call hj1.out b3⟩
      · have hie : i = l.length := by omega
        replace hb1 := Lib.hid hb1
        replace hv1 := Lib.hid hv1
        replace hj1 := Lib.hid hj1
        go_wp2_with fail
        go_returns
        exact ⟨rfl, hb1.out⟩
  · have C1 := rParts 7 n A l.length cap (w.alloc (.cells #[.int .i64 7, .int .i64 n, .slice A l.length cap] 79)) (by simp)
    rw [show partsOf 7 = l.length by rw [hlen]; rfl] at C1
    replace C1 := Lib.hid C1
    replace hlen := Lib.hid hlen
    replace hn1 := Lib.hid hn1
    go_enter Tryz.func80, Tryz.ntmps80
    go_wp2_with fail
    refine C1.out.mono ?_
    rintro _ w1 ⟨rfl, b1⟩
    have W1 := VB.call W0.out b1
    have J1 := VB.call J0.out b1
    have B1 := Lib.hid (B.call B0.out b1)
    have q0 := W1.cell 0
    have q1 := W1.cell 1
    have q2 := W1.cell 2
    have j10 := J1.cell 10
    have jf10 := J1.free 10
    simp [Jx.cells] at q0 q1 q2 j10
    have W1 := Lib.hid W1
    have J1 := Lib.hid J1
    clear b1 C1
    have C2 := fun w => rArity 7 n w (by simp) hn1.out
    rw [show partsOf 7 = l.length by rw [hlen.out]; rfl] at C2
    replace C2 := Lib.hid C2
    go_wp2_with fail
    refine (C2.out w1).mono ?_
    rintro _ w2 ⟨rfl, rfl⟩
    have S1 := Lib.hid (Below.same (B := w2.heap.size) J1.out (i := 10) (v := .bool false) rfl)
    go_wp2_with fail
    go_loopw [5] (fun q wr => ∃ i : Nat, q = .int .i64 (i : Int) ∧ i ≤ l.length ∧ Below w.heap.size w wr ∧ VB wr w.heap.size 79 #[.int .i64 7, .int .i64 n, .slice A l.length cap] ∧ JAt wr g j)
      (fun q _ => l.length - (intOf q).toNat)
    case atStart => exact ⟨0, rfl, by omega, B.call B1.out S1.out, VB.call W1.out S1.out, VB.call J1.out S1.out⟩
    case round =>
      obtain ⟨i, rfl, hi, hb1, hv1, hj1⟩ := hrel
      have z2 := hv1.cell 2
      simp at z2
      by_cases hil : i < l.length
      · obtain ⟨b, off, k', n', A1, k1, l1, rfl, hbw, d0, d1, d2, hat⟩ := (hl.out.below hb1).elemAt i hil
        have hc := ih.out l[i] (List.getElem_mem hil) S wr _ g j hj1 hat (hgm.out _ (List.getElem_mem hil)) hb.out
        replace hc := Lib.hid hc
        have hb1 := Lib.hid hb1
        have hv1 := Lib.hid hv1
        have hj1 := Lib.hid hj1
        clear hat
        go_wp2_with fail
        refine hc.out.mono ?_
        rintro _ w3 ⟨rfl, b3⟩
        go_wp2_with fail
        go_roundw
        case measure => simp only [intOf]; omega
        case rel => exact ⟨i + 1, rfl, by omega, B.call hb1.out b3, VB.call hv1.out b3, VB.call hj1.out b3⟩
      · have hie : i = l.length := by omega
        replace hb1 := Lib.hid hb1
        replace hv1 := Lib.hid hv1
        replace hj1 := Lib.hid hj1
        go_wp2_with fail
        go_returns
        exact ⟨rfl, hb1.out⟩

end Go.Proofs.YtgohnekaolgblaaGreat

/- Operations on words: contracts of gimletref03.One, Two at the operations that the code that collects uses (printed by wip/gen_rkb.py). -/
namespace Go.Proofs.YtgohnekaolgblaaGreat
open Go.RowKit

/-- What an operation tells of two words. -/
def rkTwoV (op : Int) (a b : Nat) : Nat :=
  if op = 70 ∨ op = 73 ∨ op = 79 then (if rkCmp op a b then 1 else 0) else if op = 106 then (a + b) % 4294967296 else if op = 107 then (a + 4294967296 - b) % 4294967296 else if op = 108 then a * b % 4294967296 else rkBitwise op a b
theorem rkBitwise_lt (op : Int) (a b : Nat) (ha : a < 4294967296) (hb : b < 4294967296) : rkBitwise op a b < 4294967296 := by
  unfold rkBitwise
  split
  · exact Nat.lt_of_le_of_lt Nat.and_le_left ha
  · split
    · have := Nat.or_lt_two_pow (x := a) (y := b) (n := 32) (by omega) (by omega); omega
    · split
      · exact Nat.mod_lt _ (by decide)
      · exact Nat.lt_of_le_of_lt (Nat.div_le_self _ _) ha
theorem half_step (r j : Nat) : 2 * (r / 2 ^ (j + 1)) + r / 2 ^ j % 2 = r / 2 ^ j := by
  rw [Nat.pow_succ, ← Nat.div_div_eq_div_mul]; omega

theorem rkOne (a : Nat) (w : World) : Calls Tryz.prog 100 #[.int .i64 69, .int .u32 (a : Int)] w fun e w' => e = .returned (.tuple #[.int .u32 (rkB (decide ((a : Int) = 0))), .int .i64 0]) ∧ w' = w := by
  have C1 := rArity 6 69 w (by simp) (by simp [opsOf])
  replace C1 : Calls Tryz.prog 90 #[.int .i64 69] w fun e w' => e = .returned (.int .i64 1) ∧ w' = w := C1
  replace C1 := Lib.hid C1
  have C2 := rkTruth (decide ((a : Int) = 0)) w
  obtain ⟨c, hc⟩ : ∃ c, c = decide ((a : Int) = 0) := ⟨_, rfl⟩
  rw [← hc] at C2 ⊢
  have hc2 : ((a : Int) == 0) = c := by rw [hc]; rfl
  replace C2 := Lib.hid C2
  clear hc
  go_enter Tryz.func100, Tryz.ntmps100
  go_wp2_with fail
  refine C1.out.mono ?_
  rintro _ w1 ⟨rfl, rfl⟩
  go_wp2_with fail
  refine C2.out.mono ?_
  rintro _ w2 ⟨rfl, rfl⟩
  go_wp2_with fail
  go_returns
  exact ⟨rfl, rfl⟩

set_option maxRecDepth 100000 in
set_option maxHeartbeats 8000000 in
theorem rkTwo (op : Int) (a b : Nat) (w : World) (hop : op ∈ opsOf 7) (ha : a < 4294967296) (hb : b < 4294967296) (hm : op = 108 → a < 2147483648 ∧ b < 2147483648) :
    Calls Tryz.prog 101 #[.int .i64 op, .int .u32 (a : Int), .int .u32 (b : Int)] w fun e w' => e = .returned (.tuple #[.int .u32 (rkTwoV op a b : Nat), .int .i64 0]) ∧ w' = w := by
  have C1 := rArity 7 op w (by simp) hop
  replace C1 : Calls Tryz.prog 90 #[.int .i64 op] w fun e w' => e = .returned (.int .i64 2) ∧ w' = w := C1
  replace C1 := Lib.hid C1
  have haI : 0 ≤ (a : Int) ∧ (a : Int) < 4294967296 := by omega
  have hbI : 0 ≤ (b : Int) ∧ (b : Int) < 4294967296 := by omega
  have hn : op = 70 ∨ op = 73 ∨ op = 79 ∨ op = 106 ∨ op = 107 ∨ op = 108 ∨ op = 113 ∨ op = 114 ∨ op = 116 ∨ op = 118 := by simpa [opsOf] using hop
  rcases hn with rfl | rfl | rfl | rfl | rfl | rfl | rfl | rfl | rfl | rfl
  · have C2 := Lib.hid (rkCompares 70 (a : Int) (b : Int) w (by simp))
    have C3 := rkTruth (rkCmp 70 (a : Int) (b : Int)) w
    have e : ((rkTwoV 70 a b : Nat) : Int) = rkB (rkCmp 70 a b) := by
      unfold rkTwoV rkB
      rw [if_pos (by simp)]
      split <;> rfl
    rw [e]
    generalize rkCmp 70 (a : Int) (b : Int) = c at *
    replace C3 := Lib.hid C3
    clear e hm hop
    go_enter Tryz.func101, Tryz.ntmps101
    go_wp2_with fail
    refine C1.out.mono ?_
    rintro _ w1 ⟨rfl, rfl⟩
    go_wp2_with fail
    refine C2.out.mono ?_
    rintro _ w2 ⟨rfl, rfl⟩
    go_wp2_with fail
    refine C3.out.mono ?_
    rintro _ w3 ⟨rfl, rfl⟩
    go_wp2_with fail
    go_returns
    exact ⟨rfl, rfl⟩
  · have C2 := Lib.hid (rkCompares 73 (a : Int) (b : Int) w (by simp))
    have C3 := rkTruth (rkCmp 73 (a : Int) (b : Int)) w
    have e : ((rkTwoV 73 a b : Nat) : Int) = rkB (rkCmp 73 a b) := by
      unfold rkTwoV rkB
      rw [if_pos (by simp)]
      split <;> rfl
    rw [e]
    generalize rkCmp 73 (a : Int) (b : Int) = c at *
    replace C3 := Lib.hid C3
    clear e hm hop
    go_enter Tryz.func101, Tryz.ntmps101
    go_wp2_with fail
    refine C1.out.mono ?_
    rintro _ w1 ⟨rfl, rfl⟩
    go_wp2_with fail
    refine C2.out.mono ?_
    rintro _ w2 ⟨rfl, rfl⟩
    go_wp2_with fail
    refine C3.out.mono ?_
    rintro _ w3 ⟨rfl, rfl⟩
    go_wp2_with fail
    go_returns
    exact ⟨rfl, rfl⟩
  · have C2 := Lib.hid (rkCompares 79 (a : Int) (b : Int) w (by simp))
    have C3 := rkTruth (rkCmp 79 (a : Int) (b : Int)) w
    have e : ((rkTwoV 79 a b : Nat) : Int) = rkB (rkCmp 79 a b) := by
      unfold rkTwoV rkB
      rw [if_pos (by simp)]
      split <;> rfl
    rw [e]
    generalize rkCmp 79 (a : Int) (b : Int) = c at *
    replace C3 := Lib.hid C3
    clear e hm hop
    go_enter Tryz.func101, Tryz.ntmps101
    go_wp2_with fail
    refine C1.out.mono ?_
    rintro _ w1 ⟨rfl, rfl⟩
    go_wp2_with fail
    refine C2.out.mono ?_
    rintro _ w2 ⟨rfl, rfl⟩
    go_wp2_with fail
    refine C3.out.mono ?_
    rintro _ w3 ⟨rfl, rfl⟩
    go_wp2_with fail
    go_returns
    exact ⟨rfl, rfl⟩
  · have C2 := Lib.hid (rkWord ((a : Int) + b) w)
    have e : ((rkTwoV 106 a b : Nat) : Int) = ((a : Int) + b) % 4294967296 := by simp [rkTwoV]
    rw [e]
    clear e hm hop
    go_enter Tryz.func101, Tryz.ntmps101
    go_wp2_with fail
    refine C1.out.mono ?_
    rintro _ w1 ⟨rfl, rfl⟩
    go_wp2_with fail
    refine C2.out.mono ?_
    rintro _ w2 ⟨rfl, rfl⟩
    go_wp2_with fail
    go_returns
    exact ⟨rfl, rfl⟩
  · have C2 := Lib.hid (rkWord ((a : Int) - b) w)
    have e : ((rkTwoV 107 a b : Nat) : Int) = ((a : Int) - b) % 4294967296 := by simp [rkTwoV]; omega
    rw [e]
    clear e hm hop
    go_enter Tryz.func101, Tryz.ntmps101
    go_wp2_with fail
    refine C1.out.mono ?_
    rintro _ w1 ⟨rfl, rfl⟩
    go_wp2_with fail
    refine C2.out.mono ?_
    rintro _ w2 ⟨rfl, rfl⟩
    go_wp2_with fail
    go_returns
    exact ⟨rfl, rfl⟩
  · obtain ⟨m1, m2⟩ := hm rfl
    have C2 := Lib.hid (rkSigned (a : Int) w (by omega))
    have C3 := Lib.hid (rkSigned (b : Int) w (by omega))
    have hp : 0 ≤ (a : Int) * b ∧ (a : Int) * b ≤ 4611686018427387904 := by
      have h1 : a * b ≤ 2147483648 * 2147483648 := Nat.mul_le_mul (by omega) (by omega)
      have h2 : (a : Int) * b = ((a * b : Nat) : Int) := by push_cast; rfl
      omega
    have C4 := Lib.hid (rkWord ((a : Int) * b) w)
    have e : ((rkTwoV 108 a b : Nat) : Int) = ((a : Int) * b) % 4294967296 := by simp [rkTwoV]
    rw [e]
    clear e hm hop
    go_enter Tryz.func101, Tryz.ntmps101
    go_wp2_with fail
    refine C1.out.mono ?_
    rintro _ w1 ⟨rfl, rfl⟩
    go_wp2_with fail
    refine C2.out.mono ?_
    rintro _ w2 ⟨rfl, rfl⟩
    go_wp2_with fail
    refine C3.out.mono ?_
    rintro _ w3 ⟨rfl, rfl⟩
    go_wp2_with fail
    refine C4.out.mono ?_
    rintro _ w4 ⟨rfl, rfl⟩
    go_wp2_with fail
    go_returns
    exact ⟨rfl, rfl⟩
  · have CB := fun i hi => rkBits 113 a b i w (by simp) ha hb hi
    have hlt := rkBitwise_lt 113 a b ha hb
    have e : rkTwoV 113 a b = rkBitwise 113 a b := by simp [rkTwoV]
    rw [e]
    generalize rkBitwise 113 a b = r at *
    replace CB := Lib.hid CB
    clear e hm hop
    go_enter Tryz.func101, Tryz.ntmps101
    go_wp2_with fail
    refine C1.out.mono ?_
    rintro _ w1 ⟨rfl, rfl⟩
    go_wp2_with fail
    go_loopw [8, 9] (fun n q wr => ∃ j : Nat, q = .int .i64 ((j : Int) - 1) ∧ n = .int .i64 ((r / 2 ^ j : Nat) : Int) ∧ j ≤ 32 ∧ wr = w1)
      (fun _ q _ => (intOf q + 1).toNat)
    case atStart => exact ⟨32, rfl, by rw [Nat.div_eq_of_lt (by omega)]; rfl, by omega, rfl⟩
    case round =>
      obtain ⟨j, rfl, rfl, hj, rfl⟩ := hrel
      cases j with
      | zero =>
        simp only [Nat.pow_zero, Nat.div_one]
        have hrI : (r : Int) < 4294967296 := by omega
        go_wp2_with fail
        go_returns
        exact ⟨rfl, rfl⟩
      | succ j =>
        have hs := half_step r j
        have hb1 : r / 2 ^ (j + 1) < 4294967296 := Nat.lt_of_le_of_lt (Nat.div_le_self _ _) hlt
        have hb2 : r / 2 ^ j % 2 < 2 := Nat.mod_lt _ (by decide)
        have C2 := Lib.hid (CB.out j (by omega))
        rw [show ((j + 1 : Nat) : Int) - 1 = (j : Int) by omega]
        generalize r / 2 ^ (j + 1) = m at *
        generalize r / 2 ^ j % 2 = d at *
        have hb3 : (m : Int) < 4294967296 := by omega
        have hb4 : (d : Int) < 2 := by omega
        have hs2 := Lib.hid (show (2 * (m : Int) + d) = ((r / 2 ^ j : Nat) : Int) by rw [← hs]; push_cast; rfl)
        have hjI : (j : Int) < 32 := by omega
        clear hs hb1 hb2 hlt
        go_wp2_with fail
        refine C2.out.mono ?_
        rintro _ w3 ⟨rfl, rfl⟩
        go_wp2_with fail
        go_roundw
        case measure => simp only [intOf]; omega
        case rel => exact ⟨j, rfl, by rw [← hs2.out], by omega, by first | rfl | trivial⟩
  · have CB := fun i hi => rkBits 114 a b i w (by simp) ha hb hi
    have hlt := rkBitwise_lt 114 a b ha hb
    have e : rkTwoV 114 a b = rkBitwise 114 a b := by simp [rkTwoV]
    rw [e]
    generalize rkBitwise 114 a b = r at *
    replace CB := Lib.hid CB
    clear e hm hop
    go_enter Tryz.func101, Tryz.ntmps101
    go_wp2_with fail
    refine C1.out.mono ?_
    rintro _ w1 ⟨rfl, rfl⟩
    go_wp2_with fail
    go_loopw [8, 9] (fun n q wr => ∃ j : Nat, q = .int .i64 ((j : Int) - 1) ∧ n = .int .i64 ((r / 2 ^ j : Nat) : Int) ∧ j ≤ 32 ∧ wr = w1)
      (fun _ q _ => (intOf q + 1).toNat)
    case atStart => exact ⟨32, rfl, by rw [Nat.div_eq_of_lt (by omega)]; rfl, by omega, rfl⟩
    case round =>
      obtain ⟨j, rfl, rfl, hj, rfl⟩ := hrel
      cases j with
      | zero =>
        simp only [Nat.pow_zero, Nat.div_one]
        have hrI : (r : Int) < 4294967296 := by omega
        go_wp2_with fail
        go_returns
        exact ⟨rfl, rfl⟩
      | succ j =>
        have hs := half_step r j
        have hb1 : r / 2 ^ (j + 1) < 4294967296 := Nat.lt_of_le_of_lt (Nat.div_le_self _ _) hlt
        have hb2 : r / 2 ^ j % 2 < 2 := Nat.mod_lt _ (by decide)
        have C2 := Lib.hid (CB.out j (by omega))
        rw [show ((j + 1 : Nat) : Int) - 1 = (j : Int) by omega]
        generalize r / 2 ^ (j + 1) = m at *
        generalize r / 2 ^ j % 2 = d at *
        have hb3 : (m : Int) < 4294967296 := by omega
        have hb4 : (d : Int) < 2 := by omega
        have hs2 := Lib.hid (show (2 * (m : Int) + d) = ((r / 2 ^ j : Nat) : Int) by rw [← hs]; push_cast; rfl)
        have hjI : (j : Int) < 32 := by omega
        clear hs hb1 hb2 hlt
        go_wp2_with fail
        refine C2.out.mono ?_
        rintro _ w3 ⟨rfl, rfl⟩
        go_wp2_with fail
        go_roundw
        case measure => simp only [intOf]; omega
        case rel => exact ⟨j, rfl, by rw [← hs2.out], by omega, by first | rfl | trivial⟩
  · have CB := fun i hi => rkBits 116 a b i w (by simp) ha hb hi
    have hlt := rkBitwise_lt 116 a b ha hb
    have e : rkTwoV 116 a b = rkBitwise 116 a b := by simp [rkTwoV]
    rw [e]
    generalize rkBitwise 116 a b = r at *
    replace CB := Lib.hid CB
    clear e hm hop
    go_enter Tryz.func101, Tryz.ntmps101
    go_wp2_with fail
    refine C1.out.mono ?_
    rintro _ w1 ⟨rfl, rfl⟩
    go_wp2_with fail
    go_loopw [8, 9] (fun n q wr => ∃ j : Nat, q = .int .i64 ((j : Int) - 1) ∧ n = .int .i64 ((r / 2 ^ j : Nat) : Int) ∧ j ≤ 32 ∧ wr = w1)
      (fun _ q _ => (intOf q + 1).toNat)
    case atStart => exact ⟨32, rfl, by rw [Nat.div_eq_of_lt (by omega)]; rfl, by omega, rfl⟩
    case round =>
      obtain ⟨j, rfl, rfl, hj, rfl⟩ := hrel
      cases j with
      | zero =>
        simp only [Nat.pow_zero, Nat.div_one]
        have hrI : (r : Int) < 4294967296 := by omega
        go_wp2_with fail
        go_returns
        exact ⟨rfl, rfl⟩
      | succ j =>
        have hs := half_step r j
        have hb1 : r / 2 ^ (j + 1) < 4294967296 := Nat.lt_of_le_of_lt (Nat.div_le_self _ _) hlt
        have hb2 : r / 2 ^ j % 2 < 2 := Nat.mod_lt _ (by decide)
        have C2 := Lib.hid (CB.out j (by omega))
        rw [show ((j + 1 : Nat) : Int) - 1 = (j : Int) by omega]
        generalize r / 2 ^ (j + 1) = m at *
        generalize r / 2 ^ j % 2 = d at *
        have hb3 : (m : Int) < 4294967296 := by omega
        have hb4 : (d : Int) < 2 := by omega
        have hs2 := Lib.hid (show (2 * (m : Int) + d) = ((r / 2 ^ j : Nat) : Int) by rw [← hs]; push_cast; rfl)
        have hjI : (j : Int) < 32 := by omega
        clear hs hb1 hb2 hlt
        go_wp2_with fail
        refine C2.out.mono ?_
        rintro _ w3 ⟨rfl, rfl⟩
        go_wp2_with fail
        go_roundw
        case measure => simp only [intOf]; omega
        case rel => exact ⟨j, rfl, by rw [← hs2.out], by omega, by first | rfl | trivial⟩
  · have CB := fun i hi => rkBits 118 a b i w (by simp) ha hb hi
    have hlt := rkBitwise_lt 118 a b ha hb
    have e : rkTwoV 118 a b = rkBitwise 118 a b := by simp [rkTwoV]
    rw [e]
    generalize rkBitwise 118 a b = r at *
    replace CB := Lib.hid CB
    clear e hm hop
    go_enter Tryz.func101, Tryz.ntmps101
    go_wp2_with fail
    refine C1.out.mono ?_
    rintro _ w1 ⟨rfl, rfl⟩
    go_wp2_with fail
    go_loopw [8, 9] (fun n q wr => ∃ j : Nat, q = .int .i64 ((j : Int) - 1) ∧ n = .int .i64 ((r / 2 ^ j : Nat) : Int) ∧ j ≤ 32 ∧ wr = w1)
      (fun _ q _ => (intOf q + 1).toNat)
    case atStart => exact ⟨32, rfl, by rw [Nat.div_eq_of_lt (by omega)]; rfl, by omega, rfl⟩
    case round =>
      obtain ⟨j, rfl, rfl, hj, rfl⟩ := hrel
      cases j with
      | zero =>
        simp only [Nat.pow_zero, Nat.div_one]
        have hrI : (r : Int) < 4294967296 := by omega
        go_wp2_with fail
        go_returns
        exact ⟨rfl, rfl⟩
      | succ j =>
        have hs := half_step r j
        have hb1 : r / 2 ^ (j + 1) < 4294967296 := Nat.lt_of_le_of_lt (Nat.div_le_self _ _) hlt
        have hb2 : r / 2 ^ j % 2 < 2 := Nat.mod_lt _ (by decide)
        have C2 := Lib.hid (CB.out j (by omega))
        rw [show ((j + 1 : Nat) : Int) - 1 = (j : Int) by omega]
        generalize r / 2 ^ (j + 1) = m at *
        generalize r / 2 ^ j % 2 = d at *
        have hb3 : (m : Int) < 4294967296 := by omega
        have hb4 : (d : Int) < 2 := by omega
        have hs2 := Lib.hid (show (2 * (m : Int) + d) = ((r / 2 ^ j : Nat) : Int) by rw [← hs]; push_cast; rfl)
        have hjI : (j : Int) < 32 := by omega
        clear hs hb1 hb2 hlt
        go_wp2_with fail
        refine C2.out.mono ?_
        rintro _ w3 ⟨rfl, rfl⟩
        go_wp2_with fail
        go_roundw
        case measure => simp only [intOf]; omega
        case rel => exact ⟨j, rfl, by rw [← hs2.out], by omega, by first | rfl | trivial⟩

end Go.Proofs.YtgohnekaolgblaaGreat
