/- Which things may be: contracts (gimletref28.args, fields, names), where they may (printed by wip/gen_cke.py). -/
import Derived.Test.YtgohnekaolgblaaGreatQ09
import Derived.Test.YtgohnekaolgblaaGreatQ11
namespace Go.Proofs.YtgohnekaolgblaaGreat
open Go.RowKit

/-- How many expressions a thing has. -/
def argsOf (k : Int) : Nat := if k = 6 ∨ k = 7 then 0 else if k = 3 then 2 else 1
/-- A thing may be, but for what is in it: so many variables, lasting words, functions' parameters, loops; its fields, how many expressions, how many things it has. -/
def loOk (nv ng : Int) (ps : List Int) (loops k x n : Int) (na nl : Nat) : Prop :=
  (k = 1 ∧ na = 1 ∧ n = 0 ∧ nl = 0 ∧ 0 ≤ x ∧ x < nv) ∨ (k = 2 ∧ na = 1 ∧ n = 0 ∧ nl = 0 ∧ 0 ≤ x ∧ x < ng) ∨ (k = 3 ∧ na = 2 ∧ x = 0 ∧ n = 0 ∧ nl = 0) ∨ (k = 5 ∧ na = 1 ∧ x = 0 ∧ n = 0) ∨ (k = 6 ∧ na = 0 ∧ x = 0 ∧ n = 0) ∨
  (k = 7 ∧ na = 0 ∧ x = 0 ∧ n = 0 ∧ nl = 0 ∧ 0 < loops) ∨ (k = 9 ∧ na = 1 ∧ x = 0 ∧ n = 0 ∧ nl = 0) ∨ (k = 10 ∧ nl = 0 ∧ 0 ≤ x ∧ x < nv ∧ 0 ≤ n ∧ ps[n.toNat]? = some (na : Int)) ∨ (k = 13 ∧ na = 1 ∧ x = 0 ∧ n = 0 ∧ nl = 0)

theorem rArgs (k x n : Int) (A1 A2 : Option Addr) (na c1 nl c2 : Nat) (nv ng : Int) (ps : List Int) (loops : Int) (w : World) (hok : loOk nv ng ps loops k x n na nl) :
    Calls Tryz.prog 77 #[.agg #[.int .i64 k, .int .i64 x, .int .i64 n, .slice A1 na c1, .slice A2 nl c2, .slice none 0 0]] w fun e w' => ∃ lo : Int, e = .returned (.tuple #[.int .i64 lo, .int .i64 na]) ∧ 0 ≤ lo ∧ lo ≤ na ∧ Below w.heap.size w w' := by
  have hb := Lib.hid (B.alloc (B.refl w) (.cells #[.int .i64 k, .int .i64 x, .int .i64 n, .slice A1 na c1, .slice A2 nl c2, .slice none 0 0] 77))
  have hq := fun m => Lib.hid (show Below w.heap.size w ((w.alloc (.cells #[.int .i64 k, .int .i64 x, .int .i64 n, .slice A1 na c1, .slice A2 nl c2, .slice none 0 0] 77)).drewN m) from ⟨rfl, rfl, rfl, hb.out.size, hb.out.block⟩)
  rcases hok with ⟨rfl, rfl, rfl, rfl, hx1, hx2⟩ | ⟨rfl, rfl, rfl, rfl, hx1, hx2⟩ | ⟨rfl, rfl, rfl, rfl, rfl⟩ | ⟨rfl, rfl, rfl, rfl⟩ | ⟨rfl, rfl, rfl, rfl⟩ | ⟨rfl, rfl, rfl, rfl, rfl, hlp⟩ | ⟨rfl, rfl, rfl, rfl, rfl⟩ | ⟨rfl, rfl, hx1, hx2, hn1, hps⟩ | ⟨rfl, rfl, rfl, rfl, rfl⟩
  · go_enter Tryz.func77, Tryz.ntmps77
    go_wp2_with fail
    go_returns
    exact ⟨1, rfl, by omega, by omega, hb.out⟩
  · go_enter Tryz.func77, Tryz.ntmps77
    go_wp2_with fail
    go_returns
    exact ⟨1, rfl, by omega, by omega, hb.out⟩
  · go_enter Tryz.func77, Tryz.ntmps77
    go_wp2_with fail
    go_returns
    exact ⟨2, rfl, by omega, by omega, hb.out⟩
  · go_enter Tryz.func77, Tryz.ntmps77
    go_wp2_with fail
    go_returns
    exact ⟨1, rfl, by omega, by omega, hb.out⟩
  · go_enter Tryz.func77, Tryz.ntmps77
    go_wp2_with fail
    go_returns
    exact ⟨0, rfl, by omega, by omega, hb.out⟩
  · go_enter Tryz.func77, Tryz.ntmps77
    go_wp2_with fail
    go_returns
    exact ⟨0, rfl, by omega, by omega, hb.out⟩
  · go_enter Tryz.func77, Tryz.ntmps77
    go_wp2_with fail
    go_returns
    exact ⟨1, rfl, by omega, by omega, hb.out⟩
  · go_enter Tryz.func77, Tryz.ntmps77
    go_wp2_with fail
    go_quiet (fail)
    go_wp2_with fail
    go_returns
    exact ⟨0, rfl, by omega, by omega, (hq _).out⟩
  · go_enter Tryz.func77, Tryz.ntmps77
    go_wp2_with fail
    go_returns
    exact ⟨1, rfl, by omega, by omega, hb.out⟩
set_option maxHeartbeats 4000000 in
theorem rFields (k x n : Int) (A1 A2 : Option Addr) (na c1 nl c2 : Nat) (nv ng : Int) (ps : List Int) (loops : Int) (w : World) (hok : loOk nv ng ps loops k x n na nl) :
    Calls Tryz.prog 78 #[.agg #[.int .i64 k, .int .i64 x, .int .i64 n, .slice A1 na c1, .slice A2 nl c2, .slice none 0 0]] w fun e w' => e = .returned (.bool false) ∧ Below w.heap.size w w' := by
  rcases hok with ⟨rfl, rfl, rfl, rfl, hx1, hx2⟩ | ⟨rfl, rfl, rfl, rfl, hx1, hx2⟩ | ⟨rfl, rfl, rfl, rfl, rfl⟩ | ⟨rfl, rfl, rfl, rfl⟩ | ⟨rfl, rfl, rfl, rfl⟩ | ⟨rfl, rfl, rfl, rfl, rfl, hlp⟩ | ⟨rfl, rfl, rfl, rfl, rfl⟩ | ⟨rfl, rfl, hx1, hx2, hn1, hps⟩ | ⟨rfl, rfl, rfl, rfl, rfl⟩
  · go_enter Tryz.func78, Tryz.ntmps78
    go_wp2_with fail
    all_goals go_returns
    all_goals exact ⟨by simp, B.alloc (B.refl w) _⟩
  · go_enter Tryz.func78, Tryz.ntmps78
    go_wp2_with fail
    all_goals go_returns
    all_goals exact ⟨by simp, B.alloc (B.refl w) _⟩
  · go_enter Tryz.func78, Tryz.ntmps78
    go_wp2_with fail
    all_goals go_returns
    all_goals exact ⟨by simp, B.alloc (B.refl w) _⟩
  · go_enter Tryz.func78, Tryz.ntmps78
    go_wp2_with fail
    all_goals go_returns
    all_goals exact ⟨by simp, B.alloc (B.refl w) _⟩
  · go_enter Tryz.func78, Tryz.ntmps78
    go_wp2_with fail
    all_goals go_returns
    all_goals exact ⟨by simp, B.alloc (B.refl w) _⟩
  · go_enter Tryz.func78, Tryz.ntmps78
    go_wp2_with fail
    all_goals go_returns
    all_goals exact ⟨by simp, B.alloc (B.refl w) _⟩
  · go_enter Tryz.func78, Tryz.ntmps78
    go_wp2_with fail
    all_goals go_returns
    all_goals exact ⟨by simp, B.alloc (B.refl w) _⟩
  · go_enter Tryz.func78, Tryz.ntmps78
    go_wp2_with fail
    all_goals go_returns
    all_goals exact ⟨by simp, B.alloc (B.refl w) _⟩
  · go_enter Tryz.func78, Tryz.ntmps78
    go_wp2_with fail
    all_goals go_returns
    all_goals exact ⟨by simp, B.alloc (B.refl w) _⟩

/-- One of a list of functions. -/
theorem FxL.elem {S : Nat → Prop} {w : World} {l : List Fx} {A : Option Addr} {cap : Nat} (h : FxL S w l (.slice A l.length cap)) (i : Nat) (hi : i < l.length) :
    ∃ b off A1 k1, A = some ⟨b, off, none⟩ ∧ b < w.heap.size ∧ S b ∧ w.cell? ⟨b, off + i * 3, none⟩ = some (.int .i64 l[i].p) ∧ w.cell? ⟨b, off + i * 3 + 1, none⟩ = some (.int .i64 l[i].n) ∧ w.cell? ⟨b, off + i * 3 + 2, none⟩ = some (.slice A1 l[i].l.length k1) ∧ LoL S w l[i].l (.slice A1 l[i].l.length k1) := by
  obtain ⟨A', cap', e, h1, h2, h3⟩ := h
  simp only [Value.slice.injEq, true_and] at e
  obtain ⟨rfl, rfl⟩ := e
  obtain ⟨b, off, rfl, hb, hS, ha⟩ := h3 (by intro e; subst e; simp at hi)
  have key : ∀ (l : List Fx) (off : Nat), Fx.ats S w l b off → ∀ i (hi : i < l.length), ∃ A1 k1, w.cell? ⟨b, off + i * 3, none⟩ = some (.int .i64 l[i].p) ∧ w.cell? ⟨b, off + i * 3 + 1, none⟩ = some (.int .i64 l[i].n) ∧ w.cell? ⟨b, off + i * 3 + 2, none⟩ = some (.slice A1 l[i].l.length k1) ∧ LoL S w l[i].l (.slice A1 l[i].l.length k1) := by
    intro l
    induction l with
    | nil => intro off _ i hi; simp at hi
    | cons t l ih =>
      intro off h i hi
      rw [Fx.ats] at h
      obtain ⟨⟨v0, v1, v2, c0, c1, c2, u, e, hu⟩, hl⟩ := h
      cases i with
      | zero =>
        simp only [Value.agg.injEq, Array.mk.injEq, List.cons.injEq, and_true] at e
        obtain ⟨rfl, rfl, rfl⟩ := e
        obtain ⟨A1, k1, rfl⟩ := hu.slice
        exact ⟨A1, k1, by simpa using c0, by simpa using c1, by simpa using c2, hu⟩
      | succ i =>
        obtain ⟨A1, k1, d0, d1, d2, d3⟩ := ih (off + 3) hl i (by simpa using hi)
        have e : off + 3 + i * 3 = off + (i + 1) * 3 := by omega
        rw [e] at d0 d1 d2
        exact ⟨A1, k1, by simpa using d0, by simpa using d1, by simpa using d2, by simpa using d3⟩
  obtain ⟨A1, k1, d0, d1, d2, d3⟩ := key l off ha i hi
  exact ⟨b, off, A1, k1, rfl, hb, hS, d0, d1, d2, d3⟩

set_option maxHeartbeats 4000000 in
theorem rNames (S : Nat → Prop) (k x n : Int) (A1 A2 : Option Addr) (na c1 nl c2 : Nat) (fs : List Fx) (loops : Int) (g : Nat) (j : Jx) (w : World) (hok : loOk (j.fp + j.fl) j.ng (fs.map Fx.p) loops k x n na nl) (hj : JAt w g j) (hf : FxL S w fs (.slice j.uf fs.length j.cf)) (hnf : j.nf = fs.length)
    (hb : 0 ≤ j.fp ∧ j.fp ≤ 1000000 ∧ 0 ≤ j.fl ∧ j.fl ≤ 1000000) :
    Calls Tryz.prog 79 #[.pointer (some ⟨g, 0, none⟩), .agg #[.int .i64 k, .int .i64 x, .int .i64 n, .slice A1 na c1, .slice A2 nl c2, .slice none 0 0], .int .i64 loops] w fun e w' => e = .returned (.tuple #[]) ∧ Below w.heap.size w w' := by
  have B0 := Lib.hid (B.alloc (B.refl w) (.cells #[.int .i64 k, .int .i64 x, .int .i64 n, .slice A1 na c1, .slice A2 nl c2, .slice none 0 0] 77))
  have hglt := hj.lt
  have J0 := VB.alloc hj (.cells #[.int .i64 k, .int .i64 x, .int .i64 n, .slice A1 na c1, .slice A2 nl c2, .slice none 0 0] 77)
  have z0 := J0.cell 0
  have z9 := J0.cell 9
  have z10 := J0.cell 10
  have zf9 := J0.free 9
  have zf10 := J0.free 10
  simp [Jx.cells] at z0 z9 z10
  rw [hnf] at z0
  replace hf := Lib.hid hf
  have hbb := Lib.hid hb
  replace hj := Lib.hid hj
  have J0 := Lib.hid J0
  rcases hok with ⟨rfl, rfl, rfl, rfl, hx1, hx2⟩ | ⟨rfl, rfl, rfl, rfl, hx1, hx2⟩ | ⟨rfl, rfl, rfl, rfl, rfl⟩ | ⟨rfl, rfl, rfl, rfl⟩ | ⟨rfl, rfl, rfl, rfl⟩ | ⟨rfl, rfl, rfl, rfl, rfl, hlp⟩ | ⟨rfl, rfl, rfl, rfl, rfl⟩ | ⟨rfl, rfl, hx1, hx2, hn1, hps⟩ | ⟨rfl, rfl, rfl, rfl, rfl⟩
  · have C := Lib.hid (rVariable _ g j x J0.out hx1 hx2 hbb.out)
    clear hx1 hx2
    go_enter Tryz.func79, Tryz.ntmps79
    go_wp2_with fail
    refine C.out.mono ?_
    rintro _ w1 ⟨rfl, b1⟩
    have B1 := Lib.hid (B.call B0.out b1)
    clear b1 z0 z9 z10
    go_wp2_with fail
    go_returns
    exact ⟨rfl, B1.out⟩
  · have C := Lib.hid (rGlobal _ g j x J0.out hx1 hx2)
    clear hx1 hx2
    go_enter Tryz.func79, Tryz.ntmps79
    go_wp2_with fail
    refine C.out.mono ?_
    rintro _ w1 ⟨rfl, b1⟩
    have B1 := Lib.hid (B.call B0.out b1)
    clear b1 z0 z9 z10
    go_wp2_with fail
    go_returns
    exact ⟨rfl, B1.out⟩
  · have hj2 : True := trivial
    go_enter Tryz.func79, Tryz.ntmps79
    go_wp2_with fail
    go_returns
    exact ⟨rfl, Below.alloc (Below.same (B := w.heap.size) hj.out (i := 10) (v := .bool false) rfl) (by simp [World.setCell]) _⟩
  · clear z0 z9 z10
    go_enter Tryz.func79, Tryz.ntmps79
    go_wp2_with fail
    go_returns
    exact ⟨rfl, B0.out⟩
  · clear z0 z9 z10
    go_enter Tryz.func79, Tryz.ntmps79
    go_wp2_with fail
    go_returns
    exact ⟨rfl, B0.out⟩
  · have hj2 : True := trivial
    have hlp2 : ¬ loops ≤ 0 := by omega
    go_enter Tryz.func79, Tryz.ntmps79
    go_wp2_with fail
    go_returns
    exact ⟨rfl, Below.alloc (Below.same (B := w.heap.size) hj.out (i := 9) (v := .bool false) rfl) (by simp [World.setCell]) _⟩
  · clear z0 z9 z10
    go_enter Tryz.func79, Tryz.ntmps79
    go_wp2_with fail
    go_returns
    exact ⟨rfl, B0.out⟩
  · have C := Lib.hid (rVariable _ g j x J0.out hx1 hx2 hbb.out)
    clear hx1 hx2
    have hpn : n.toNat < fs.length ∧ (fs.map Fx.p)[n.toNat]? = some (na : Int) := ⟨by have := (List.getElem?_eq_some_iff.1 hps).1; simpa using this, hps⟩
    obtain ⟨hnl, hpe⟩ := hpn
    have hpe2 : fs[n.toNat].p = na := by simpa [List.getElem?_eq_getElem hnl] using hpe
    obtain ⟨b, off, A3, k3, hA, hbl, hSb, d0, -, -, -⟩ := hf.out.elem n.toNat hnl
    rw [hpe2] at d0
    have d0 := cellA d0 (.cells #[.int .i64 10, .int .i64 x, .int .i64 n, .slice A1 na c1, .slice A2 0 c2, .slice none 0 0] 77)
    obtain ⟨m, rfl⟩ : ∃ m : Nat, n = m := ⟨n.toNat, by omega⟩
    simp only [Int.toNat_natCast] at d0 hnl
    rw [hA] at z0
    have hnl2 : (m : Int) < fs.length := by omega
    have hnn : ¬ (m : Int) < 0 := by omega
    have W0 := Lib.hid (VB.new w 77 #[.int .i64 10, .int .i64 x, .int .i64 (m : Int), .slice A1 na c1, .slice A2 0 c2, .slice none 0 0])
    clear hps hpe hpe2 hnf
    go_enter Tryz.func79, Tryz.ntmps79
    go_wp2_with fail
    refine C.out.mono ?_
    rintro _ w1 ⟨rfl, b1⟩
    have y0 := cellK b1 z0
    have y9 := cellK b1 z9
    have e0 := cellK b1 d0
    have W1 := VB.call W0.out b1
    have q2 := W1.cell 2
    have q3 := W1.cell 3
    simp at q2 q3
    have B1 := Lib.hid (B.call B0.out b1)
    clear z0 z9 z10 d0 W1 b1 zf9 zf10
    go_wp2_with fail
    go_quiet (fail)
    go_wp2_with fail
    go_returns
    exact ⟨rfl, ⟨B1.out.os, B1.out.tape, B1.out.output, B1.out.size, B1.out.block⟩⟩
  · clear z0 z9 z10
    go_enter Tryz.func79, Tryz.ntmps79
    go_wp2_with fail
    go_returns
    exact ⟨rfl, B0.out⟩

end Go.Proofs.YtgohnekaolgblaaGreat
