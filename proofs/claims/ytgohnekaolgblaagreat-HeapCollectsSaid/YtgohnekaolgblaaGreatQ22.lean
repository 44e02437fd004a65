/- A program on words that may be: contract of gimletref28.Check (printed by wip/gen_ckg.py). -/
import Derived.Test.YtgohnekaolgblaaGreatQ21
namespace Go.Proofs.YtgohnekaolgblaaGreat
open Go.RowKit

/-- A function may be. -/
def Fx.ok (ng : Int) (ps : List Int) (f : Fx) : Prop := 0 ≤ f.p ∧ f.p ≤ 20 ∧ 0 ≤ f.n ∧ f.n ≤ 1000 ∧ Lo.goods (f.p + f.n) ng ps 0 f.l ∧ Lo.sizes f.l ≤ 32768 ∧ Lo.deeps f.l ≤ 200 ∧ Ex.nums (Lo.alls f.l) ≤ 32768 ∧ Ex.deeps (Lo.alls f.l) ≤ 200

theorem VB.set3of11 {w : World} {t : Nat} {T : TypeId} {a0 a1 a2 a3 a4 a5 a6 a7 a8 a9 a10 : Value} (h : VB w t T #[a0, a1, a2, a3, a4, a5, a6, a7, a8, a9, a10]) (x y z : Value) :
    VB (((w.setCell ⟨t, 5, none⟩ x).setCell ⟨t, 6, none⟩ y).setCell ⟨t, 7, none⟩ z) t T #[a0, a1, a2, a3, a4, x, y, z, a8, a9, a10] := ((h.set 5 x).set 6 y).set 7 z

set_option maxRecDepth 100000 in
set_option maxHeartbeats 16000000 in
theorem rCheck (S : Nat → Prop) (fs : List Fx) (A Ag Ad : Option Addr) (cf ng cg nd cd : Nat) (pages main : Int) (w : World) (hf : FxL S w fs (.slice A fs.length cf)) (hfs : fs.length ≤ 16384) (hng : ng ≤ 100) (hnd : nd ≤ 524288)
    (hok : ∀ f ∈ fs, f.ok ng (fs.map Fx.p)) (hm0 : 0 ≤ main) (hm1 : main.toNat < fs.length) (hm2 : fs[main.toNat].p = 0) (hp : 4 ≤ pages ∧ pages ≤ 65536) :
    Calls Tryz.prog 30 #[.agg #[.slice A fs.length cf, .slice Ag ng cg, .slice Ad nd cd, .int .i64 pages, .int .i64 main]] w fun e w' => e = .returned (.int .i64 0) ∧ Below w.heap.size w w' := by
  obtain ⟨S', hS'⟩ : ∃ S' : Nat → Prop, S' = fun b => S b ∧ b < w.heap.size := ⟨_, rfl⟩
  have hSw : ∀ b, S' b → b < w.heap.size := by subst hS'; exact fun b h => h.2
  replace hf : FxL S' w fs (.slice A fs.length cf) := hf.mono (by subst hS'; exact fun b hb hS => ⟨hS, hb⟩)
  clear hS'
  have hfsI : (fs.length : Int) ≤ 16384 := by omega
  have hngI : (ng : Int) ≤ 100 := by omega
  have hndI : (nd : Int) ≤ 524288 := by omega
  have P0 := VB.alloc (VB.new w 30 #[.slice A fs.length cf, .slice Ag ng cg, .slice Ad nd cd, .int .i64 pages, .int .i64 main]) (.cells #[.slice A fs.length cf, .slice Ag ng cg, .slice Ad nd cd, .int .i64 pages, .int .i64 main, .int .i64 0, .int .i64 0, .slice none 0 0, .bool false, .bool false, .bool false] 100)
  have J0 := VB.new (w.alloc (.cells #[.slice A fs.length cf, .slice Ag ng cg, .slice Ad nd cd, .int .i64 pages, .int .i64 main] 30)) 100 #[.slice A fs.length cf, .slice Ag ng cg, .slice Ad nd cd, .int .i64 pages, .int .i64 main, .int .i64 0, .int .i64 0, .slice none 0 0, .bool false, .bool false, .bool false]
  simp only [World.size_alloc] at J0
  have P1 := Lib.hid P0
  have J1 := Lib.hid J0
  have B1 := Lib.hid (B.alloc (B.alloc (B.refl w) (.cells #[.slice A fs.length cf, .slice Ag ng cg, .slice Ad nd cd, .int .i64 pages, .int .i64 main] 30)) (.cells #[.slice A fs.length cf, .slice Ag ng cg, .slice Ad nd cd, .int .i64 pages, .int .i64 main, .int .i64 0, .int .i64 0, .slice none 0 0, .bool false, .bool false, .bool false] 100))
  replace hf := Lib.hid hf
  replace hok := Lib.hid hok
  replace hm2 := Lib.hid hm2
  replace hm1 := Lib.hid hm1
  clear P0 J0 hfs hng hnd
  have hbv : (decide (16384 < (fs.length : Int)) || decide (100 < (ng : Int)) || decide (524288 < (nd : Int))) = false := by simp; omega
  go_enter Tryz.func30, Tryz.ntmps30
  go_wp2_with fail
  clear hbv
  go_loopw [4] (fun q wr => ∃ (i : Nat) (fp fl : Int) (ul : Option Addr) (nl cl : Nat), q = .int .i64 (i : Int) ∧ i ≤ fs.length ∧ Below w.heap.size w wr ∧ VB wr w.heap.size 30 #[.slice A fs.length cf, .slice Ag ng cg, .slice Ad nd cd, .int .i64 pages, .int .i64 main] ∧
      VB wr (w.heap.size + 1) 100 #[.slice A fs.length cf, .slice Ag ng cg, .slice Ad nd cd, .int .i64 pages, .int .i64 main, .int .i64 fp, .int .i64 fl, .slice ul nl cl, .bool false, .bool false, .bool false])
    (fun q _ => fs.length - (intOf q).toNat)
  case atStart => exact ⟨0, 0, 0, none, 0, 0, rfl, by omega, B1.out, P1.out, J1.out⟩
  case round =>
    clear P1 J1 B1
    obtain ⟨i, fp0, fl0, ul0, nl0, cl0, rfl, hi, B2, P2, J2⟩ := hrel
    have p0 := P2.cell 0
    have p3 := P2.cell 3
    have p4 := P2.cell 4
    have j8 := J2.cell 8
    have j9 := J2.cell 9
    have j10 := J2.cell 10
    have jf5 := J2.free 5
    have jf6 := J2.free 6
    have jf7 := J2.free 7
    have jf8 := J2.free 8
    have jf10 := J2.free 10
    have j5 := J2.cell 5
    have j6 := J2.cell 6
    have j7 := J2.cell 7
    simp at p0 p3 p4 j8 j9 j10 j5 j6 j7
    by_cases hil : i < fs.length
    · have hF2 := hf.out.below (Below.mono B2 (Nat.le_refl _))
      obtain ⟨b, off, A1, k1, rfl, hbl, -, d0, d1, d2, hL⟩ := hF2.elem i hil
      have hfo := hok.out fs[i] (List.getElem_mem hil)
      have hwo : ∃ wo, wo = wr := ⟨_, rfl⟩
      obtain ⟨wo, hwo⟩ := hwo
      subst hwo
      generalize fs[i] = f at *
      obtain ⟨fp, fn, fl⟩ := f
      simp only at d0 d1 d2 hL
      obtain ⟨ok1, ok2, ok3, ok4, ok5, ok6, ok7, ok8, ok9⟩ := hfo
      simp only at ok1 ok2 ok3 ok4 ok5 ok6 ok7 ok8 ok9
      have hlw : w.heap.size + 1 < wo.heap.size := J2.lt
      have X2 := Lib.hid (VB.new wo 81 #[.int .i64 fp, .int .i64 fn, .slice A1 fl.length k1])
      replace P2 := Lib.hid (P2.alloc (.cells #[.int .i64 fp, .int .i64 fn, .slice A1 fl.length k1] 81))
      replace J2 := Lib.hid (J2.alloc (.cells #[.int .i64 fp, .int .i64 fn, .slice A1 fl.length k1] 81))
      have hL2 := hL.alloc (.cells #[.int .i64 fp, .int .i64 fn, .slice A1 fl.length k1] 81)
      have hlen := Lib.hid (Ex.len_le (Lo.alls fl))
      replace B2 := Lib.hid (B.alloc B2 (.cells #[.int .i64 fp, .int .i64 fn, .slice A1 fl.length k1] 81))
      replace ok5 := Lib.hid ok5
      replace ok6 := Lib.hid ok6
      replace ok7 := Lib.hid ok7
      replace ok8 := Lib.hid ok8
      replace ok9 := Lib.hid ok9
      have hC := Lib.hid (rAll fl S' _ _ hL2 (fun b hb => by have := hSw b hb; simp; omega) (by have := ok8.out; have := hlen.out; omega) (by have := ok6.out; omega))
      replace hL2 := Lib.hid hL2
      clear hL
      go_wp2_with fail
      refine hC.out.mono ?_
      rintro _ w1 ⟨u1, rfl, hown, b1⟩
      replace hown := Lib.hid hown
      have X3 := Lib.hid (VB.call X2.out b1)
      have P3 := Lib.hid (VB.call P2.out b1)
      have J3 := Lib.hid (VB.call J2.out b1)
      have B3 := Lib.hid (B.call B2.out b1)
      have hL3 := Lib.hid (hL2.out.below b1)
      clear b1 X2 P2 J2 B2 hL2 hC
      have hC := Lib.hid (rExps (Lo.alls fl) (fun _ => True) w1 u1 hown.out.exl (by have := ok8.out; omega))
      go_wp2_with fail
      refine hC.out.mono ?_
      rintro _ w2 ⟨rfl, rfl⟩
      have x0 := X3.out.cell 0
      have x1 := X3.out.cell 1
      have x2 := X3.out.cell 2
      have q8 := J3.out.cell 8
      have q10 := J3.out.cell 10
      have qf8 := J3.out.free 8
      have qf10 := J3.out.free 10
      have q5 := J3.out.cell 5
      have q6 := J3.out.cell 6
      have q7 := J3.out.cell 7
      have qf5 := J3.out.free 5
      have qf6 := J3.out.free 6
      have qf7 := J3.out.free 7
      simp at x0 x1 x2 q8 q10 q5 q6 q7
      have hS := Lib.hid (rSize fl S' w2 _ hL3.out (by have := ok6.out; omega))
      have hD := Lib.hid (rDeep fl S' w2 _ hL3.out (by have := ok6.out; omega))
      clear p0 p3 p4 j8 j9 j10 jf5 jf6 jf7 jf8 jf10 j5 j6 j7 d0 d1 d2 hC
      have c6 : ¬ (32768 : Int) < (Lo.sizes fl : Nat) := by have := ok6.out; omega
      have c7 : ¬ (200 : Int) < (Lo.deeps fl : Nat) := by have := ok7.out; omega
      have c8 : ¬ (32768 : Int) < (Ex.nums (Lo.alls fl) : Nat) := by have := ok8.out; omega
      have c9 : ¬ (200 : Int) < (Ex.deeps (Lo.alls fl) : Nat) := by have := ok9.out; omega
      have e1 : ¬ (20 : Int) < fp := by omega
      have e2 : ¬ (1000 : Int) < fn := by omega
      have e3 : ¬ fp < 0 := by omega
      have e4 : ¬ fn < 0 := by omega
      have v1 : (decide ((32768 : Int) < (Lo.sizes fl : Nat)) || decide ((200 : Int) < (Lo.deeps fl : Nat)) || decide ((32768 : Int) < (Ex.nums (Lo.alls fl) : Nat)) || decide ((200 : Int) < (Ex.deeps (Lo.alls fl) : Nat)) || decide ((20 : Int) < fp) || decide ((1000 : Int) < fn)) = false := by simp; omega
      have v2 : (decide (fp < 0) || decide (fn < 0)) = false := by simp; omega
      go_wp2_with fail
      refine hS.out.mono ?_
      rintro _ w3 ⟨rfl, rfl⟩
      go_wp2_with fail
      refine hD.out.mono ?_
      rintro _ w4 ⟨rfl, rfl⟩
      have S8 := Below.same (B := w4.heap.size) J3.out (i := 8) (v := .bool false) rfl
      have J4 := VB.call J3.out S8
      have S10 := Below.same (B := (w4.setCell ⟨w.heap.size + 1, 8, none⟩ (.bool false)).heap.size) J4 (i := 10) (v := .bool false) rfl
      have J5 := VB.call J4 S10
      have J6 := Lib.hid (J5.set3of11 (.int .i64 fp) (.int .i64 fn) (.slice A1 fl.length k1))
      have hge : w.heap.size ≤ w.heap.size + 1 := Nat.le_succ _
      have B4 := (((((Below.refl w.heap.size w4).setCell (p := ⟨w.heap.size + 1, 8, none⟩) hge (.bool false)).setCell (p := ⟨w.heap.size + 1, 10, none⟩) hge (.bool false)).setCell (p := ⟨w.heap.size + 1, 5, none⟩) hge (.int .i64 fp)).setCell (p := ⟨w.heap.size + 1, 6, none⟩) hge (.int .i64 fn)).setCell (p := ⟨w.heap.size + 1, 7, none⟩) hge (.slice A1 fl.length k1)
      have hL5 := Lib.hid (hL3.out.keepB B4 hSw)
      have hne : w.heap.size ≠ w.heap.size + 1 := Nat.ne_of_lt (Nat.lt_succ_self _)
      have P6 := Lib.hid (((((P3.out.far (w.heap.size + 1) 8 hne (.bool false)).far (w.heap.size + 1) 10 hne (.bool false)).far (w.heap.size + 1) 5 hne (.int .i64 fp)).far (w.heap.size + 1) 6 hne (.int .i64 fn)).far (w.heap.size + 1) 7 hne (.slice A1 fl.length k1))
      have B6 := Lib.hid (B3.out.trans B4)
      clear B4 S8 S10 J4 J5 hge hne hL3 P3 J3 B3 hS hD X3
      go_wp2_with fail
      generalize (((((w4.setCell ⟨w.heap.size + 1, 8, none⟩ (.bool false)).setCell ⟨w.heap.size + 1, 10, none⟩ (.bool false)).setCell ⟨w.heap.size + 1, 5, none⟩ (.int .i64 fp)).setCell ⟨w.heap.size + 1, 6, none⟩ (.int .i64 fn)).setCell ⟨w.heap.size + 1, 7, none⟩ (.slice A1 fl.length k1)) = w5 at hL5 P6 J6 B6 ⊢
      refine (rList fl S' w5 _ fs (w.heap.size + 1) ⟨some ⟨b, off, none⟩, fs.length, cf, Ag, ng, cg, Ad, nd, cd, pages, main, fp, fn, A1, fl.length, k1⟩ 0 J6.out hL5.out (hf.out.below B6.out) rfl ok5.out ⟨ok1, Int.le_trans ok2 (by decide), ok3, Int.le_trans ok4 (by decide)⟩ ⟨by omega, by have := ok7.out; omega⟩ (by have := ok6.out; omega) (by have := ok8.out; have := hlen.out; omega)).mono ?_
      rintro _ w6 ⟨rfl, b6⟩
      have P7 := Lib.hid (VB.call P6.out b6)
      have J7 := Lib.hid (VB.call J6.out b6)
      have B7 := Lib.hid (B.call B6.out b6)
      clear b6 P6 J6 B6 hL5 x0 x1 x2 q8 q10 qf8 qf10 q5 q6 q7 qf5 qf6 qf7 c6 c7 c8 c9 v1 v2
      go_wp2_with fail
      go_roundw
      case measure => simp only [intOf]; omega
      case rel => exact ⟨i + 1, fp, fn, A1, fl.length, k1, rfl, by omega, B7.out, P7.out, J7.out⟩
    · replace B2 := Lib.hid B2
      replace P2 := Lib.hid P2
      replace J2 := Lib.hid J2
      have hie : i = fs.length := by omega
      have hF2 := hf.out.below B2.out
      obtain ⟨b, off, A1, k1, rfl, hbl, -, d0, -, -, -⟩ := hF2.elem main.toNat hm1.out
      rw [hm2.out] at d0
      obtain ⟨m, rfl⟩ : ∃ m : Nat, main = m := ⟨main.toNat, by omega⟩
      simp only [Int.toNat_natCast] at d0
      have hm3 : (m : Int) < fs.length := by have := hm1.out; simp at this; omega
      have hm4 : ¬ (m : Int) < 0 := by omega
      have hp1 : ¬ pages < 4 := by omega
      have hp2 : ¬ 65536 < pages := by omega
      clear hF2 hm0
      go_wp2_with fail
      go_returns
      exact ⟨rfl, B2.out⟩

end Go.Proofs.YtgohnekaolgblaaGreat
