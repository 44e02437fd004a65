/- Which lists of things may be: contract (gimletref28's judge's list), where they may (printed by wip/gen_ckf.py). -/
import Derived.Test.YtgohnekaolgblaaGreatQ12
import Derived.Test.YtgohnekaolgblaaGreatQ14
namespace Go.Proofs.YtgohnekaolgblaaGreat
open Go.RowKit

mutual
/-- A thing may be, with all that is in it. -/
def Lo.good (nv ng : Int) (ps : List Int) : Int → Lo → Prop
  | loops, .mk k x n a l => loOk nv ng ps loops k x n a.length l.length ∧ Ex.goods nv ng a ∧ Lo.goods nv ng ps (if k = 6 then loops + 1 else loops) l
def Lo.goods (nv ng : Int) (ps : List Int) : Int → List Lo → Prop
  | _, [] => True
  | loops, t :: l => Lo.good nv ng ps loops t ∧ Lo.goods nv ng ps loops l
end
theorem Lo.goods_mem {nv ng : Int} {ps : List Int} {loops : Int} : ∀ {l : List Lo}, Lo.goods nv ng ps loops l → ∀ t ∈ l, Lo.good nv ng ps loops t
  | [], _, t, h => by cases h
  | x :: l, hg, t, h => by
    rw [Lo.goods] at hg
    rcases List.mem_cons.1 h with rfl | h
    · exact hg.1
    · exact Lo.goods_mem hg.2 t h
theorem Lo.deeps_mem : ∀ {l : List Lo} {t : Lo}, t ∈ l → 1 + Lo.deeps t.l ≤ Lo.deeps l
  | x :: l, t, h => by
    rcases List.mem_cons.1 h with rfl | h
    · obtain ⟨k, x, n, a, l'⟩ := t; simp only [Lo.deeps, Lo.deep, Lo.l]; omega
    · have := Lo.deeps_mem h; simp only [Lo.deeps]; omega
theorem loOk_k8 {nv ng : Int} {ps : List Int} {loops k x n : Int} {na nl : Nat} (h : loOk nv ng ps loops k x n na nl) : k ≠ 8 := by
  rcases h with h | h | h | h | h | h | h | h | h <;> omega

set_option maxRecDepth 100000 in
set_option maxHeartbeats 8000000 in
theorem rList (l : List Lo) : ∀ (S : Nat → Prop) (w : World) (v : Value) (fs : List Fx) (g : Nat) (j : Jx) (loops : Int), JAt w g j → LoL S w l v → FxL S w fs (.slice j.uf fs.length j.cf) → j.nf = fs.length → Lo.goods (j.fp + j.fl) j.ng (fs.map Fx.p) loops l →
    (0 ≤ j.fp ∧ j.fp ≤ 1000000 ∧ 0 ≤ j.fl ∧ j.fl ≤ 1000000) → 0 ≤ loops ∧ loops + Lo.deeps l ≤ 1000000 → Lo.sizes l ≤ 1000000 → (Lo.alls l).length ≤ 1000000 →
    Calls Tryz.prog 47 #[.pointer (some ⟨g, 0, none⟩), v, .int .i64 loops] w fun e w' => e = .returned (.tuple #[]) ∧ Below w.heap.size w w' := by
  refine Lo.ind' (P := fun l => ∀ (S : Nat → Prop) (w : World) (v : Value) (fs : List Fx) (g : Nat) (j : Jx) (loops : Int), JAt w g j → LoL S w l v → FxL S w fs (.slice j.uf fs.length j.cf) → j.nf = fs.length → Lo.goods (j.fp + j.fl) j.ng (fs.map Fx.p) loops l →
    (0 ≤ j.fp ∧ j.fp ≤ 1000000 ∧ 0 ≤ j.fl ∧ j.fl ≤ 1000000) → 0 ≤ loops ∧ loops + Lo.deeps l ≤ 1000000 → Lo.sizes l ≤ 1000000 → (Lo.alls l).length ≤ 1000000 →
    Calls Tryz.prog 47 #[.pointer (some ⟨g, 0, none⟩), v, .int .i64 loops] w fun e w' => e = .returned (.tuple #[]) ∧ Below w.heap.size w w') ?_ l
  intro l ih S w v fs g j loops hj hv hf hnf hg hb hlo hsz hal
  obtain ⟨A, cap, rfl⟩ := hv.slice
  have hll : (l.length : Int) ≤ 1000000 := by have := Nat.le_trans (Lo.len_le l) hsz; omega
  have hgm := Lib.hid (Lo.goods_mem hg)
  replace ih := Lib.hid ih
  replace hv := Lib.hid hv
  replace hj := Lib.hid hj
  replace hf := Lib.hid hf
  replace hnf := Lib.hid hnf
  replace hb := Lib.hid hb
  replace hlo := Lib.hid hlo
  replace hsz := Lib.hid hsz
  replace hal := Lib.hid hal
  clear hg
  go_enter Tryz.func47, Tryz.ntmps47
  go_wp2_with fail
  go_loopw [6] (fun q wr => ∃ i : Nat, q = .int .i64 (i : Int) ∧ i ≤ l.length ∧ Below w.heap.size w wr)
    (fun q _ => l.length - (intOf q).toNat)
  case atStart => exact ⟨0, rfl, by omega, Below.refl _ _⟩
  case round =>
    obtain ⟨i, rfl, hi, hbw⟩ := hrel
    obtain ⟨wo, hwo⟩ : ∃ y, y = wr := ⟨_, rfl⟩
    subst hwo
    by_cases hil : i < l.length
    · have hmem := List.getElem_mem hil
      have ht := hgm.out l[i] hmem
      have hdm := Lo.deeps_mem hmem
      have hIH := ih.out l[i] hmem
      have hL := hv.out.below hbw
      have hF := hf.out.below hbw
      have hJ := VB.call hj.out hbw
      obtain ⟨b, off, A1, c1, A2, c2, rfl, hbl, d0, d1, d2, d3, d4, d5, hA, hK⟩ := hL.elem i hil
      have hal1 : l[i].a.length ≤ 1000000 ∧ (Lo.alls l[i].l).length ≤ 1000000 := by
        have h1 := Lo.alls_take l i hil
        have h2 := Lo.alls_le l (i + 1)
        rw [h1, List.length_append, List.length_append] at h2
        have := hal.out
        omega
      have hsz1 : Lo.sizes l[i].l ≤ 1000000 := by
        have h1 := Lo.sizes_take l i hil
        have h2 := Lo.sizes_le l (i + 1)
        have := hsz.out
        omega
      have hlo1 := hlo.out
      generalize l[i] = t at *
      obtain ⟨k, x, n, a, l'⟩ := t
      simp only [Lo.k, Lo.x, Lo.n, Lo.a, Lo.l] at d0 d1 d2 d3 d4 hA hK hal1 hsz1 hdm hIH
      rw [Lo.good] at ht
      obtain ⟨hok, hga, hgl⟩ := ht
      have hk8 := loOk_k8 hok
      have hgam := Lib.hid (Ex.goods_mem hga)
      obtain ⟨na, hna⟩ : ∃ m, m = a.length := ⟨_, rfl⟩
      obtain ⟨nl, hnl⟩ : ∃ m, m = l'.length := ⟨_, rfl⟩
      rw [← hna] at hok d3 hal1
      rw [← hnl] at hok d4
      rw [← hna] at hA
      rw [← hnl] at hK
      replace hna := Lib.hid hna
      replace hnl := Lib.hid hnl
      have X0 := Lib.hid (VB.new wo 77 #[.int .i64 k, .int .i64 x, .int .i64 n, .slice A1 na c1, .slice A2 nl c2, .slice none 0 0])
      have J0 := Lib.hid (VB.alloc hJ (.cells #[.int .i64 k, .int .i64 x, .int .i64 n, .slice A1 na c1, .slice A2 nl c2, .slice none 0 0] 77))
      have B0 := Lib.hid (B.alloc (B.refl wo) (.cells #[.int .i64 k, .int .i64 x, .int .i64 n, .slice A1 na c1, .slice A2 nl c2, .slice none 0 0] 77))
      have hszw := hbw.size
      replace hIH := Lib.hid hIH
      replace hL := Lib.hid hL
      replace hF := Lib.hid hF
      replace hJ := Lib.hid hJ
      replace hA := Lib.hid hA
      replace hK := Lib.hid hK
      replace hok := Lib.hid hok
      replace hgl := Lib.hid hgl
      replace hbw := Lib.hid hbw
      replace hal1 := Lib.hid hal1
      replace hsz1 := Lib.hid hsz1
      replace hdm := Lib.hid hdm
      replace hlo1 := Lib.hid hlo1
      have hnaI : (na : Int) ≤ 1000000 := by have := hal1.out.1; omega
      clear hga hmem
      go_wp2_with fail
      refine (rArgs k x n A1 A2 na c1 nl c2 _ _ _ _ _ hok.out).mono ?_
      rintro _ w1 ⟨lo, rfl, hlo2, hlo3, b1⟩
      have X1 := VB.call X0.out b1
      have J1 := VB.call J0.out b1
      have q0 := X1.cell 0
      have q1 := X1.cell 1
      have q2 := X1.cell 2
      have q3 := X1.cell 3
      have q4 := X1.cell 4
      have q5 := X1.cell 5
      have j8 := J1.cell 8
      have j10 := J1.cell 10
      simp [Jx.cells] at q0 q1 q2 q3 q4 q5 j8 j10
      have B1 := Lib.hid (B.call B0.out b1)
      replace X1 := Lib.hid X1
      replace J1 := Lib.hid J1
      have hn1 : ¬ lo < 0 := by omega
      have hn2 : ¬ (na : Int) < lo := by omega
      have jf8 := J1.out.free 8
      have jf10 := J1.out.free 10
      clear b1 d0 d1 d2 d3 d4 d5
      go_wp2_with fail
      refine (rFields k x n A1 A2 na c1 nl c2 _ _ _ _ _ hok.out).mono ?_
      rintro _ w2 ⟨rfl, b2⟩
      have p0 := cellK b2 q0
      have p1 := cellK b2 q1
      have p2 := cellK b2 q2
      have p3 := cellK b2 q3
      have p4 := cellK b2 q4
      have p5 := cellK b2 q5
      have i8 := cellK b2 j8
      have i10 := cellK b2 j10
      have J2 := VB.call J1.out b2
      have if8 := J2.free 8
      have if10 := J2.free 10
      have X2 := VB.call X1.out b2
      have S2 := Below.same (B := w2.heap.size) J2 (i := 10) (v := .bool false) rfl
      have J3 := VB.call J2 S2
      have S3 := Below.same (B := w2.heap.size) J3 (i := 8) (v := .bool false) rfl
      have S4 : Below w2.heap.size w2 _ := S2.trans S3
      have J4 := Lib.hid (VB.call J2 S4)
      have X4 := Lib.hid (VB.call X2 S4)
      have B4 := Lib.hid (B.call (B.call B1.out b2) S4)
      clear b2 q0 q1 q2 q3 q4 q5 j8 j10 jf8 jf10 J2 J3 S2 S3 X2 X0 J0 B0 B1 J1 X1 S4
      have hbv : (decide (lo < 0) || decide ((na : Int) < lo)) = false := by simp; omega
      go_wp2_with fail
      clear hbv p0 p1 p2 p3 p4 p5 i8 i10 if8 if10 hn1 hn2 hlo2 hlo3
      generalize (w2.setCell ⟨g, 10, none⟩ (.bool false)).setCell ⟨g, 8, none⟩ (.bool false) = w3 at J4 X4 B4 ⊢
      refine (rNames S k x n A1 A2 na c1 nl c2 fs loops g j w3 hok.out J4.out (hF.out.below B4.out) hnf.out hb.out).mono ?_
      rintro _ w4 ⟨rfl, b4⟩
      have J5 := Lib.hid (VB.call J4.out b4)
      have X5 := Lib.hid (VB.call X4.out b4)
      have B5 := Lib.hid (B.call B4.out b4)
      clear b4 J4 X4 B4
      go_wp2_with fail
      go_loopw [10] (fun q wx => ∃ m : Nat, q = .int .i64 (m : Int) ∧ m ≤ na ∧ Below wo.heap.size wo wx ∧ JAt wx g j ∧ VB wx wo.heap.size 77 #[.int .i64 k, .int .i64 x, .int .i64 n, .slice A1 na c1, .slice A2 nl c2, .slice none 0 0])
        (fun q _ => na - (intOf q).toNat)
      case atStart => exact ⟨0, rfl, by omega, B5.out, J5.out, X5.out⟩
      case round =>
        clear J5 X5 B5
        obtain ⟨m, rfl, hm, B6, J6, X6⟩ := hrel
        have q0 := X6.cell 0
        have q3 := X6.cell 3
        have q4 := X6.cell 4
        have q5 := X6.cell 5
        simp at q0 q3 q4 q5
        by_cases hml : m < na
        · have hml' : m < a.length := by rw [← hna.out]; exact hml
          have hA6 : ExL S wr a (.slice A1 a.length c1) := by rw [← hna.out]; exact hA.out.below B6
          obtain ⟨b', off', k', n', A3, c3, l3, rfl, hb3, e0, e1, e2, hat⟩ := hA6.elemAt m hml'
          have hC := Lib.hid (rExp a[m] S wr _ g j J6 hat (hgam.out _ (List.getElem_mem hml')) hb.out)
          replace B6 := Lib.hid B6
          replace J6 := Lib.hid J6
          replace X6 := Lib.hid X6
          clear hA6 hat q0 q4 q5
          go_wp2_with fail
          refine hC.out.mono ?_
          rintro _ w7 ⟨rfl, b7⟩
          go_wp2_with fail
          go_roundw
          case measure => simp only [intOf]; omega
          case rel => exact ⟨m + 1, rfl, by omega, B.call B6.out b7, VB.call J6.out b7, VB.call X6.out b7⟩
        · have hme : m = na := by omega
          replace B6 := Lib.hid B6
          replace J6 := Lib.hid J6
          replace X6 := Lib.hid X6
          have hK7 : LoL S wo l' (.slice A2 l'.length c2) := by rw [← hnl.out]; exact hK.out
          rw [hnl.out] at *
          by_cases hk6 : k = 6
          · have hgl7 := hgl.out
            rw [if_pos hk6] at hgl7
            have hC := hIH.out S wr _ fs g j (loops + 1) J6.out (hK7.below B6.out) (hF.out.below B6.out) hnf.out hgl7 hb.out (by have := hlo.out; have := hdm.out; omega) hsz1.out hal1.out.2
            replace hC := Lib.hid hC
            have hk6' : (k == 6) = true := by simp [hk6]
            have hli : 0 ≤ loops ∧ loops < 1000000 := by have := hlo.out; have := hdm.out; omega
            clear hgl7
            go_wp2_with fail
            refine hC.out.mono ?_
            rintro _ w7 ⟨rfl, b7⟩
            have p5 := cellK b7 q5
            have B7 := Lib.hid (B.call B6.out b7)
            clear b7 q4 q5
            go_wp2_with fail
            go_loopw [12] (fun q' wx => q' = .int .i64 0 ∧ wx = w7)
              (fun _ _ => 0)
            case atStart => exact ⟨rfl, rfl⟩
            case round =>
              obtain ⟨rfl, rfl⟩ := hrel
              go_wp2_with fail
              go_roundw
              case measure => simp only [intOf]; omega
              case rel => exact ⟨i + 1, rfl, by omega, B.call hbw.out B7.out⟩
          · have hgl7 := hgl.out
            rw [if_neg hk6] at hgl7
            have hC := hIH.out S wr _ fs g j loops J6.out (hK7.below B6.out) (hF.out.below B6.out) hnf.out hgl7 hb.out (by have := hlo.out; have := hdm.out; omega) hsz1.out hal1.out.2
            replace hC := Lib.hid hC
            have hk6' : (k == 6) = false := by simp [hk6]
            have hli : 0 ≤ loops ∧ loops < 1000000 := by have := hlo.out; have := hdm.out; omega
            clear hgl7
            go_wp2_with fail
            refine hC.out.mono ?_
            rintro _ w7 ⟨rfl, b7⟩
            have p5 := cellK b7 q5
            have B7 := Lib.hid (B.call B6.out b7)
            clear b7 q4 q5
            go_wp2_with fail
            go_loopw [12] (fun q' wx => q' = .int .i64 0 ∧ wx = w7)
              (fun _ _ => 0)
            case atStart => exact ⟨rfl, rfl⟩
            case round =>
              obtain ⟨rfl, rfl⟩ := hrel
              go_wp2_with fail
              go_roundw
              case measure => simp only [intOf]; omega
              case rel => exact ⟨i + 1, rfl, by omega, B.call hbw.out B7.out⟩
    · replace hbw := Lib.hid hbw
      go_wp2_with fail
      go_returns
      exact ⟨rfl, hbw.out⟩

end Go.Proofs.YtgohnekaolgblaaGreat
