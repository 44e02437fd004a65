/- gimletlaw29.asks: contract. -/
import Derived.Test.YtgohnekaolgblaaGreatQ27
namespace Go.Proofs.YtgohnekaolgblaaGreat
open Go.RowKit

theorem Fx.ats_cells {S : Nat → Prop} {w : World} {b : Nat} : ∀ {l : List Fx} {off : Nat}, Fx.ats S w l b off → ∃ vs : List (Value × Value × Value), FxV S w l vs ∧ (∀ u ∈ (vs.flatMap fun v => [v.1, v.2.1, v.2.2]), u.oneCell' = true) ∧ ∀ (j : Nat) u, (vs.flatMap fun v => [v.1, v.2.1, v.2.2])[j]? = some u → w.cell? ⟨b, off + j, none⟩ = some u
  | [], off, _ => ⟨[], trivial, by simp, by simp⟩
  | t :: l, off, h => by
    rw [Fx.ats] at h
    obtain ⟨⟨v0, v1, v2, c0, c1, c2, ha⟩, hl⟩ := h
    obtain ⟨vs, h1, h2, h3⟩ := Fx.ats_cells hl
    refine ⟨(v0, v1, v2) :: vs, ⟨ha, h1⟩, ?_, ?_⟩
    · obtain ⟨u, e, A, c, rfl, -⟩ := ha
      simp only [Value.agg.injEq, Array.mk.injEq, List.cons.injEq, and_true] at e
      obtain ⟨rfl, rfl, rfl⟩ := e
      intro u hu
      simp only [List.flatMap_cons, List.cons_append, List.nil_append, List.mem_cons] at hu
      rcases hu with rfl | rfl | rfl | hu
      · rfl
      · rfl
      · rfl
      · exact h2 u hu
    · intro j u hj
      simp only [List.flatMap_cons, List.cons_append, List.nil_append] at hj
      match j, hj with
      | 0, hj => simp at hj; subst hj; exact c0
      | 1, hj => simp at hj; subst hj; exact c1
      | 2, hj => simp at hj; subst hj; exact c2
      | j + 3, hj =>
        have := h3 j u (by simpa using hj)
        rw [show off + (j + 3) = off + 3 + j by omega]; exact this
theorem FxV.imp {S S' : Nat → Prop} {w w' : World} (h : ∀ p n l v, FnAt S w p n l v → FnAt S' w' p n l v) : ∀ {l : List Fx} {vs : List (Value × Value × Value)}, FxV S w l vs → FxV S' w' l vs
  | [], [], _ => trivial
  | _ :: _, _ :: _, k => ⟨h _ _ _ _ k.1, FxV.imp h k.2⟩
theorem FxV.snoc {S : Nat → Prop} {w : World} : ∀ {l : List Fx} {vs : List (Value × Value × Value)} {t : Fx} {v : Value × Value × Value}, FxV S w l vs → FnAt S w t.p t.n t.l (.agg #[v.1, v.2.1, v.2.2]) → FxV S w (l ++ [t]) (vs ++ [v])
  | [], [], _, _, _, h => ⟨h, trivial⟩
  | _ :: _, _ :: _, _, _, k, h => ⟨k.1, FxV.snoc k.2 h⟩
theorem FxV.length {S : Nat → Prop} {w : World} : ∀ {l : List Fx} {vs : List (Value × Value × Value)}, FxV S w l vs → vs.length = l.length
  | [], [], _ => rfl
  | _ :: _, _ :: _, k => by rw [List.length_cons, List.length_cons, FxV.length k.2]

theorem FxL.ofRow {S : Nat → Prop} {B : Nat} {w : World} {v : Value} {ts : List Fx} {vs : List (Value × Value × Value)} (h1 : FxV S w ts vs) (h3 : w.ownsRow B 81 3 v ts.length (vs.flatMap fun v => [v.1, v.2.1, v.2.2])) (hS : ∀ g, v.ownBlock = some g → S g) : FxL S w ts v := by
  have hc := fun g hg => World.ownsRow.cells h3 (g := g) hg
  have hlt := World.ownsRow.lt h3
  obtain ⟨hl, ⟨rfl, hn⟩ | ⟨g, cap, cur, rfl, hB, hh, h4, h5, -⟩⟩ := h3
  · obtain rfl := List.eq_nil_of_length_eq_zero hn
    exact FxL.nil _ _
  · refine ⟨_, cap, rfl, h4, h5, fun _ => ⟨g, 0, rfl, (hlt g rfl).2, hS g rfl, Fx.ats_of_cells h1 fun j u hj => ?_⟩⟩
    have := hc g rfl j u hj
    rw [Addr.add_lit] at this
    exact this
theorem cells3 (w : World) (x y z : Value) (T : TypeId) : ∀ (j : Nat) u, ([x, y, z] : List Value)[j]? = some u → (w.alloc (.cells #[x, y, z] T)).cell? ((⟨w.heap.size, 0, none⟩ : Addr).add j) = some u := by
  intro j u hj
  have h := (VB.new w T #[x, y, z]).cell j
  rw [Addr.add_lit, Nat.zero_add, h, List.getElem?_toArray]
  exact hj

set_option maxRecDepth 100000 in
set_option maxHeartbeats 2000000 in
theorem rlAsks (S : Nat → Prop) (w : World) (A AG AD : Option Addr) (cf nG cG nD cD : Nat) (fs : List Fx) (pages main : Int) (hN : ∀ b, w.heap.size ≤ b → S b) (hfs : FxL S w fs (.slice A fs.length cf)) (hfl : fs.length ≤ 1000) (hfne : fs ≠ []) :
    Calls Tryz.prog 11 #[.agg #[.slice A fs.length cf, .slice AG nG cG, .slice AD nD cD, .int .i64 pages, .int .i64 main], .int .i64 1, .slice none 0 0] w fun e w' => ∃ A' c', e = .returned (.agg #[.slice A' (fs.length + 1) c', .slice AG nG cG, .slice AD nD cD, .int .i64 pages, .int .i64 (fs.length : Int)]) ∧ FxL S w' (fs ++ [⟨0, 1, askL⟩]) (.slice A' (fs.length + 1) c') ∧ Below w.heap.size w w' := by
  obtain ⟨iL, hiL, hzL, hsL, hbL⟩ := info_parts3 (show (Tryz.prog.info? 77).map (fun i => (i.zero, i.size, i.bytes)) = some (some (.agg #[.int .i64 0, .int .i64 0, .int .i64 0, .slice none 0 0, .slice none 0 0, .slice none 0 0]), 6, 96) by kernel_rfl)
  replace hiL := Lib.hid hiL
  replace hzL := Lib.hid hzL
  replace hsL := Lib.hid hsL
  replace hbL := Lib.hid hbL
  obtain ⟨iF, hiF, hzF, hsF, hbFn⟩ := info_parts3 (show (Tryz.prog.info? 81).map (fun i => (i.zero, i.size, i.bytes)) = some (some (.agg #[.int .i64 0, .int .i64 0, .slice none 0 0]), 3, 40) by kernel_rfl)
  replace hiF := Lib.hid hiF
  replace hzF := Lib.hid hzF
  replace hsF := Lib.hid hsF
  replace hbFn := Lib.hid hbFn
  have hflI : (fs.length : Int) ≤ 1000 := by omega
  replace hfs := Lib.hid hfs
  replace hN := Lib.hid hN
  have P1 := VB.new w 30 #[.slice A fs.length cf, .slice AG nG cG, .slice AD nD cD, .int .i64 pages, .int .i64 main]
  go_enter Tryz.func11, Tryz.ntmps11
  go_wp2_with fail
  have hz1 : (w.alloc (.cells #[.slice A fs.length cf, .slice AG nG cG, .slice AD nD cD, .int .i64 pages, .int .i64 main] 30)).heap.size = w.heap.size + 1 := by simp
  have P2 := P1.alloc (.cells #[.slice none 0 0, .slice none 0 0, .slice none 0 0, .int .i64 0, .int .i64 0] 30)
  have R2 := VB.new (w.alloc (.cells #[.slice A fs.length cf, .slice AG nG cG, .slice AD nD cD, .int .i64 pages, .int .i64 main] 30)) 30 #[.slice none 0 0, .slice none 0 0, .slice none 0 0, .int .i64 0, .int .i64 0]
  have B2 := B.alloc (B.alloc (B.refl w) (.cells #[.slice A fs.length cf, .slice AG nG cG, .slice AD nD cD, .int .i64 pages, .int .i64 main] 30)) (.cells #[.slice none 0 0, .slice none 0 0, .slice none 0 0, .int .i64 0, .int .i64 0] 30)
  rw [hz1] at R2
  obtain ⟨w2, hw2⟩ : ∃ w2, w2 = (w.alloc (.cells #[.slice A fs.length cf, .slice AG nG cG, .slice AD nD cD, .int .i64 pages, .int .i64 main] 30)).alloc (.cells #[.slice none 0 0, .slice none 0 0, .slice none 0 0, .int .i64 0, .int .i64 0] 30) := ⟨_, rfl⟩
  have hz2 : w2.heap.size = w.heap.size + 1 + 1 := by rw [hw2]; simp
  rw [← hw2] at P2 R2 B2 ⊢
  have own0 : OwnLs (w.heap.size + 1 + 1) (w2.alloc (.cells #[.int .i64 10, .int .i64 0, .int .i64 1, .slice none 0 0, .slice none 0 0, .slice none 0 0] 77)) (.slice (some ⟨w.heap.size + 1 + 1, 0, none⟩) 1 1) (askTo 0) := by
    have V := VB.new w2 77 #[.int .i64 10, .int .i64 0, .int .i64 1, .slice none 0 0, .slice none 0 0, .slice none 0 0]
    rw [hz2] at V
    refine ⟨[(.int .i64 10, .int .i64 0, .int .i64 1, .slice none 0 0, .slice none 0 0, .slice none 0 0)], ⟨Lo.at_mk.2 ⟨_, _, rfl, ExL.nil _ _, LoL.nil _ _⟩, trivial⟩, by simp [askTo, Lo.flat], .inr ⟨_, 1, _, rfl, Nat.le_refl _, V, by simp [askTo], by simp [maxLen], by simp, by simp [askTo, Lo.flat]⟩⟩
  have B3 := B.alloc B2 (.cells #[.int .i64 10, .int .i64 0, .int .i64 1, .slice none 0 0, .slice none 0 0, .slice none 0 0] 77)
  have P3 := P2.alloc (.cells #[.int .i64 10, .int .i64 0, .int .i64 1, .slice none 0 0, .slice none 0 0, .slice none 0 0] 77)
  have R3 := R2.alloc (.cells #[.int .i64 10, .int .i64 0, .int .i64 1, .slice none 0 0, .slice none 0 0, .slice none 0 0] 77)
  obtain ⟨w3, hw3⟩ : ∃ w3, w3 = w2.alloc (.cells #[.int .i64 10, .int .i64 0, .int .i64 1, .slice none 0 0, .slice none 0 0, .slice none 0 0] 77) := ⟨_, rfl⟩
  have hz3 : w3.heap.size = w.heap.size + 1 + 1 + 1 := by rw [hw3]; simp [hz2]
  rw [← hw3] at own0 B3 P3 R3 ⊢
  replace own0 := Lib.hid own0
  replace B3 := Lib.hid B3
  replace P3 := Lib.hid P3
  replace R3 := Lib.hid R3
  clear hw2 hw3 P1 P2 R2 B2 hz1 hz2
  go_loopw [7, 8] (fun lv p wr => ∃ j : Nat, p = .int .i64 ((j : Int) - 1) ∧ j ≤ 6 ∧ OwnLs (w.heap.size + 1 + 1) wr lv (askTo j) ∧ Below (w.heap.size + 1 + 1) w3 wr)
    (fun _ p _ => (5 - intOf p).toNat)
  case atStart => exact ⟨0, rfl, by omega, own0.out, Below.refl _ _⟩
  case round =>
    obtain ⟨j, rfl, hj, hown, hb⟩ := hrel
    have hsz := hb.size
    by_cases hj6 : j < 6
    · have hjI : (j : Int) < 6 := by omega
      by_cases hj0 : j = 0
      · subst hj0
        rw [show ((0 : Nat) : Int) - 1 = -1 from rfl]
        replace hown := Lib.hid hown
        replace hb := Lib.hid hb
        go_wp2_with fail
        have Vx := VB.new wr 79 #[.int .i64 2, .int .i64 0, .slice none 0 0]
        have hownx := hown.out.below (B.alloc (B.refl wr) (.cells #[.int .i64 2, .int .i64 0, .slice none 0 0] 79))
        have bx := hb.out.trans ((B.alloc (B.refl wr) (.cells #[.int .i64 2, .int .i64 0, .slice none 0 0] 79)).mono (by omega))
        have hxat : ∀ (S : Nat → Prop) (W : World), Ex.at S W (askX 0) (.agg #[.int .i64 2, .int .i64 0, .slice none 0 0]) := fun S W => by
          unfold askX
          exact Ex.at_mk.2 ⟨_, rfl, ExL.nil _ _⟩
        obtain ⟨wx, hwx⟩ : ∃ wx, wx = wr.alloc (.cells #[.int .i64 2, .int .i64 0, .slice none 0 0] 79) := ⟨_, rfl⟩
        rw [← hwx] at Vx hownx bx ⊢
        have hzx : wx.heap.size = wr.heap.size + 1 := by rw [hwx]; simp
        obtain ⟨xb, hxb⟩ : ∃ xb, xb = wr.heap.size := ⟨_, rfl⟩
        rw [← hxb] at Vx hzx hsz ⊢
        replace Vx := Lib.hid Vx
        replace hownx := Lib.hid hownx
        replace bx := Lib.hid bx
        clear hwx hown hb hxb
        go_loopw [7, 10] (fun lv p wq => ∃ k : Nat, p = .int .i64 (k : Int) ∧ k ≤ 4 ∧ OwnLs (w.heap.size + 1 + 1) wq lv (askTo 0 ++ (List.range k).map (askT (askX 0))) ∧ Below (w.heap.size + 1 + 1) w3 wq ∧ VB wq xb 79 #[.int .i64 2, .int .i64 0, .slice none 0 0])
          (fun _ p _ => (4 - intOf p).toNat)
        case atStart => exact ⟨0, rfl, by omega, by simpa using hownx.out, bx.out, Vx.out⟩
        case round =>
          obtain ⟨k, rfl, hk, hown, hb, hV⟩ := hrel
          have hzq := hb.size
          have c0 := hV.cell 0
          have c1 := hV.cell 1
          have c2 := hV.cell 2
          have cl := hV.lt
          simp at c0 c1 c2
          by_cases hk4 : k < 4
          · have hkI : (k : Int) < 4 := by omega
            obtain ⟨vs, hv, hrow⟩ := hown
            obtain ⟨Av, cv, rfl⟩ := row_slice hrow
            have hlen : (askTo 0 ++ (List.range k).map (askT (askX 0))).length ≤ 100 := by rw [List.length_append, askTo_length, List.length_map, List.length_range]; omega
            obtain ⟨ts, hts⟩ : ∃ ts, ts = askTo 0 ++ (List.range k).map (askT (askX 0)) := ⟨_, rfl⟩
            rw [← hts] at hv hrow hlen ⊢
            replace hts := Lib.hid hts
            replace hv := Lib.hid hv
            replace hrow := Lib.hid hrow
            replace hV := Lib.hid hV
            replace hb := Lib.hid hb
            have hglt := World.ownsRow.lt hrow.out
            have hSn : ∀ g, wr.heap.size ≤ g → w.heap.size + 1 + 1 ≤ g ∧ (Value.slice Av ts.length cv).ownBlock ≠ some g := fun g hg => ⟨by omega, fun e => by have := (hglt g e).2; omega⟩
            have e1 : ExL (fun b => w.heap.size + 1 + 1 ≤ b ∧ (Value.slice Av ts.length cv).ownBlock ≠ some b) (wr.alloc (.cells #[.int .i64 2, .int .i64 0, .slice none 0 0, .int .i64 1, .int .i64 (8 * (k : Int)), .slice none 0 0] 79)) [askX 0, Px.n (8 * (k : Int))] (.slice (some ⟨wr.heap.size, 0, none⟩) 2 2) :=
              ExL.of [(.int .i64 2, .int .i64 0, .slice none 0 0), (.int .i64 1, .int .i64 (8 * (k : Int)), .slice none 0 0)] (ExV.cons (hxat _ _) (ExV.cons (Ex.at_mk.2 ⟨_, rfl, ExL.nil _ _⟩) (ExV.nil _ _))) _ _ rfl (by simp [maxLen]) _ rfl (hSn _ (Nat.le_refl _))
            have e2 := ExL.of [(.int .i64 7, .int .i64 118, .slice (some ⟨wr.heap.size, 0, none⟩) 2 2)] (ExV.cons (Ex.at_mk.2 ⟨_, rfl, e1.alloc (.cells #[.int .i64 7, .int .i64 118, .slice (some ⟨wr.heap.size, 0, none⟩) 2 2] 79)⟩ : Ex.at _ _ (Px.t 118 (askX 0) (Px.n (8 * (k : Int)))) _) (ExV.nil _ _)) 79 _ rfl (by simp [maxLen]) (wr.heap.size + 1 + 1) (by simp) (hSn _ (by omega))
            have ht4 : Lo.at (fun b => w.heap.size + 1 + 1 ≤ b ∧ (Value.slice Av ts.length cv).ownBlock ≠ some b) ((((wr.alloc (.cells #[.int .i64 2, .int .i64 0, .slice none 0 0, .int .i64 1, .int .i64 (8 * (k : Int)), .slice none 0 0] 79)).alloc (.cells #[.int .i64 7, .int .i64 118, .slice (some ⟨wr.heap.size, 0, none⟩) 2 2] 79)).alloc (.cells #[.int .i64 7, .int .i64 118, .slice (some ⟨wr.heap.size, 0, none⟩) 2 2] 79)).alloc (.cells #[.int .i64 13, .int .i64 0, .int .i64 0, .slice (some ⟨wr.heap.size + 1 + 1, 0, none⟩) 1 1, .slice none 0 0, .slice none 0 0] 77)) (askT (askX 0) k) (.agg #[.int .i64 13, .int .i64 0, .int .i64 0, .slice (some ⟨wr.heap.size + 1 + 1, 0, none⟩) 1 1, .slice none 0 0, .slice none 0 0]) := Lo.at_mk.2 ⟨_, _, rfl, e2.alloc (.cells #[.int .i64 13, .int .i64 0, .int .i64 0, .slice (some ⟨wr.heap.size + 1 + 1, 0, none⟩) 1 1, .slice none 0 0, .slice none 0 0] 77), LoL.nil _ _⟩
            have b4 := B.alloc (B.alloc (B.alloc (B.alloc (B.refl wr) (.cells #[.int .i64 2, .int .i64 0, .slice none 0 0, .int .i64 1, .int .i64 (8 * (k : Int)), .slice none 0 0] 79)) (.cells #[.int .i64 7, .int .i64 118, .slice (some ⟨wr.heap.size, 0, none⟩) 2 2] 79)) (.cells #[.int .i64 7, .int .i64 118, .slice (some ⟨wr.heap.size, 0, none⟩) 2 2] 79)) (.cells #[.int .i64 13, .int .i64 0, .int .i64 0, .slice (some ⟨wr.heap.size + 1 + 1, 0, none⟩) 1 1, .slice none 0 0, .slice none 0 0] 77)
            have hv4 := hv.out.imp fun t v k => Lo.at.below k b4
            have hrow4 := row_keep hrow.out fun g hg => b4.block g (hglt g hg).2
            have V4 := VB.new (((wr.alloc (.cells #[.int .i64 2, .int .i64 0, .slice none 0 0, .int .i64 1, .int .i64 (8 * (k : Int)), .slice none 0 0] 79)).alloc (.cells #[.int .i64 7, .int .i64 118, .slice (some ⟨wr.heap.size, 0, none⟩) 2 2] 79)).alloc (.cells #[.int .i64 7, .int .i64 118, .slice (some ⟨wr.heap.size, 0, none⟩) 2 2] 79)) 77 #[.int .i64 13, .int .i64 0, .int .i64 0, .slice (some ⟨wr.heap.size + 1 + 1, 0, none⟩) 1 1, .slice none 0 0, .slice none 0 0]
            have hz4 : (((wr.alloc (.cells #[.int .i64 2, .int .i64 0, .slice none 0 0, .int .i64 1, .int .i64 (8 * (k : Int)), .slice none 0 0] 79)).alloc (.cells #[.int .i64 7, .int .i64 118, .slice (some ⟨wr.heap.size, 0, none⟩) 2 2] 79)).alloc (.cells #[.int .i64 7, .int .i64 118, .slice (some ⟨wr.heap.size, 0, none⟩) 2 2] 79)).heap.size = wr.heap.size + 1 + 1 + 1 := by simp
            rw [hz4] at V4
            have hc4 : ∀ (jj : Nat) (u : Value), ([.int .i64 13, .int .i64 0, .int .i64 0, .slice (some ⟨wr.heap.size + 1 + 1, 0, none⟩) 1 1, .slice none 0 0, .slice none 0 0] : List Value)[jj]? = some u → ((((wr.alloc (.cells #[.int .i64 2, .int .i64 0, .slice none 0 0, .int .i64 1, .int .i64 (8 * (k : Int)), .slice none 0 0] 79)).alloc (.cells #[.int .i64 7, .int .i64 118, .slice (some ⟨wr.heap.size, 0, none⟩) 2 2] 79)).alloc (.cells #[.int .i64 7, .int .i64 118, .slice (some ⟨wr.heap.size, 0, none⟩) 2 2] 79)).alloc (.cells #[.int .i64 13, .int .i64 0, .int .i64 0, .slice (some ⟨wr.heap.size + 1 + 1, 0, none⟩) 1 1, .slice none 0 0, .slice none 0 0] 77)).cell? ((⟨wr.heap.size + 1 + 1 + 1, 0, none⟩ : Addr).add jj) = some u := by
              intro jj u hj
              rw [Addr.add_lit, Nat.zero_add, V4.cell jj, List.getElem?_toArray]
              exact hj
            have hV4 := hV.out.call b4
            have hb4 := hb.out.trans (b4.mono (by omega))
            replace ht4 := Lib.hid ht4
            replace hv4 := Lib.hid hv4
            replace hrow4 := Lib.hid hrow4
            replace hc4 := Lib.hid hc4
            replace hV4 := Lib.hid hV4
            replace hb4 := Lib.hid hb4
            clear e1 e2 b4 V4 hz4 hSn hv hrow hV hb hglt
            go_wp2_with (first
              | (at_builtin; refine app_row Tryz.underlying74 hiL.out hzL.out hsL.out hbL.out rfl (by decide) rfl (.tmp 35) (.tmp 39) rfl rfl hrow4.out ⟨wr.heap.size + 1 + 1 + 1, 0, none⟩ 1 1 [.int .i64 13, .int .i64 0, .int .i64 0, .slice (some ⟨wr.heap.size + 1 + 1, 0, none⟩) 1 1, .slice none 0 0, .slice none 0 0] rfl rfl hc4.out (by simp [Value.oneCell']) (by unfold maxLen; omega) (by omega) (by simp; omega) ?_; intro v5 w5 own5 g5 loc5)
              | fail)
            have hn5 := OwnLs.app (u := (.int .i64 13, .int .i64 0, .int .i64 0, .slice (some ⟨wr.heap.size + 1 + 1, 0, none⟩) 1 1, .slice none 0 0, .slice none 0 0)) hv4.out ht4.out own5 g5 loc5
            have hV5 := VB.grownA hV4.out g5 (fun g hg e => row_ne hV4.out hrow4.out (by decide) (hg.trans (congrArg some e.symm)))
            have hb5 := hb4.out.grown g5 (by simp; omega) (fun g hg => (World.ownsRow.lt hrow4.out g hg).1)
            rw [hts.out] at hn5
            have hn6 : askTo 0 ++ (List.range (k + 1)).map (askT (askX 0)) = askTo 0 ++ (List.range k).map (askT (askX 0)) ++ [askT (askX 0) k] := by rw [List.range_succ, List.map_append, ← List.append_assoc]; rfl
            rw [← hn6] at hn5
            go_roundw
            case measure => simp only [intOf]; omega
            case rel => exact ⟨k + 1, by simp, by omega, hn5, hb5, hV5⟩
          · obtain rfl : k = 4 := by omega
            have hnext : askTo 0 ++ (List.range 4).map (askT (askX 0)) = askTo (0 + 1) := rfl
            rw [hnext] at hown
            replace hown := Lib.hid hown
            replace hb := Lib.hid hb
            clear hV hnext
            go_wp2_with fail
            exact ⟨⟨0 + 1, by simp, by omega, hown.out, hb.out⟩, by simp only [intOf]; omega⟩
      · have hjI2 : 1 ≤ (j : Int) := by omega
        have hj5 : (j : Int) - 1 < 5 := by omega
        replace hown := Lib.hid hown
        replace hb := Lib.hid hb
        go_wp2_with fail
        have Vx := VB.new wr 79 #[.int .i64 3, .int .i64 ((j : Int) - 1), .slice none 0 0]
        have hownx := hown.out.below (B.alloc (B.refl wr) (.cells #[.int .i64 3, .int .i64 ((j : Int) - 1), .slice none 0 0] 79))
        have bx := hb.out.trans ((B.alloc (B.refl wr) (.cells #[.int .i64 3, .int .i64 ((j : Int) - 1), .slice none 0 0] 79)).mono (by omega))
        have hxat : ∀ (S : Nat → Prop) (W : World), Ex.at S W (askX j) (.agg #[.int .i64 3, .int .i64 ((j : Int) - 1), .slice none 0 0]) := fun S W => by
          unfold askX
          rw [if_neg hj0]
          exact Ex.at_mk.2 ⟨_, rfl, ExL.nil _ _⟩
        obtain ⟨wx, hwx⟩ : ∃ wx, wx = wr.alloc (.cells #[.int .i64 3, .int .i64 ((j : Int) - 1), .slice none 0 0] 79) := ⟨_, rfl⟩
        rw [← hwx] at Vx hownx bx ⊢
        have hzx : wx.heap.size = wr.heap.size + 1 := by rw [hwx]; simp
        obtain ⟨xb, hxb⟩ : ∃ xb, xb = wr.heap.size := ⟨_, rfl⟩
        rw [← hxb] at Vx hzx hsz ⊢
        replace Vx := Lib.hid Vx
        replace hownx := Lib.hid hownx
        replace bx := Lib.hid bx
        clear hwx hown hb hxb
        go_loopw [7, 10] (fun lv p wq => ∃ k : Nat, p = .int .i64 (k : Int) ∧ k ≤ 4 ∧ OwnLs (w.heap.size + 1 + 1) wq lv (askTo j ++ (List.range k).map (askT (askX j))) ∧ Below (w.heap.size + 1 + 1) w3 wq ∧ VB wq xb 79 #[.int .i64 3, .int .i64 ((j : Int) - 1), .slice none 0 0])
          (fun _ p _ => (4 - intOf p).toNat)
        case atStart => exact ⟨0, rfl, by omega, by simpa using hownx.out, bx.out, Vx.out⟩
        case round =>
          obtain ⟨k, rfl, hk, hown, hb, hV⟩ := hrel
          have hzq := hb.size
          have c0 := hV.cell 0
          have c1 := hV.cell 1
          have c2 := hV.cell 2
          have cl := hV.lt
          simp at c0 c1 c2
          by_cases hk4 : k < 4
          · have hkI : (k : Int) < 4 := by omega
            obtain ⟨vs, hv, hrow⟩ := hown
            obtain ⟨Av, cv, rfl⟩ := row_slice hrow
            have hlen : (askTo j ++ (List.range k).map (askT (askX j))).length ≤ 100 := by rw [List.length_append, askTo_length, List.length_map, List.length_range]; omega
            obtain ⟨ts, hts⟩ : ∃ ts, ts = askTo j ++ (List.range k).map (askT (askX j)) := ⟨_, rfl⟩
            rw [← hts] at hv hrow hlen ⊢
            replace hts := Lib.hid hts
            replace hv := Lib.hid hv
            replace hrow := Lib.hid hrow
            replace hV := Lib.hid hV
            replace hb := Lib.hid hb
            have hglt := World.ownsRow.lt hrow.out
            have hSn : ∀ g, wr.heap.size ≤ g → w.heap.size + 1 + 1 ≤ g ∧ (Value.slice Av ts.length cv).ownBlock ≠ some g := fun g hg => ⟨by omega, fun e => by have := (hglt g e).2; omega⟩
            have e1 : ExL (fun b => w.heap.size + 1 + 1 ≤ b ∧ (Value.slice Av ts.length cv).ownBlock ≠ some b) (wr.alloc (.cells #[.int .i64 3, .int .i64 ((j : Int) - 1), .slice none 0 0, .int .i64 1, .int .i64 (8 * (k : Int)), .slice none 0 0] 79)) [askX j, Px.n (8 * (k : Int))] (.slice (some ⟨wr.heap.size, 0, none⟩) 2 2) :=
              ExL.of [(.int .i64 3, .int .i64 ((j : Int) - 1), .slice none 0 0), (.int .i64 1, .int .i64 (8 * (k : Int)), .slice none 0 0)] (ExV.cons (hxat _ _) (ExV.cons (Ex.at_mk.2 ⟨_, rfl, ExL.nil _ _⟩) (ExV.nil _ _))) _ _ rfl (by simp [maxLen]) _ rfl (hSn _ (Nat.le_refl _))
            have e2 := ExL.of [(.int .i64 7, .int .i64 118, .slice (some ⟨wr.heap.size, 0, none⟩) 2 2)] (ExV.cons (Ex.at_mk.2 ⟨_, rfl, e1.alloc (.cells #[.int .i64 7, .int .i64 118, .slice (some ⟨wr.heap.size, 0, none⟩) 2 2] 79)⟩ : Ex.at _ _ (Px.t 118 (askX j) (Px.n (8 * (k : Int)))) _) (ExV.nil _ _)) 79 _ rfl (by simp [maxLen]) (wr.heap.size + 1 + 1) (by simp) (hSn _ (by omega))
            have ht4 : Lo.at (fun b => w.heap.size + 1 + 1 ≤ b ∧ (Value.slice Av ts.length cv).ownBlock ≠ some b) ((((wr.alloc (.cells #[.int .i64 3, .int .i64 ((j : Int) - 1), .slice none 0 0, .int .i64 1, .int .i64 (8 * (k : Int)), .slice none 0 0] 79)).alloc (.cells #[.int .i64 7, .int .i64 118, .slice (some ⟨wr.heap.size, 0, none⟩) 2 2] 79)).alloc (.cells #[.int .i64 7, .int .i64 118, .slice (some ⟨wr.heap.size, 0, none⟩) 2 2] 79)).alloc (.cells #[.int .i64 13, .int .i64 0, .int .i64 0, .slice (some ⟨wr.heap.size + 1 + 1, 0, none⟩) 1 1, .slice none 0 0, .slice none 0 0] 77)) (askT (askX j) k) (.agg #[.int .i64 13, .int .i64 0, .int .i64 0, .slice (some ⟨wr.heap.size + 1 + 1, 0, none⟩) 1 1, .slice none 0 0, .slice none 0 0]) := Lo.at_mk.2 ⟨_, _, rfl, e2.alloc (.cells #[.int .i64 13, .int .i64 0, .int .i64 0, .slice (some ⟨wr.heap.size + 1 + 1, 0, none⟩) 1 1, .slice none 0 0, .slice none 0 0] 77), LoL.nil _ _⟩
            have b4 := B.alloc (B.alloc (B.alloc (B.alloc (B.refl wr) (.cells #[.int .i64 3, .int .i64 ((j : Int) - 1), .slice none 0 0, .int .i64 1, .int .i64 (8 * (k : Int)), .slice none 0 0] 79)) (.cells #[.int .i64 7, .int .i64 118, .slice (some ⟨wr.heap.size, 0, none⟩) 2 2] 79)) (.cells #[.int .i64 7, .int .i64 118, .slice (some ⟨wr.heap.size, 0, none⟩) 2 2] 79)) (.cells #[.int .i64 13, .int .i64 0, .int .i64 0, .slice (some ⟨wr.heap.size + 1 + 1, 0, none⟩) 1 1, .slice none 0 0, .slice none 0 0] 77)
            have hv4 := hv.out.imp fun t v k => Lo.at.below k b4
            have hrow4 := row_keep hrow.out fun g hg => b4.block g (hglt g hg).2
            have V4 := VB.new (((wr.alloc (.cells #[.int .i64 3, .int .i64 ((j : Int) - 1), .slice none 0 0, .int .i64 1, .int .i64 (8 * (k : Int)), .slice none 0 0] 79)).alloc (.cells #[.int .i64 7, .int .i64 118, .slice (some ⟨wr.heap.size, 0, none⟩) 2 2] 79)).alloc (.cells #[.int .i64 7, .int .i64 118, .slice (some ⟨wr.heap.size, 0, none⟩) 2 2] 79)) 77 #[.int .i64 13, .int .i64 0, .int .i64 0, .slice (some ⟨wr.heap.size + 1 + 1, 0, none⟩) 1 1, .slice none 0 0, .slice none 0 0]
            have hz4 : (((wr.alloc (.cells #[.int .i64 3, .int .i64 ((j : Int) - 1), .slice none 0 0, .int .i64 1, .int .i64 (8 * (k : Int)), .slice none 0 0] 79)).alloc (.cells #[.int .i64 7, .int .i64 118, .slice (some ⟨wr.heap.size, 0, none⟩) 2 2] 79)).alloc (.cells #[.int .i64 7, .int .i64 118, .slice (some ⟨wr.heap.size, 0, none⟩) 2 2] 79)).heap.size = wr.heap.size + 1 + 1 + 1 := by simp
            rw [hz4] at V4
            have hc4 : ∀ (jj : Nat) (u : Value), ([.int .i64 13, .int .i64 0, .int .i64 0, .slice (some ⟨wr.heap.size + 1 + 1, 0, none⟩) 1 1, .slice none 0 0, .slice none 0 0] : List Value)[jj]? = some u → ((((wr.alloc (.cells #[.int .i64 3, .int .i64 ((j : Int) - 1), .slice none 0 0, .int .i64 1, .int .i64 (8 * (k : Int)), .slice none 0 0] 79)).alloc (.cells #[.int .i64 7, .int .i64 118, .slice (some ⟨wr.heap.size, 0, none⟩) 2 2] 79)).alloc (.cells #[.int .i64 7, .int .i64 118, .slice (some ⟨wr.heap.size, 0, none⟩) 2 2] 79)).alloc (.cells #[.int .i64 13, .int .i64 0, .int .i64 0, .slice (some ⟨wr.heap.size + 1 + 1, 0, none⟩) 1 1, .slice none 0 0, .slice none 0 0] 77)).cell? ((⟨wr.heap.size + 1 + 1 + 1, 0, none⟩ : Addr).add jj) = some u := by
              intro jj u hj
              rw [Addr.add_lit, Nat.zero_add, V4.cell jj, List.getElem?_toArray]
              exact hj
            have hV4 := hV.out.call b4
            have hb4 := hb.out.trans (b4.mono (by omega))
            replace ht4 := Lib.hid ht4
            replace hv4 := Lib.hid hv4
            replace hrow4 := Lib.hid hrow4
            replace hc4 := Lib.hid hc4
            replace hV4 := Lib.hid hV4
            replace hb4 := Lib.hid hb4
            clear e1 e2 b4 V4 hz4 hSn hv hrow hV hb hglt
            go_wp2_with (first
              | (at_builtin; refine app_row Tryz.underlying74 hiL.out hzL.out hsL.out hbL.out rfl (by decide) rfl (.tmp 35) (.tmp 39) rfl rfl hrow4.out ⟨wr.heap.size + 1 + 1 + 1, 0, none⟩ 1 1 [.int .i64 13, .int .i64 0, .int .i64 0, .slice (some ⟨wr.heap.size + 1 + 1, 0, none⟩) 1 1, .slice none 0 0, .slice none 0 0] rfl rfl hc4.out (by simp [Value.oneCell']) (by unfold maxLen; omega) (by omega) (by simp; omega) ?_; intro v5 w5 own5 g5 loc5)
              | fail)
            have hn5 := OwnLs.app (u := (.int .i64 13, .int .i64 0, .int .i64 0, .slice (some ⟨wr.heap.size + 1 + 1, 0, none⟩) 1 1, .slice none 0 0, .slice none 0 0)) hv4.out ht4.out own5 g5 loc5
            have hV5 := VB.grownA hV4.out g5 (fun g hg e => row_ne hV4.out hrow4.out (by decide) (hg.trans (congrArg some e.symm)))
            have hb5 := hb4.out.grown g5 (by simp; omega) (fun g hg => (World.ownsRow.lt hrow4.out g hg).1)
            rw [hts.out] at hn5
            have hn6 : askTo j ++ (List.range (k + 1)).map (askT (askX j)) = askTo j ++ (List.range k).map (askT (askX j)) ++ [askT (askX j) k] := by rw [List.range_succ, List.map_append, ← List.append_assoc]; rfl
            rw [← hn6] at hn5
            go_roundw
            case measure => simp only [intOf]; omega
            case rel => exact ⟨k + 1, by simp, by omega, hn5, hb5, hV5⟩
          · obtain rfl : k = 4 := by omega
            have hnext : askTo j ++ (List.range 4).map (askT (askX j)) = askTo (j + 1) := rfl
            rw [hnext] at hown
            replace hown := Lib.hid hown
            replace hb := Lib.hid hb
            clear hV hnext
            go_wp2_with fail
            exact ⟨⟨j + 1, by simp, by omega, hown.out, hb.out⟩, by simp only [intOf]; omega⟩
    · obtain rfl : j = 6 := by omega
      rw [askTo_six] at hown
      have hl6 := hown.lol
      obtain ⟨Al, cl, rfl⟩ := hl6.slice
      rw [show (askL.length : Nat) = 25 from rfl] at hl6 ⊢
      have hP := P3.out.below hb (by omega)
      have hR := R3.out.below hb (by omega)
      have hbw := B3.out.trans (hb.mono (by omega))
      have hfr : FxL (fun b => S b ∧ b ≠ w.heap.size ∧ b ≠ w.heap.size + 1) wr fs (.slice A fs.length cf) := hfs.out.keep hbw.size (fun b hb hS => ⟨hS, by omega, by omega⟩) (fun b o u hb' _ hc => (hbw.cell (p := ⟨b, o, none⟩) hb').trans hc)
      obtain ⟨A', c', he, hfc, hfm, hfx⟩ := hfr
      simp only [Value.slice.injEq, true_and] at he
      obtain ⟨rfl, rfl⟩ := he
      obtain ⟨bF, offF, rfl, hbF, hSF, hats⟩ := hfx hfne
      obtain ⟨vsF, hF1, hF2, hF3⟩ := Fx.ats_cells hats
      have hFl := FxV.length hF1
      have x0 := hP.cell 0
      simp at x0
      have xl := hP.lt
      have hE : (wr.alloc (.cells #[] 81)).ownsRow wr.heap.size 81 3 (.slice (some ⟨wr.heap.size, 0, none⟩) 0 0) 0 [] := ⟨by simp, .inr ⟨_, 0, _, rfl, Nat.le_refl _, VB.new wr _ _, by simp, by simp [maxLen], by simp, by simp⟩⟩
      have hFcell : ∀ (jj : Nat) (u : Value), (vsF.flatMap fun v => [v.1, v.2.1, v.2.2])[jj]? = some u → (wr.alloc (.cells #[] 81)).cell? ((⟨bF, offF, none⟩ : Addr).add jj) = some u := fun jj u hj => by
        rw [Addr.add_lit]
        exact cellA (hF3 jj u hj) _
      have hFlen : (vsF.flatMap fun v => [v.1, v.2.1, v.2.2]).length = fs.length * 3 := by rw [← hFl]; exact Ex.flat_length vsF
      replace hE := Lib.hid hE
      replace hFcell := Lib.hid hFcell
      replace hF2 := Lib.hid hF2
      replace hFlen := Lib.hid hFlen
      replace hl6 := Lib.hid hl6
      replace hP := Lib.hid hP
      replace hR := Lib.hid hR
      replace hbw := Lib.hid hbw
      replace hF1 := Lib.hid hF1
      have hjI : ¬ ((6 : Nat) : Int) - 1 < 5 := by decide
      clear hown hats hF3 hfx
      go_wp2_with (first
        | (at_builtin; refine app_row Tryz.underlying27 hiF.out hzF.out hsF.out hbFn.out rfl (by decide) rfl (.tmp 41) (.tmp 43) rfl rfl hE.out ⟨bF, offF, none⟩ fs.length cf (vsF.flatMap fun v => [v.1, v.2.1, v.2.2]) rfl hFlen.out hFcell.out hF2.out (by unfold maxLen; omega) (by omega) (by simp) ?_; intro v5 w5 own5 g5 loc5; rw [Nat.zero_add, List.nil_append] at own5; obtain ⟨A5, k5, rfl⟩ := row_slice own5; have b5 := Lib.hid (Below.grown (B.alloc (B.refl wr) (.cells #[] 81)) g5 (by simp) (fun g hg => (World.ownsRow.lt hE.out g hg).1)); replace own5 := Lib.hid own5; replace g5 := Lib.hid g5; replace loc5 := Lib.hid loc5; have hz5 := b5.out.size; have lt5 := Lib.hid (World.ownsRow.lt own5.out))
        | (at_builtin; refine app_row Tryz.underlying27 hiF.out hzF.out hsF.out hbFn.out rfl (by decide) rfl (.tmp 44) (.tmp 47) rfl rfl (World.ownsRow.alloc own5.out _) ⟨w5.heap.size, 0, none⟩ 1 1 [.int .i64 0, .int .i64 1, .slice Al 25 cl] rfl rfl (cells3 w5 _ _ _ _) (by simp [Value.oneCell']) (by unfold maxLen; omega) (by omega) (by simp; omega) ?_; intro v6 w6 own6 g6 loc6; obtain ⟨A6, k6, rfl⟩ := row_slice own6; have b6 := Lib.hid (Below.grown (B.alloc b5.out (.cells #[.int .i64 0, .int .i64 1, .slice Al 25 cl] 81)) g6 (by simp; omega) (fun g hg => (lt5.out g hg).1)); replace own6 := Lib.hid own6; replace g6 := Lib.hid g6; replace loc6 := Lib.hid loc6; have hP6 := hP.out.below b6.out (by omega); have hR6 := hR.out.below b6.out (by omega); have y0 := hP6.cell 0; have y1 := hP6.cell 1; have y2 := hP6.cell 2; have y3 := hP6.cell 3; have y4 := hP6.cell 4; have yf0 := hP6.free 0; have yf4 := hP6.free 4; have yl := hP6.lt; have z0 := hR6.cell 0; have z1 := hR6.cell 1; have z2 := hR6.cell 2; have z3 := hR6.cell 3; have z4 := hR6.cell 4; have zf0 := hR6.free 0; have zf1 := hR6.free 1; have zf2 := hR6.free 2; have zf3 := hR6.free 3; have zf4 := hR6.free 4; have zl := hR6.lt; simp at y0 y1 y2 y3 y4 z0 z1 z2 z3 z4; replace hP6 := Lib.hid hP6; replace hR6 := Lib.hid hR6)
        | fail)
      have hRp := (hR6.out.far w.heap.size 0 (by omega) (.slice A6 (fs.length + 1) k6)).far w.heap.size 4 (by omega) (.int .i64 (fs.length : Int))
      have U7 := hRp.set5 (.slice A6 (fs.length + 1) k6) (.slice AG nG cG) (.slice AD nD cD) (.int .i64 pages) (.int .i64 (fs.length : Int))
      have r0 := U7.cell 0
      have r1 := U7.cell 1
      have r2 := U7.cell 2
      have r3 := U7.cell 3
      have r4 := U7.cell 4
      simp at r0 r1 r2 r3 r4
      refine bodyPost_ret (v := .agg #[.slice A6 (fs.length + 1) k6, .slice AG nG cG, .slice AD nD cD, .int .i64 pages, .int .i64 (fs.length : Int)]) (by simp [results, Tryz.results11, go_sem, r0, r1, r2, r3, r4]) rfl ⟨A6, k6, rfl, ?_, ?_⟩
      · have hk : ∀ S : Nat → Prop, ∀ p n l v, FnAt S wr p n l v → FnAt S w6 p n l v := fun S p n l v h => h.keepS b6.out.size (fun _ _ h => h) (fun b o u hb _ hc => (b6.out.cell (p := ⟨b, o, none⟩) hb).trans hc)
        have hnew : FnAt (fun b => S b ∧ b ≠ w.heap.size ∧ b ≠ w.heap.size + 1) w6 0 1 askL (.agg #[.int .i64 0, .int .i64 1, .slice Al 25 cl]) := hk _ _ _ _ _ ⟨_, rfl, hl6.out.mono fun b _ hb => ⟨hN.out b (by omega), by omega, by omega⟩⟩
        have hv6 := FxV.snoc (t := ⟨0, 1, askL⟩) (v := (.int .i64 0, .int .i64 1, .slice Al 25 cl)) (hF1.out.imp (hk _)) hnew
        have hrow6 := own6.out
        have hfl6 : FxL (fun b => S b ∧ b ≠ w.heap.size ∧ b ≠ w.heap.size + 1) w6 (fs ++ [⟨0, 1, askL⟩]) (.slice A6 (fs.length + 1) k6) := by
          refine FxL.ofRow hv6 (B := wr.heap.size) (by rw [List.length_append, List.length_singleton, List.flatMap_append]; simpa using hrow6) (fun g hg => ?_)
          have := (World.ownsRow.lt hrow6 g hg).1
          exact ⟨hN.out _ (by omega), by omega, by omega⟩
        refine FxL.mono (hfl6.keep ?_ (fun _ _ h => h) fun b o u hb hS hc => ?_) (fun _ _ h => h.1)
        · simp [World.setCell]
        · rw [← hc]
          refine World.cell?_of_block (w := w6) ?_
          exact (Below.heap_setCell _ ⟨w.heap.size + 1, 4, none⟩ _ b hS.2.2).trans ((Below.heap_setCell _ ⟨w.heap.size + 1, 3, none⟩ _ b hS.2.2).trans ((Below.heap_setCell _ ⟨w.heap.size + 1, 2, none⟩ _ b hS.2.2).trans ((Below.heap_setCell _ ⟨w.heap.size + 1, 1, none⟩ _ b hS.2.2).trans ((Below.heap_setCell _ ⟨w.heap.size + 1, 0, none⟩ _ b hS.2.2).trans ((Below.heap_setCell _ ⟨w.heap.size, 4, none⟩ _ b hS.2.1).trans (Below.heap_setCell _ ⟨w.heap.size, 0, none⟩ _ b hS.2.1))))))
      · have hb6 := hbw.out.trans (b6.out.mono hbw.out.size)
        exact B.set5 ((hb6.setCell (p := ⟨w.heap.size, 0, none⟩) (Nat.le_refl _) _).setCell (p := ⟨w.heap.size, 4, none⟩) (Nat.le_refl _) _) (by omega) _ _ _ _ _

end Go.Proofs.YtgohnekaolgblaaGreat
