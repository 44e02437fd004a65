/- The document's machine: a function is called: contract (gimletref28's Machine.call), of a list's. -/
import Derived.Test.YtgohnekaolgblaaGreatQ13
import Derived.Test.YtgohnekaolgblaaGreatQ14
import Derived.Deep.RegionLaw
namespace Go.Proofs.YtgohnekaolgblaaGreat
open Go.RowKit

theorem OwnW.owns {w : World} {lo : Nat} {v : Value} {l : List Nat} : OwnW w lo v l ↔ Owns 22 .u32 lo w v (l.map fun n : Nat => (n : Int)) := by
  unfold OwnW Owns
  rw [List.map_map, List.length_map]
  exact Iff.rfl
theorem MaAt.withOwn {F : Nat → Prop} {fs : List Fx} {K : Mx} {w : World} {sv outv ov ov' : Value} {s : St} {own' : List Nat} (h : MaAt F fs K w sv outv ov s) (ho : OwnW w K.lo ov' own') (hne : ov'.ownBlock ≠ some K.gb) (hw : ∀ v ∈ own', v < 4294967296) (hl : own'.length ≤ 2000) : MaAt F fs K w sv outv ov' { s with own := own' } :=
  ⟨h.vb, h.mem, h.g, ho, h.out, h.funs, h.low, h.lox, h.lom, hne, ⟨h.ok.up, h.ok.place, h.ok.byt, h.ok.pages, h.ok.g, h.ok.gl, hw, hl, h.ok.outl, h.ok.sum, h.ok.told, h.ok.n, h.ok.deep⟩⟩
theorem MaAt.setDeep {F : Nat → Prop} {fs : List Fx} {K : Mx} {w : World} {sv outv ov : Value} {s : St} (h : MaAt F fs K w sv outv ov s) (d : Nat) (hd : d ≤ 5000) : MaAt F fs K (w.setCell ⟨K.x, 14, none⟩ (.int .i64 (d : Int))) sv outv ov { s with deep := d } :=
  h.setX 14 _ { s with deep := d } rfl rfl rfl rfl rfl ⟨h.ok.up, h.ok.place, h.ok.byt, h.ok.pages, h.ok.g, h.ok.gl, h.ok.own, h.ok.ownl, h.ok.outl, h.ok.sum, h.ok.told, h.ok.n, hd⟩ (h.vb.set 14 _)
theorem MaAt.setTold {F : Nat → Prop} {fs : List Fx} {K : Mx} {w : World} {sv outv ov : Value} {s : St} (h : MaAt F fs K w sv outv ov s) (d : Nat) (hd : d < 4294967296) : MaAt F fs K (w.setCell ⟨K.x, 15, none⟩ (.int .u32 (d : Int))) sv outv ov { s with told := d } :=
  h.setX 15 _ { s with told := d } rfl rfl rfl rfl rfl ⟨h.ok.up, h.ok.place, h.ok.byt, h.ok.pages, h.ok.g, h.ok.gl, h.ok.own, h.ok.ownl, h.ok.outl, h.ok.sum, hd, h.ok.n, h.ok.deep⟩ (h.vb.set 15 _)

theorem below_drew {B : Nat} {w w' : World} (h : Below B w w') : Below B w w'.drew := ⟨h.os, h.tape, h.output, h.size, h.block⟩
theorem row_row_ne {w : World} {B B' : Nat} {E E' : TypeId} {size size' : Nat} {v v' : Value} {n n' : Nat} {xs xs' : List Value} (h : w.ownsRow B E size v n xs) (h' : w.ownsRow B' E' size' v' n' xs') (hne : E ≠ E') : ∀ g, v.ownBlock = some g → v'.ownBlock ≠ some g := by
  intro g e e'
  obtain ⟨-, ⟨rfl, -⟩ | ⟨a, cap, cur, rfl, -, hh, -⟩⟩ := h
  · cases e
  · obtain ⟨-, ⟨rfl, -⟩ | ⟨b, cap', cur', rfl, -, hh', -⟩⟩ := h'
    · cases e'
    · simp only [Value.ownBlock, Option.some.injEq] at e e'
      subst e; subst e'
      rw [hh] at hh'
      simp only [Option.some.injEq, Obj.cells.injEq] at hh'
      exact hne hh'.2.1
/-- The caller's own words stay. -/
theorem MaAt.ownKeep {F : Nat → Prop} {fs : List Fx} {K : Mx} {w w' : World} {sv outv ov : Value} {s : St} (h : MaAt F fs K w sv outv ov s) (g : GrowS (MaC K sv) w w') : OwnW w' K.lo ov s.own :=
  row_keep h.own fun b hb => g.block b (World.ownsRow.lt h.own b hb).2 fun e => by
    rcases e with e | e | e | e
    · exact row_ne h.vb h.own (by decide) (by rw [hb, e])
    · exact row_ne h.mem.vb h.own (by decide) (by rw [hb, e])
    · exact h.apart (by rw [hb, e])
    · exact row_row_ne h.own h.mem.own (by decide) b hb e
/-- How a call ends. -/
def MaCEnd (F : Nat → Prop) (fs : List Fx) (K : Mx) (w : World) (sv ov : Value) (s1 : St) (w' : World) : Prop := ∃ sv' outv', MaAt F fs K w' sv' outv' ov s1 ∧ GrowS (MaC K sv) w w' ∧ SvNew w sv sv'
/-- A call's. -/
def MaCall (F : Nat → Prop) (fs : List Fx) (K : Mx) (k : Nat) : Prop := ∀ (w : World) (sv outv ov lv : Value) (s s1 : St) (h n lo : Nat) (vs : List Nat), MaAt F fs K w sv outv ov s → OwnW w lo lv vs → (∀ v ∈ vs, v < 4294967296) → Runs fs k (.call n vs) s s1 h →
  Calls Tryz.prog 32 #[.pointer (some ⟨K.x, 0, none⟩), .int .i64 (n : Int), lv] w fun e w' => e = .returned (.int .i64 (h : Int)) ∧ MaCEnd F fs K w sv ov s1 w'

set_option maxRecDepth 100000 in
set_option maxHeartbeats 2000000 in
theorem maCall (F : Nat → Prop) (fs : List Fx) (K : Mx) (k : Nat) (hlist : MaList F fs K k) : MaCall F fs K k := by
  intro w sv outv ov lv s s1 h n lo vs hM hlv hvs hR
  cases hR with
  | fn hd hf hc hcl hvl h1 hR =>
  rename_i f sq hq c
  obtain ⟨hn, hfe⟩ := List.getElem?_eq_some_iff.1 hf
  obtain ⟨Af, cf, hAf⟩ : ∃ Af cf, K.vF = .slice Af fs.length cf := by obtain ⟨A, c, e, -⟩ := hM.funs; exact ⟨A, c, e⟩
  have x14 := hM.vb.cell 14
  have f14 := hM.vb.free 14
  have xl := hM.vb.lt
  simp [Mx.cells] at x14
  have hdI : (s.deep : Int) < 5000 := by omega
  have hnI : (n : Int) < (fs.length : Int) := by omega
  have hsame := hR.same.2.1
  simp only at hsame
  have M1 := hM.setDeep (s.deep + 1) (by omega)
  rw [show ((s.deep + 1 : Nat) : Int) = (s.deep : Int) + 1 by omega] at M1
  have G1 := (GrowS.refl (MaC K sv) w).set (b := K.x) (i := 14) (.inl rfl) (.int .i64 ((s.deep : Int) + 1))
  have x0 := M1.vb.cell 0
  simp [Mx.cells, hAf] at x0
  have hfn := M1.funs
  rw [hAf] at hfn
  obtain ⟨b, off, A1, k1, rfl, hbw, hFb, c0, c1, c2, hfl⟩ := hfn.elem n hn
  rw [hfe] at c0 c1 c2 hfl
  have hsl : Sees .u32 w lv (vs.map fun n : Nat => (n : Int)) := (OwnW.owns.1 hlv).sees
  have hsl1 : Sees .u32 (w.setCell ⟨K.x, 14, none⟩ (.int .i64 ((s.deep : Int) + 1))) lv (vs.map fun n : Nat => (n : Int)) := by
    refine (OwnW.owns.1 (row_keep hlv fun g hg => Below.heap_setCell w ⟨K.x, 14, none⟩ _ g (fun e => ?_))).sees
    exact row_ne hM.vb hlv (by decide) (by rw [hg, e])
  rw [hc] at c1
  replace M1 := Lib.hid M1
  replace G1 := Lib.hid G1
  replace hsl1 := Lib.hid hsl1
  replace hfl := Lib.hid hfl
  have hh2 := hR.how
  replace hR := Lib.hid hR
  replace hlist := Lib.hid hlist
  replace hM := Lib.hid hM
  clear hsl hfn
  obtain ⟨iC, hiC, hzC, hsC, hbC⟩ := info_parts3 (show (Tryz.prog.info? 22).map (fun i => (i.zero, i.size, i.bytes)) = some (some (.int .u32 0), 1, 4) by kernel_rfl)
  replace hiC := Lib.hid hiC
  replace hzC := Lib.hid hzC
  replace hsC := Lib.hid hsC
  replace hbC := Lib.hid hbC
  have hcI : (c : Int) ≤ 1000 := by omega
  go_enter Tryz.func32, Tryz.ntmps32
  go_wp2_with fail
  obtain ⟨wp, hwp⟩ : ∃ wp, wp = w.setCell ⟨K.x, 14, none⟩ (.int .i64 ((s.deep : Int) + 1)) := ⟨_, rfl⟩
  rw [← hwp] at M1 G1 hsl1 hfl ⊢
  have V2 := VB.new wp 81 #[.int .i64 f.p, .int .i64 (c : Int), .slice A1 f.l.length k1]
  have hps : wp.heap.size = w.heap.size := by rw [hwp]; simp [World.setCell]
  have M2 := Lib.hid (M1.out.below (B.alloc (B.refl wp) (.cells #[.int .i64 f.p, .int .i64 (c : Int), .slice A1 f.l.length k1] 81)))
  have G2 := Lib.hid (G1.out.alloc (.cells #[.int .i64 f.p, .int .i64 (c : Int), .slice A1 f.l.length k1] 81))
  have hsl2 := Lib.hid (hsl1.out.alloc (.cells #[.int .i64 f.p, .int .i64 (c : Int), .slice A1 f.l.length k1] 81))
  have hfl2 := Lib.hid (hfl.out.alloc (.cells #[.int .i64 f.p, .int .i64 (c : Int), .slice A1 f.l.length k1] 81))
  rw [hps] at V2
  have hsz2 : (wp.alloc (.cells #[.int .i64 f.p, .int .i64 (c : Int), .slice A1 f.l.length k1] 81)).heap.size = w.heap.size + 1 := by simp [hps]
  generalize wp.alloc (.cells #[.int .i64 f.p, .int .i64 (c : Int), .slice A1 f.l.length k1] 81) = w2 at V2 M2 G2 hsl2 hfl2 hsz2 ⊢
  have z1 := V2.cell 1
  have z2 := V2.cell 2
  simp at z1 z2
  have hvl1 : (vs.map fun n : Nat => (n : Int)).length = vs.length := by simp
  replace V2 := Lib.hid V2
  replace hvl1 := Lib.hid hvl1
  clear hwp M1 G1 hsl1 hfl x0 c0 c1 c2 x14 f14
  go_region_law (first
    | (go_loud (refine step_app2 (B := w2.heap.size) (w0 := w2) Tryz.underlying23 hiC.out hzC.out hsC.out hbC.out rfl (.tmp 32) (.tmp 33) rfl (by simp [go_sem]) (by simp [go_sem]) (hsl2.out.below (below_drew (B.alloc (B.refl w2) (.cells #[] 22))) (Nat.le_refl _)) (Owns.empty 22 .u32 w2) (below_drew (B.alloc (B.refl w2) (.cells #[] 22))) (by simp) (by rw [hvl1.out]; simp; omega) (by rw [hvl1.out]; simp; unfold maxLen; omega) (by simp) ?_; intro v3 w3 own3 b3 l3 ne3; have y1 := (b3.cell (p := ⟨w.heap.size, 1, none⟩) (by simp only; omega)).trans z1; have y2 := (b3.cell (p := ⟨w.heap.size, 2, none⟩) (by simp only; omega)).trans z2))
    | (go_loud (refine step_zeros (B := w2.heap.size) (w0 := w2) Tryz.underlying23 Tryz.underlying3 hiC.out hzC.out hsC.out hbC.out rfl (.tmp 34) (.tmp 36) rfl c (by simp [go_sem]) (by simp [go_sem]) own3 ne3 b3 l3 (by simp; omega) (by simp; unfold maxLen; omega) (by omega) (by omega) ?_; intro v4 w4 own4 b4 l4)))
  all_goals (
    have hx2 : K.x ≠ w.heap.size := by omega
    have hlo2 : K.lo ≤ w2.heap.size := by have := hM.out.lox; omega
    have hlt4 := own4.lt
    have own4' : OwnW w4 K.lo v4 (vs ++ List.replicate c 0) := row_low (OwnW.owns.2 (by simpa using own4)) hlo2
    have hgb := (World.ownsRow.lt hM.out.g K.gb rfl).2
    have M4 := (M2.out.below b4).withOwn own4' (fun e => by have := (hlt4 _ e).1; omega) (fun v hv => by rcases List.mem_append.1 hv with hv | hv; exact hvs v hv; have := (List.mem_replicate.1 hv).2; omega) (by simp; omega)
    have x15 := M4.vb.cell 15
    have f15 := M4.vb.free 15
    have xl4 := M4.vb.lt
    simp [Mx.cells] at x15
    have u2 := (b4.cell (p := ⟨w.heap.size, 2, none⟩) (by simp only; omega)).trans z2
    have M5 := M4.setTold 0 (by omega)
    have G4 := G2.out.thenS (GrowS.below (GrowS.refl (MaC K sv) w2) b4) (fun _ _ h => h)
    have G5 := G4.set (b := K.x) (i := 15) (.inl rfl) (.int .u32 0)
    have hfl5 := LoL.ma M4 ((GrowS.refl (MaS K sv v4) w4).set (b := K.x) (i := 15) (.inl rfl) (.int .u32 0)) (hfl2.out.below b4)
    have C := Lib.hid (hlist.out _ sv outv v4 _ _ _ _ _ M5 hfl5 hR.out)
    replace M5 := Lib.hid M5
    replace G5 := Lib.hid G5
    replace own4' := Lib.hid own4'
    replace hlt4 := Lib.hid hlt4
    clear own3 own4 b3 l3 ne3 y1 y2 M4 hfl5 G4 z1 z2
    go_wp2_with fail
    refine C.out.mono ?_
    rintro _ w6 ⟨sv6, outv6, rfl, M6, G6, S6⟩
    have x14 := M6.vb.cell 14
    have f14 := M6.vb.free 14
    have x15 := M6.vb.cell 15
    have f15 := M6.vb.free 15
    have xl6 := M6.vb.lt
    simp [Mx.cells, hsame] at x14 x15
    have S6' : SvNew w sv sv6 := fun g hg => (S6 g hg).imp id fun e => Nat.le_trans G5.out.size e
    have G6' : GrowS (MaC K sv) w w6 := G5.out.thenS G6 fun b hb e => by
      rcases e with e | e | e | e | e
      · exact .inl e
      · exact .inr (.inl e)
      · exact .inr (.inr (.inl e))
      · exact .inr (.inr (.inr e))
      · have := (hlt4.out b e).1
        omega
    rcases (by omega : hq = 0 ∨ hq = 2) with rfl | rfl
    · have M7 := Lib.hid ((M6.setTold 0 (by omega)).setDeep s.deep (by omega))
      have G7 := Lib.hid ((G6'.set (b := K.x) (i := 15) (.inl rfl) (.int .u32 0)).set (b := K.x) (i := 14) (.inl rfl) (.int .i64 (s.deep : Int)))
      replace S6' := Lib.hid S6'
      clear G6 S6 G6' M6 C M5 G5
      go_wp2_with fail
      go_returns
      exact ⟨rfl, sv6, outv6, M7.out.withOwn (hM.out.ownKeep G7.out) hM.out.apart hM.out.ok.own hM.out.ok.ownl, G7.out, S6'.out⟩
    · have M7 := Lib.hid (M6.setDeep s.deep (by omega))
      have G7 := Lib.hid (G6'.set (b := K.x) (i := 14) (.inl rfl) (.int .i64 (s.deep : Int)))
      replace S6' := Lib.hid S6'
      clear G6 S6 G6' M6 C M5 G5
      go_wp2_with fail
      go_returns
      exact ⟨rfl, sv6, outv6, M7.out.withOwn (hM.out.ownKeep G7.out) hM.out.apart hM.out.ok.own hM.out.ok.ownl, G7.out, S6'.out⟩)

end Go.Proofs.YtgohnekaolgblaaGreat

/- The document's machine: one thing: contracts (gimletref28's Machine.one), the simple kinds (printed by wip/gen_maone.py). -/
namespace Go.Proofs.YtgohnekaolgblaaGreat
open Go.RowKit

theorem OwnW.set {w : World} {lo : Nat} {A : Option Addr} {c : Nat} {l : List Nat} (h : OwnW w lo (.slice A l.length c) l) {g : Nat} (hA : A = some ⟨g, 0, none⟩) (x u : Nat) : OwnW (w.setCell ⟨g, x, none⟩ (.int .u32 (u : Int))) lo (.slice A l.length c) (l.set x u) := by
  subst hA
  have hs := (World.ownsRow.stored h x (.int .u32 (u : Int))).1
  unfold OwnW
  rw [List.length_set, List.map_set]
  exact hs
/-- What a store into a block that is not the machine's leaves. -/
theorem MaAt.away {F : Nat → Prop} {fs : List Fx} {K : Mx} {w : World} {sv outv ov : Value} {s : St} (h : MaAt F fs K w sv outv ov s) {b : Nat} (i : Nat) (u : Value) (hx : b ≠ K.x) (hm : b ≠ K.m) (hs : sv.ownBlock ≠ some b) (ho : outv.ownBlock ≠ some b) (hF : ¬ F b) :
    VB (w.setCell ⟨b, i, none⟩ u) K.x 88 (K.cells s outv) ∧ MemAt (w.setCell ⟨b, i, none⟩ u) (K.m + 1) K.m (s.N : Int) 65536 sv s.L ∧ OwnY (w.setCell ⟨b, i, none⟩ u) K.lo outv s.out ∧ FxL F (w.setCell ⟨b, i, none⟩ u) fs K.vF := by
  have hk : ∀ k, k ≠ b → (w.setCell ⟨b, i, none⟩ u).heap[k]? = w.heap[k]? := fun k hk => Below.heap_setCell w ⟨b, i, none⟩ u k hk
  refine ⟨(hk _ hx.symm).trans h.vb, ⟨(hk _ hm.symm).trans h.mem.vb, row_keep h.mem.own fun g hg => hk g (fun e => hs (by rw [hg, e])), h.mem.up⟩, row_keep h.out fun g hg => hk g (fun e => ho (by rw [hg, e])), ?_⟩
  refine h.funs.keep (by simp [World.setCell]) (fun _ _ h => h) fun c o u hc hFc hcell => ?_
  rw [← hcell]
  exact World.cell?_of_block (w := w) (hk c (fun e => hF (e ▸ hFc)))
theorem MaAt.setOwn {F : Nat → Prop} {fs : List Fx} {K : Mx} {w : World} {sv outv : Value} {s : St} {go co : Nat} (h : MaAt F fs K w sv outv (.slice (some ⟨go, 0, none⟩) s.own.length co) s) (x u : Nat) (hu : u < 4294967296) :
    MaAt F fs K (w.setCell ⟨go, x, none⟩ (.int .u32 (u : Int))) sv outv (.slice (some ⟨go, 0, none⟩) s.own.length co) { s with own := s.own.set x u } := by
  have hlo := World.ownsRow.lt h.own go rfl
  have hne : K.gb ≠ go := fun e => h.apart (by rw [e]; rfl)
  obtain ⟨h1, h2, h3, h4⟩ := h.away (b := go) x (.int .u32 (u : Int)) (fun e => row_ne h.vb h.own (by decide) (by rw [← e]; rfl)) (fun e => row_ne h.mem.vb h.own (by decide) (by rw [← e]; rfl)) (row_row_ne h.own h.mem.own (by decide) go rfl) (row_row_ne h.own h.out (by decide) go rfl) (fun e => by have := h.low go e; omega)
  refine ⟨h1, h2, ?_, OwnW.set h.own rfl x u, h3, h4, h.low, h.lox, h.lom, h.apart, ⟨h.ok.up, h.ok.place, h.ok.byt, h.ok.pages, h.ok.g, h.ok.gl, fun v hv => ?_, by simp only [List.length_set]; exact h.ok.ownl, h.ok.outl, h.ok.sum, h.ok.told, h.ok.n, h.ok.deep⟩⟩
  · exact row_keep h.g fun g hg => Below.heap_setCell w ⟨go, x, none⟩ _ g (fun e => by simp only [Value.ownBlock, Option.some.injEq] at hg; simp only at e; omega)
  · rcases List.mem_or_eq_of_mem_set hv with hv | rfl
    · exact h.ok.own v hv
    · exact hu
theorem MaAt.setG {F : Nat → Prop} {fs : List Fx} {K : Mx} {w : World} {sv outv ov : Value} {s : St} (h : MaAt F fs K w sv outv ov s) (x u : Nat) (hu : u < 4294967296) :
    MaAt F fs K (w.setCell ⟨K.gb, x, none⟩ (.int .u32 (u : Int))) sv outv ov { s with g := s.g.set x u } := by
  have hlo := World.ownsRow.lt h.g K.gb rfl
  obtain ⟨h1, h2, h3, h4⟩ := h.away (b := K.gb) x (.int .u32 (u : Int)) (fun e => row_ne h.vb h.g (by decide) (by rw [← e]; rfl)) (fun e => row_ne h.mem.vb h.g (by decide) (by rw [← e]; rfl)) (row_row_ne h.g h.mem.own (by decide) K.gb rfl) (row_row_ne h.g h.out (by decide) K.gb rfl) (fun e => by have := h.low K.gb e; omega)
  have hc : K.cells { s with g := s.g.set x u } outv = K.cells s outv := by simp [Mx.cells]
  refine ⟨by rw [hc]; exact h1, h2, ?_, ?_, h3, h4, h.low, h.lox, h.lom, h.apart, ⟨h.ok.up, h.ok.place, h.ok.byt, h.ok.pages, fun v hv => ?_, by simp only [List.length_set]; exact h.ok.gl, h.ok.own, h.ok.ownl, h.ok.outl, h.ok.sum, h.ok.told, h.ok.n, h.ok.deep⟩⟩
  · have := OwnW.set h.g rfl x u
    simpa only [List.length_set] using this
  · exact row_keep h.own fun g hg => Below.heap_setCell w ⟨K.gb, x, none⟩ _ g (fun e => h.apart (by rw [hg, e]))
  · rcases List.mem_or_eq_of_mem_set hv with hv | rfl
    · exact h.ok.g v hv
    · exact hu
theorem MaAt.setN {F : Nat → Prop} {fs : List Fx} {K : Mx} {w : World} {sv outv ov : Value} {s : St} (h : MaAt F fs K w sv outv ov s) (n : Nat) (hn : n ≤ 1000000) : MaAt F fs K (w.setCell ⟨K.x, 16, none⟩ (.int .i64 (n : Int))) sv outv ov { s with n := n } :=
  h.setX 16 _ { s with n := n } rfl rfl rfl rfl rfl ⟨h.ok.up, h.ok.place, h.ok.byt, h.ok.pages, h.ok.g, h.ok.gl, h.ok.own, h.ok.ownl, h.ok.outl, h.ok.sum, h.ok.told, hn, h.ok.deep⟩ (h.vb.set 16 _)

set_option maxRecDepth 100000 in
set_option maxHeartbeats 2000000 in
theorem maOneSet (F : Nat → Prop) (fs : List Fx) (K : Mx) (w : World) (sv outv ov t : Value) (s : St) (x n : Nat) (u : Nat) (a : List Ex) (l : List Lo) (hM : MaAt F fs K w sv outv ov s) (ht : Lo.at F w (.mk 1 x n a l) t) (hu : Ex.evs s a = some [u]) (hx : x < s.own.length) :
    Calls Tryz.prog 84 #[.pointer (some ⟨K.x, 0, none⟩), t, ov] w (MaPost F fs K w sv ov { s with own := s.own.set x u } 0) := by
  obtain ⟨va, vl, rfl, ha, hl⟩ := Lo.at_mk.1 ht
  obtain ⟨A, ca, rfl⟩ := ha.slice
  obtain ⟨A2, c2, rfl⟩ := hl.slice
  have hal : a.length = 1 := by have := (Ex.evs_get hu).1; simpa using this.symm
  have hult := Ex.evs_lt s hM.ok hu
  have V1 := VB.new w 77 #[.int .i64 1, .int .i64 (x : Int), .int .i64 (n : Int), .slice A a.length ca, .slice A2 l.length c2, .slice none 0 0]
  have b1 := B.alloc (B.refl w) (.cells #[.int .i64 1, .int .i64 (x : Int), .int .i64 (n : Int), .slice A a.length ca, .slice A2 l.length c2, .slice none 0 0] 77)
  have M1 := hM.below b1
  have E1 := Lib.hid (maExps F F fs K sv outv ov s a _ _ [u] M1 (ha.alloc (.cells #[.int .i64 1, .int .i64 (x : Int), .int .i64 (n : Int), .slice A a.length ca, .slice A2 l.length c2, .slice none 0 0] 77)) hu (by omega))
  have G1 := Lib.hid ((GrowS.refl (MaS K sv ov) w).below b1)
  have hl1 := Lib.hid (hl.alloc (.cells #[.int .i64 1, .int .i64 (x : Int), .int .i64 (n : Int), .slice A a.length ca, .slice A2 l.length c2, .slice none 0 0] 77))
  have hsz1 : (w.alloc (.cells #[.int .i64 1, .int .i64 (x : Int), .int .i64 (n : Int), .slice A a.length ca, .slice A2 l.length c2, .slice none 0 0] 77)).heap.size = w.heap.size + 1 := by simp
  replace M1 := Lib.hid M1
  clear ht ha hl hM b1
  replace hu := Lib.hid hu
  replace hal := Lib.hid hal
  replace hult := Lib.hid hult
  go_enter Tryz.func84, Tryz.ntmps84
  go_wp2_with fail
  generalize w.alloc (.cells #[.int .i64 1, .int .i64 (x : Int), .int .i64 (n : Int), .slice A a.length ca, .slice A2 l.length c2, .slice none 0 0] 77) = w1 at V1 M1 E1 G1 hl1 hsz1 ⊢
  refine E1.out.mono ?_
  rintro _ w2 ⟨lv, rfl, hlv, b2⟩
  have hlo2 := M1.out.lox
  have V2 := V1.call b2
  have M2 := Lib.hid (M1.out.below b2)
  have G2 := Lib.hid (G1.out.below b2)
  have hl2 := Lib.hid (hl1.out.below b2)
  obtain ⟨Al, cl, rfl, hlc⟩ := hlv.cell
  have y0 := V2.cell 0
  have y1 := V2.cell 1
  have y2 := V2.cell 2
  have y4 := V2.cell 4
  have y5 := V2.cell 5
  simp at y0 y1 y2 y4 y5
  have x1 := M2.out.vb.cell 5
  have x2 := M2.out.vb.cell 6
  have x7 := M2.out.vb.cell 15
  have x8 := M2.out.vb.cell 16
  have f7 := M2.out.vb.free 15
  have f8 := M2.out.vb.free 16
  have xl := M2.out.vb.lt
  simp [Mx.cells] at x1 x2 x7 x8
  have hv2 := V2.lt
  have S2 := Lib.hid (SvNew.refl w sv)
  obtain ⟨gl, rfl, hgl1, hgl2, lc0, lf0⟩ := hlc 0 (by simp)
  simp at lc0
  obtain ⟨Ao, co, rfl, hoc⟩ := M2.out.own.cell
  obtain ⟨go, rfl, hgo1, hgo2, oc, of_⟩ := hoc x hx
  have hxI : (x : Int) < (s.own.length : Int) := by omega
  have M3 := Lib.hid (M2.out.setOwn x u (hult.out u (by simp)))
  have G3 := Lib.hid (G2.out.set (b := go) (i := x) (.inr (.inr (.inr (.inr rfl)))) (.int .u32 (u : Int)))
  clear hlc hoc hl1 hl2 E1 M1 G1
  go_wp2_with fail
  go_region
  all_goals go_wp2_with fail
  all_goals go_returns
  all_goals exact ⟨sv, outv, rfl, M3.out.below (below_drew (B.refl _)), G3.out.drew, S2.out⟩

set_option maxRecDepth 100000 in
set_option maxHeartbeats 2000000 in
theorem maOnePut (F : Nat → Prop) (fs : List Fx) (K : Mx) (w : World) (sv outv ov t : Value) (s : St) (x n : Nat) (u : Nat) (a : List Ex) (l : List Lo) (hM : MaAt F fs K w sv outv ov s) (ht : Lo.at F w (.mk 2 x n a l) t) (hu : Ex.evs s a = some [u]) (hx : x < s.g.length) :
    Calls Tryz.prog 84 #[.pointer (some ⟨K.x, 0, none⟩), t, ov] w (MaPost F fs K w sv ov { s with g := s.g.set x u } 0) := by
  obtain ⟨va, vl, rfl, ha, hl⟩ := Lo.at_mk.1 ht
  obtain ⟨A, ca, rfl⟩ := ha.slice
  obtain ⟨A2, c2, rfl⟩ := hl.slice
  have hal : a.length = 1 := by have := (Ex.evs_get hu).1; simpa using this.symm
  have hult := Ex.evs_lt s hM.ok hu
  have V1 := VB.new w 77 #[.int .i64 2, .int .i64 (x : Int), .int .i64 (n : Int), .slice A a.length ca, .slice A2 l.length c2, .slice none 0 0]
  have b1 := B.alloc (B.refl w) (.cells #[.int .i64 2, .int .i64 (x : Int), .int .i64 (n : Int), .slice A a.length ca, .slice A2 l.length c2, .slice none 0 0] 77)
  have M1 := hM.below b1
  have E1 := Lib.hid (maExps F F fs K sv outv ov s a _ _ [u] M1 (ha.alloc (.cells #[.int .i64 2, .int .i64 (x : Int), .int .i64 (n : Int), .slice A a.length ca, .slice A2 l.length c2, .slice none 0 0] 77)) hu (by omega))
  have G1 := Lib.hid ((GrowS.refl (MaS K sv ov) w).below b1)
  have hl1 := Lib.hid (hl.alloc (.cells #[.int .i64 2, .int .i64 (x : Int), .int .i64 (n : Int), .slice A a.length ca, .slice A2 l.length c2, .slice none 0 0] 77))
  have hsz1 : (w.alloc (.cells #[.int .i64 2, .int .i64 (x : Int), .int .i64 (n : Int), .slice A a.length ca, .slice A2 l.length c2, .slice none 0 0] 77)).heap.size = w.heap.size + 1 := by simp
  replace M1 := Lib.hid M1
  clear ht ha hl hM b1
  replace hu := Lib.hid hu
  replace hal := Lib.hid hal
  replace hult := Lib.hid hult
  go_enter Tryz.func84, Tryz.ntmps84
  go_wp2_with fail
  generalize w.alloc (.cells #[.int .i64 2, .int .i64 (x : Int), .int .i64 (n : Int), .slice A a.length ca, .slice A2 l.length c2, .slice none 0 0] 77) = w1 at V1 M1 E1 G1 hl1 hsz1 ⊢
  refine E1.out.mono ?_
  rintro _ w2 ⟨lv, rfl, hlv, b2⟩
  have hlo2 := M1.out.lox
  have V2 := V1.call b2
  have M2 := Lib.hid (M1.out.below b2)
  have G2 := Lib.hid (G1.out.below b2)
  have hl2 := Lib.hid (hl1.out.below b2)
  obtain ⟨Al, cl, rfl, hlc⟩ := hlv.cell
  have y0 := V2.cell 0
  have y1 := V2.cell 1
  have y2 := V2.cell 2
  have y4 := V2.cell 4
  have y5 := V2.cell 5
  simp at y0 y1 y2 y4 y5
  have x1 := M2.out.vb.cell 5
  have x2 := M2.out.vb.cell 6
  have x7 := M2.out.vb.cell 15
  have x8 := M2.out.vb.cell 16
  have f7 := M2.out.vb.free 15
  have f8 := M2.out.vb.free 16
  have xl := M2.out.vb.lt
  simp [Mx.cells] at x1 x2 x7 x8
  have hv2 := V2.lt
  have S2 := Lib.hid (SvNew.refl w sv)
  obtain ⟨gl, rfl, hgl1, hgl2, lc0, lf0⟩ := hlc 0 (by simp)
  simp at lc0
  obtain ⟨Ag, cg, hg, hgc⟩ := M2.out.g.cell
  simp only [Value.slice.injEq, true_and] at hg
  obtain ⟨hg, -⟩ := hg
  obtain ⟨gb, hgb, hgo1, hgo2, oc, of_⟩ := hgc x hx
  obtain rfl : K.gb = gb := by simpa using hg.trans hgb
  have hxI : (x : Int) < (s.g.length : Int) := by omega
  have M3 := Lib.hid (M2.out.setG x u (hult.out u (by simp)))
  have G3 := Lib.hid (G2.out.set (b := K.gb) (i := x) (.inr (.inr (.inl rfl))) (.int .u32 (u : Int)))
  clear hlc hgc hl1 hl2 E1 M1 G1 hgb hg
  go_wp2_with fail
  go_region
  all_goals go_wp2_with fail
  all_goals go_returns
  all_goals exact ⟨sv, outv, rfl, M3.out.below (below_drew (B.refl _)), G3.out.drew, S2.out⟩

set_option maxRecDepth 100000 in
set_option maxHeartbeats 2000000 in
theorem maOneTell (F : Nat → Prop) (fs : List Fx) (K : Mx) (w : World) (sv outv ov t : Value) (s : St) (x n : Nat) (u : Nat) (a : List Ex) (l : List Lo) (hM : MaAt F fs K w sv outv ov s) (ht : Lo.at F w (.mk 9 x n a l) t) (hu : Ex.evs s a = some [u]) :
    Calls Tryz.prog 84 #[.pointer (some ⟨K.x, 0, none⟩), t, ov] w (MaPost F fs K w sv ov { s with told := u } 2) := by
  obtain ⟨va, vl, rfl, ha, hl⟩ := Lo.at_mk.1 ht
  obtain ⟨A, ca, rfl⟩ := ha.slice
  obtain ⟨A2, c2, rfl⟩ := hl.slice
  have hal : a.length = 1 := by have := (Ex.evs_get hu).1; simpa using this.symm
  have hult := Ex.evs_lt s hM.ok hu
  have V1 := VB.new w 77 #[.int .i64 9, .int .i64 (x : Int), .int .i64 (n : Int), .slice A a.length ca, .slice A2 l.length c2, .slice none 0 0]
  have b1 := B.alloc (B.refl w) (.cells #[.int .i64 9, .int .i64 (x : Int), .int .i64 (n : Int), .slice A a.length ca, .slice A2 l.length c2, .slice none 0 0] 77)
  have M1 := hM.below b1
  have E1 := Lib.hid (maExps F F fs K sv outv ov s a _ _ [u] M1 (ha.alloc (.cells #[.int .i64 9, .int .i64 (x : Int), .int .i64 (n : Int), .slice A a.length ca, .slice A2 l.length c2, .slice none 0 0] 77)) hu (by omega))
  have G1 := Lib.hid ((GrowS.refl (MaS K sv ov) w).below b1)
  have hl1 := Lib.hid (hl.alloc (.cells #[.int .i64 9, .int .i64 (x : Int), .int .i64 (n : Int), .slice A a.length ca, .slice A2 l.length c2, .slice none 0 0] 77))
  have hsz1 : (w.alloc (.cells #[.int .i64 9, .int .i64 (x : Int), .int .i64 (n : Int), .slice A a.length ca, .slice A2 l.length c2, .slice none 0 0] 77)).heap.size = w.heap.size + 1 := by simp
  replace M1 := Lib.hid M1
  clear ht ha hl hM b1
  replace hu := Lib.hid hu
  replace hal := Lib.hid hal
  replace hult := Lib.hid hult
  go_enter Tryz.func84, Tryz.ntmps84
  go_wp2_with fail
  generalize w.alloc (.cells #[.int .i64 9, .int .i64 (x : Int), .int .i64 (n : Int), .slice A a.length ca, .slice A2 l.length c2, .slice none 0 0] 77) = w1 at V1 M1 E1 G1 hl1 hsz1 ⊢
  refine E1.out.mono ?_
  rintro _ w2 ⟨lv, rfl, hlv, b2⟩
  have hlo2 := M1.out.lox
  have V2 := V1.call b2
  have M2 := Lib.hid (M1.out.below b2)
  have G2 := Lib.hid (G1.out.below b2)
  have hl2 := Lib.hid (hl1.out.below b2)
  obtain ⟨Al, cl, rfl, hlc⟩ := hlv.cell
  have y0 := V2.cell 0
  have y1 := V2.cell 1
  have y2 := V2.cell 2
  have y4 := V2.cell 4
  have y5 := V2.cell 5
  simp at y0 y1 y2 y4 y5
  have x1 := M2.out.vb.cell 5
  have x2 := M2.out.vb.cell 6
  have x7 := M2.out.vb.cell 15
  have x8 := M2.out.vb.cell 16
  have f7 := M2.out.vb.free 15
  have f8 := M2.out.vb.free 16
  have xl := M2.out.vb.lt
  simp [Mx.cells] at x1 x2 x7 x8
  have hv2 := V2.lt
  have S2 := Lib.hid (SvNew.refl w sv)
  obtain ⟨gl, rfl, hgl1, hgl2, lc0, lf0⟩ := hlc 0 (by simp)
  simp at lc0
  have M3 := Lib.hid (M2.out.setTold u (hult.out u (by simp)))
  have G3 := Lib.hid (G2.out.set (b := K.x) (i := 15) (.inl rfl) (.int .u32 (u : Int)))
  clear hlc hl1 hl2 E1 M1 G1
  go_wp2_with fail
  go_returns
  exact ⟨sv, outv, rfl, M3.out, G3.out, S2.out⟩

set_option maxRecDepth 100000 in
set_option maxHeartbeats 2000000 in
theorem maOneBrk (F : Nat → Prop) (fs : List Fx) (K : Mx) (w : World) (sv outv ov t : Value) (s : St) (x n : Nat) (l : List Lo) (hM : MaAt F fs K w sv outv ov s) (ht : Lo.at F w (.mk 7 x n [] l) t) (hn : n ≤ 1000) :
    Calls Tryz.prog 84 #[.pointer (some ⟨K.x, 0, none⟩), t, ov] w (MaPost F fs K w sv ov { s with n := n } 1) := by
  obtain ⟨va, vl, rfl, ha, hl⟩ := Lo.at_mk.1 ht
  obtain ⟨A, ca, rfl⟩ := ha.slice
  obtain ⟨A2, c2, rfl⟩ := hl.slice
  have V1 := VB.new w 77 #[.int .i64 7, .int .i64 (x : Int), .int .i64 (n : Int), .slice A 0 ca, .slice A2 l.length c2, .slice none 0 0]
  have b1 := B.alloc (B.refl w) (.cells #[.int .i64 7, .int .i64 (x : Int), .int .i64 (n : Int), .slice A 0 ca, .slice A2 l.length c2, .slice none 0 0] 77)
  have M1 := hM.below b1
  have E1 := Lib.hid (maExps F F fs K sv outv ov s [] _ _ [] M1 (ha.alloc (.cells #[.int .i64 7, .int .i64 (x : Int), .int .i64 (n : Int), .slice A 0 ca, .slice A2 l.length c2, .slice none 0 0] 77)) rfl (by simp))
  have G1 := Lib.hid ((GrowS.refl (MaS K sv ov) w).below b1)
  have hl1 := Lib.hid (hl.alloc (.cells #[.int .i64 7, .int .i64 (x : Int), .int .i64 (n : Int), .slice A 0 ca, .slice A2 l.length c2, .slice none 0 0] 77))
  have hsz1 : (w.alloc (.cells #[.int .i64 7, .int .i64 (x : Int), .int .i64 (n : Int), .slice A 0 ca, .slice A2 l.length c2, .slice none 0 0] 77)).heap.size = w.heap.size + 1 := by simp
  replace M1 := Lib.hid M1
  clear ht ha hl hM b1
  go_enter Tryz.func84, Tryz.ntmps84
  go_wp2_with fail
  generalize w.alloc (.cells #[.int .i64 7, .int .i64 (x : Int), .int .i64 (n : Int), .slice A 0 ca, .slice A2 l.length c2, .slice none 0 0] 77) = w1 at V1 M1 E1 G1 hl1 hsz1 ⊢
  refine E1.out.mono ?_
  rintro _ w2 ⟨lv, rfl, hlv, b2⟩
  have hlo2 := M1.out.lox
  have V2 := V1.call b2
  have M2 := Lib.hid (M1.out.below b2)
  have G2 := Lib.hid (G1.out.below b2)
  have hl2 := Lib.hid (hl1.out.below b2)
  obtain ⟨Al, cl, rfl, hlc⟩ := hlv.cell
  have y0 := V2.cell 0
  have y1 := V2.cell 1
  have y2 := V2.cell 2
  have y4 := V2.cell 4
  have y5 := V2.cell 5
  simp at y0 y1 y2 y4 y5
  have x1 := M2.out.vb.cell 5
  have x2 := M2.out.vb.cell 6
  have x7 := M2.out.vb.cell 15
  have x8 := M2.out.vb.cell 16
  have f7 := M2.out.vb.free 15
  have f8 := M2.out.vb.free 16
  have xl := M2.out.vb.lt
  simp [Mx.cells] at x1 x2 x7 x8
  have hv2 := V2.lt
  have S2 := Lib.hid (SvNew.refl w sv)
  have M3 := Lib.hid (M2.out.setN n (by omega))
  have G3 := Lib.hid (G2.out.set (b := K.x) (i := 16) (.inl rfl) (.int .i64 (n : Int)))
  clear hlc hl1 hl2 E1 M1 G1
  go_wp2_with fail
  go_returns
  exact ⟨sv, outv, rfl, M3.out, G3.out, S2.out⟩

set_option maxRecDepth 100000 in
set_option maxHeartbeats 2000000 in
theorem maOneSkip (F : Nat → Prop) (fs : List Fx) (K : Mx) (w : World) (sv outv ov t : Value) (s : St) (x n : Nat) (a : List Ex) (l : List Lo) (hM : MaAt F fs K w sv outv ov s) (ht : Lo.at F w (.mk 5 x n a l) t) (hu : Ex.evs s a = some [0]) :
    Calls Tryz.prog 84 #[.pointer (some ⟨K.x, 0, none⟩), t, ov] w (MaPost F fs K w sv ov s 0) := by
  obtain ⟨va, vl, rfl, ha, hl⟩ := Lo.at_mk.1 ht
  obtain ⟨A, ca, rfl⟩ := ha.slice
  obtain ⟨A2, c2, rfl⟩ := hl.slice
  have hal : a.length = 1 := by have := (Ex.evs_get hu).1; simpa using this.symm
  have hult := Ex.evs_lt s hM.ok hu
  have V1 := VB.new w 77 #[.int .i64 5, .int .i64 (x : Int), .int .i64 (n : Int), .slice A a.length ca, .slice A2 l.length c2, .slice none 0 0]
  have b1 := B.alloc (B.refl w) (.cells #[.int .i64 5, .int .i64 (x : Int), .int .i64 (n : Int), .slice A a.length ca, .slice A2 l.length c2, .slice none 0 0] 77)
  have M1 := hM.below b1
  have E1 := Lib.hid (maExps F F fs K sv outv ov s a _ _ [0] M1 (ha.alloc (.cells #[.int .i64 5, .int .i64 (x : Int), .int .i64 (n : Int), .slice A a.length ca, .slice A2 l.length c2, .slice none 0 0] 77)) hu (by omega))
  have G1 := Lib.hid ((GrowS.refl (MaS K sv ov) w).below b1)
  have hl1 := Lib.hid (hl.alloc (.cells #[.int .i64 5, .int .i64 (x : Int), .int .i64 (n : Int), .slice A a.length ca, .slice A2 l.length c2, .slice none 0 0] 77))
  have hsz1 : (w.alloc (.cells #[.int .i64 5, .int .i64 (x : Int), .int .i64 (n : Int), .slice A a.length ca, .slice A2 l.length c2, .slice none 0 0] 77)).heap.size = w.heap.size + 1 := by simp
  replace M1 := Lib.hid M1
  clear ht ha hl hM b1
  replace hu := Lib.hid hu
  replace hal := Lib.hid hal
  replace hult := Lib.hid hult
  go_enter Tryz.func84, Tryz.ntmps84
  go_wp2_with fail
  generalize w.alloc (.cells #[.int .i64 5, .int .i64 (x : Int), .int .i64 (n : Int), .slice A a.length ca, .slice A2 l.length c2, .slice none 0 0] 77) = w1 at V1 M1 E1 G1 hl1 hsz1 ⊢
  refine E1.out.mono ?_
  rintro _ w2 ⟨lv, rfl, hlv, b2⟩
  have hlo2 := M1.out.lox
  have V2 := V1.call b2
  have M2 := Lib.hid (M1.out.below b2)
  have G2 := Lib.hid (G1.out.below b2)
  have hl2 := Lib.hid (hl1.out.below b2)
  obtain ⟨Al, cl, rfl, hlc⟩ := hlv.cell
  have y0 := V2.cell 0
  have y1 := V2.cell 1
  have y2 := V2.cell 2
  have y4 := V2.cell 4
  have y5 := V2.cell 5
  simp at y0 y1 y2 y4 y5
  have x1 := M2.out.vb.cell 5
  have x2 := M2.out.vb.cell 6
  have x7 := M2.out.vb.cell 15
  have x8 := M2.out.vb.cell 16
  have f7 := M2.out.vb.free 15
  have f8 := M2.out.vb.free 16
  have xl := M2.out.vb.lt
  simp [Mx.cells] at x1 x2 x7 x8
  have hv2 := V2.lt
  have S2 := Lib.hid (SvNew.refl w sv)
  obtain ⟨gl, rfl, hgl1, hgl2, lc0, lf0⟩ := hlc 0 (by simp)
  simp at lc0
  clear hlc hl1 hl2 E1 M1 G1
  go_wp2_with fail
  go_returns
  exact ⟨sv, outv, rfl, M2.out, G2.out, S2.out⟩

end Go.Proofs.YtgohnekaolgblaaGreat
