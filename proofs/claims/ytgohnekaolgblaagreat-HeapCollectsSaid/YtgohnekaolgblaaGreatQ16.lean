/- The document's machine: one thing: contracts (gimletref28's Machine.one): a store, a list, a loop (printed by wip/gen_maone.py). -/
import Derived.Test.YtgohnekaolgblaaGreatQ15
namespace Go.Proofs.YtgohnekaolgblaaGreat
open Go.RowKit

/-- How a thing's doing leaves the world. -/
def MaEnd (F : Nat → Prop) (fs : List Fx) (K : Mx) (w : World) (sv ov : Value) (s1 : St) (w' : World) : Prop := ∃ sv' outv', MaAt F fs K w' sv' outv' ov s1 ∧ GrowS (MaS K sv ov) w w' ∧ SvNew w sv sv'
theorem MaEnd.drew {F : Nat → Prop} {fs : List Fx} {K : Mx} {w : World} {sv ov : Value} {s1 : St} {w' : World} (h : MaEnd F fs K w sv ov s1 w') : MaEnd F fs K w sv ov s1 w'.drew := by
  obtain ⟨sv', outv', h1, h2, h3⟩ := h
  exact ⟨sv', outv', h1.below (below_drew (B.refl _)), h2.drew, h3⟩
theorem MaEnd.post {F : Nat → Prop} {fs : List Fx} {K : Mx} {w : World} {sv ov : Value} {s1 : St} {w' : World} (h : MaEnd F fs K w sv ov s1 w') (k : Nat) : MaPost F fs K w sv ov s1 k (.returned (.int .i64 (k : Int))) w' := by
  obtain ⟨sv', outv', h1, h2, h3⟩ := h
  exact ⟨sv', outv', rfl, h1, h2, h3⟩
/-- Behind a world that grew. -/
theorem MaPost.after {F : Nat → Prop} {fs : List Fx} {K : Mx} {w w1 w' : World} {sv ov : Value} {s1 : St} {k : Nat} {e : Ending} (h : MaPost F fs K w1 sv ov s1 k e w') (g : GrowS (MaS K sv ov) w w1) : e = .returned (.int .i64 (k : Int)) ∧ MaEnd F fs K w sv ov s1 w' := by
  obtain ⟨sv', outv', h0, h1, h2, h3⟩ := h
  exact ⟨h0, sv', outv', h1, g.ma (SvNew.refl _ _) h2, (SvNew.refl w sv).trans h3 g.size⟩
theorem MaAt.setMem {F : Nat → Prop} {fs : List Fx} {K : Mx} {w w' : World} {sv sv' outv ov : Value} {s : St} (h : MaAt F fs K w sv outv ov s) (L : List (Int × Int)) (hm : MemAt w' (K.m + 1) K.m (s.N : Int) 65536 sv' L) (hg : GrowS (MmS K.m sv) w w') (hplace : ∀ q ∈ L, 0 ≤ q.1 ∧ q.1 < ((s.N * 65536 : Nat) : Int)) (hbyt : Mm.Byt L) : MaAt F fs K w' sv' outv ov { s with L := L } := by
  have kb : ∀ b, b < w.heap.size → b ≠ K.m → sv.ownBlock ≠ some b → w'.heap[b]? = w.heap[b]? := fun b hb h1 h2 => hg.block b hb (fun e => by rcases e with e | e; exact h1 e; exact h2 e)
  have hmlt := h.mem.vb.lt
  refine ⟨?_, hm, ?_, ?_, ?_, ?_, h.low, h.lox, h.lom, h.apart, ⟨hm.up, hplace, hbyt, h.ok.pages, h.ok.g, h.ok.gl, h.ok.own, h.ok.ownl, h.ok.outl, h.ok.sum, h.ok.told, h.ok.n, h.ok.deep⟩⟩
  · exact (kb K.x h.vb.lt (vb_ne h.vb h.mem.vb (by decide)) (row_ne h.vb h.mem.own (by decide))).trans h.vb
  · exact row_keep h.g fun b hb => kb b (World.ownsRow.lt h.g b hb).2 (fun e => row_ne h.mem.vb h.g (by decide) (by rw [hb, e])) (row_row_ne h.g h.mem.own (by decide) b hb)
  · exact row_keep h.own fun b hb => kb b (World.ownsRow.lt h.own b hb).2 (fun e => row_ne h.mem.vb h.own (by decide) (by rw [hb, e])) (row_row_ne h.own h.mem.own (by decide) b hb)
  · exact row_keep h.out fun b hb => kb b (World.ownsRow.lt h.out b hb).2 (fun e => row_ne h.mem.vb h.out (by decide) (by rw [hb, e])) (row_row_ne h.out h.mem.own (by decide) b hb)
  · refine h.funs.keep hg.size (fun _ _ h => h) fun b o u hb hF hc => ?_
    rw [← hc]
    have hlo := h.low b hF
    have hm := h.lom
    exact World.cell?_of_block (w := w) (kb b hb (by omega) (fun e => by have := (World.ownsRow.lt h.mem.own b e).1; omega))
theorem Mm.put_mem {L : List (Int × Int)} {a v : Int} : ∀ (k : Nat) (q : Int × Int), q ∈ Mm.put L a v k → q ∈ L ∨ ∃ j : Nat, j < k ∧ q.1 = a + j ∧ 0 ≤ q.2 ∧ q.2 < 256
  | 0, q, h => .inl h
  | k + 1, q, h => by
    rcases Mm.set_mem h with rfl | h
    · exact .inr ⟨k, by omega, rfl, Int.emod_nonneg _ (by decide), Int.emod_lt_of_pos _ (by decide)⟩
    · rcases Mm.put_mem k q h with h | ⟨j, h1, h2⟩
      · exact .inl h
      · exact .inr ⟨j, by omega, h2⟩

set_option maxRecDepth 100000 in
set_option maxHeartbeats 2000000 in
theorem maOneStore (F : Nat → Prop) (fs : List Fx) (K : Mx) (w : World) (sv outv ov t : Value) (s : St) (x : Nat) (p u : Nat) (a : List Ex) (l : List Lo) (hM : MaAt F fs K w sv outv ov s) (ht : Lo.at F w (.mk 3 x 0 a l) t) (hu : Ex.evs s a = some [p, u]) (hin : p + 4 ≤ s.N * 65536) :
    Calls Tryz.prog 84 #[.pointer (some ⟨K.x, 0, none⟩), t, ov] w (MaPost F fs K w sv ov { s with L := Mm.put s.L p u 4 } 0) := by
  obtain ⟨va, vl, rfl, ha, hl⟩ := Lo.at_mk.1 ht
  obtain ⟨A, ca, rfl⟩ := ha.slice
  obtain ⟨A2, c2, rfl⟩ := hl.slice
  have hal : a.length = 2 := by have := (Ex.evs_get hu).1; simpa using this.symm
  have hult := Ex.evs_lt s hM.ok hu
  have V1 := VB.new w 77 #[.int .i64 3, .int .i64 (x : Int), .int .i64 0, .slice A a.length ca, .slice A2 l.length c2, .slice none 0 0]
  have b1 := B.alloc (B.refl w) (.cells #[.int .i64 3, .int .i64 (x : Int), .int .i64 0, .slice A a.length ca, .slice A2 l.length c2, .slice none 0 0] 77)
  have M1 := hM.below b1
  have E1 := Lib.hid (maExps F F fs K sv outv ov s a _ _ [p, u] M1 (ha.alloc (.cells #[.int .i64 3, .int .i64 (x : Int), .int .i64 0, .slice A a.length ca, .slice A2 l.length c2, .slice none 0 0] 77)) hu (by omega))
  have G1 := Lib.hid ((GrowS.refl (MaS K sv ov) w).below b1)
  have hl1 := Lib.hid (hl.alloc (.cells #[.int .i64 3, .int .i64 (x : Int), .int .i64 0, .slice A a.length ca, .slice A2 l.length c2, .slice none 0 0] 77))
  have hsz1 : (w.alloc (.cells #[.int .i64 3, .int .i64 (x : Int), .int .i64 0, .slice A a.length ca, .slice A2 l.length c2, .slice none 0 0] 77)).heap.size = w.heap.size + 1 := by simp
  replace M1 := Lib.hid M1
  clear ht ha hl hM b1
  replace hu := Lib.hid hu
  replace hal := Lib.hid hal
  replace hult := Lib.hid hult
  go_enter Tryz.func84, Tryz.ntmps84
  go_wp2_with fail
  generalize w.alloc (.cells #[.int .i64 3, .int .i64 (x : Int), .int .i64 0, .slice A a.length ca, .slice A2 l.length c2, .slice none 0 0] 77) = w1 at V1 M1 E1 G1 hl1 hsz1 ⊢
  refine E1.out.mono ?_
  rintro _ w2 ⟨lv, rfl, hlv, b2⟩
  have hlo2 := M1.out.lox
  have V2 := V1.call b2
  have M2 := Lib.hid (M1.out.below b2)
  have G2 := Lib.hid (G1.out.below b2)
  have hl2 := Lib.hid (hl1.out.below b2)
  obtain ⟨Al, cl, rfl, hlc⟩ := hlv.cell
  have y0 := V2.cell 0
  have y1 := V2.cell 1
  have y2 := V2.cell 2
  have y4 := V2.cell 4
  have y5 := V2.cell 5
  simp at y0 y1 y2 y4 y5
  have x1 := M2.out.vb.cell 5
  have x2 := M2.out.vb.cell 6
  have x7 := M2.out.vb.cell 15
  have x8 := M2.out.vb.cell 16
  have f7 := M2.out.vb.free 15
  have f8 := M2.out.vb.free 16
  have xl := M2.out.vb.lt
  simp [Mx.cells] at x1 x2 x7 x8
  have hv2 := V2.lt
  have S2 := Lib.hid (SvNew.refl w sv)
  obtain ⟨gl, rfl, hgl1, hgl2, lc0, lf0⟩ := hlc 0 (by simp)
  obtain ⟨gl', hgl', -, -, lc1, -⟩ := hlc 1 (by simp)
  simp only [Option.some.injEq, Addr.mk.injEq, and_true] at hgl'
  subst hgl'
  simp at lc0 lc1
  have hp := hult.out p (by simp)
  have hu4 := hult.out u (by simp)
  have hpg := M2.out.ok.pages
  have hS : ∀ wr, wr = w2 ∨ wr = w2.drew → Calls Tryz.prog 93 #[.pointer (some ⟨K.m, 0, none⟩), .int .i64 54, .int .u32 (p : Int), .int .u32 (IntKind.u32.wrap 0), .int .u32 (u : Int)] wr fun e w' => e = .returned (.int .i64 0) ∧ MaEnd F fs K w sv ov { s with L := Mm.put s.L p u 4 } w' := by
    intro wr hwr
    rw [show IntKind.u32.wrap 0 = 0 from rfl]
    have hMr : MaAt F fs K wr sv outv ov s ∧ GrowS (MaS K sv ov) w wr := by
      rcases hwr with rfl | rfl
      · exact ⟨M2.out, G2.out⟩
      · exact ⟨M2.out.below (below_drew (B.refl _)), G2.out.drew⟩
    obtain ⟨Mr, Gr⟩ := hMr
    have hlen := Mr.ok.len
    have hmlt := Mr.mem.vb.lt
    refine (mmStore wr (K.m + 1) K.m s.N 65536 sv s.L p 0 u Mr.mem (by omega) (by omega) (by omega) (by omega) (by omega) (by omega)).mono ?_
    rintro _ w3 ⟨sv3, rfl, hm3, hg3, hn3⟩
    rw [Int.add_zero] at hm3
    refine ⟨rfl, sv3, outv, Mr.setMem _ hm3 hg3 (fun q hq => ?_) (fun q hq => ?_), Gr.thenS hg3 (fun k _ e => ?_), (SvNew.refl w sv).trans hn3 Gr.size⟩
    · rcases Mm.put_mem 4 q hq with h | ⟨j, hj, h1, -⟩
      · exact Mr.ok.place q h
      · omega
    · rcases Mm.put_mem 4 q hq with h | ⟨j, hj, h1, h2⟩
      · exact Mr.ok.byt q h
      · exact h2
    · rcases e with e | e
      · exact .inr (.inl e)
      · exact .inr (.inr (.inr (.inl e)))
  replace hS := Lib.hid hS
  replace M2 := Lib.hid M2.out
  replace G2 := Lib.hid G2.out
  clear hlc hl1 hl2 E1 M1 G1 hp hu4 hpg hin
  go_wp2_with fail
  go_region_law (go_simp; go_at_call 93; with_reducible refine (hS.out _ (by first | exact .inl rfl | exact .inr rfl)).mono ?_; rintro _ w3 ⟨rfl, H3⟩; replace H3 := Lib.hid H3)
  all_goals go_wp2_with fail
  all_goals go_returns
  all_goals first | exact H3.out.post 0 | exact H3.out.drew.post 0

set_option maxRecDepth 100000 in
set_option maxHeartbeats 2000000 in
theorem maOneWhen (F : Nat → Prop) (fs : List Fx) (K : Mx) (w : World) (sv outv ov t : Value) (s : St) (x n : Nat) (u : Nat) (a : List Ex) (l : List Lo) (hM : MaAt F fs K w sv outv ov s) (ht : Lo.at F w (.mk 5 x n a l) t) (hu : Ex.evs s a = some [u]) (hu0 : u ≠ 0) (k : Nat) (s1 : St) (h : Nat) (hlist : MaList F fs K k) (hR : Runs fs k (.list l) s s1 h) :
    Calls Tryz.prog 84 #[.pointer (some ⟨K.x, 0, none⟩), t, ov] w (MaPost F fs K w sv ov s1 h) := by
  obtain ⟨va, vl, rfl, ha, hl⟩ := Lo.at_mk.1 ht
  obtain ⟨A, ca, rfl⟩ := ha.slice
  obtain ⟨A2, c2, rfl⟩ := hl.slice
  have hal : a.length = 1 := by have := (Ex.evs_get hu).1; simpa using this.symm
  have hult := Ex.evs_lt s hM.ok hu
  have V1 := VB.new w 77 #[.int .i64 5, .int .i64 (x : Int), .int .i64 (n : Int), .slice A a.length ca, .slice A2 l.length c2, .slice none 0 0]
  have b1 := B.alloc (B.refl w) (.cells #[.int .i64 5, .int .i64 (x : Int), .int .i64 (n : Int), .slice A a.length ca, .slice A2 l.length c2, .slice none 0 0] 77)
  have M1 := hM.below b1
  have E1 := Lib.hid (maExps F F fs K sv outv ov s a _ _ [u] M1 (ha.alloc (.cells #[.int .i64 5, .int .i64 (x : Int), .int .i64 (n : Int), .slice A a.length ca, .slice A2 l.length c2, .slice none 0 0] 77)) hu (by omega))
  have G1 := Lib.hid ((GrowS.refl (MaS K sv ov) w).below b1)
  have hl1 := Lib.hid (hl.alloc (.cells #[.int .i64 5, .int .i64 (x : Int), .int .i64 (n : Int), .slice A a.length ca, .slice A2 l.length c2, .slice none 0 0] 77))
  have hsz1 : (w.alloc (.cells #[.int .i64 5, .int .i64 (x : Int), .int .i64 (n : Int), .slice A a.length ca, .slice A2 l.length c2, .slice none 0 0] 77)).heap.size = w.heap.size + 1 := by simp
  replace M1 := Lib.hid M1
  clear ht ha hl hM b1
  replace hu := Lib.hid hu
  replace hal := Lib.hid hal
  replace hult := Lib.hid hult
  go_enter Tryz.func84, Tryz.ntmps84
  go_wp2_with fail
  generalize w.alloc (.cells #[.int .i64 5, .int .i64 (x : Int), .int .i64 (n : Int), .slice A a.length ca, .slice A2 l.length c2, .slice none 0 0] 77) = w1 at V1 M1 E1 G1 hl1 hsz1 ⊢
  refine E1.out.mono ?_
  rintro _ w2 ⟨lv, rfl, hlv, b2⟩
  have hlo2 := M1.out.lox
  have V2 := V1.call b2
  have M2 := Lib.hid (M1.out.below b2)
  have G2 := Lib.hid (G1.out.below b2)
  have hl2 := Lib.hid (hl1.out.below b2)
  obtain ⟨Al, cl, rfl, hlc⟩ := hlv.cell
  have y0 := V2.cell 0
  have y1 := V2.cell 1
  have y2 := V2.cell 2
  have y4 := V2.cell 4
  have y5 := V2.cell 5
  simp at y0 y1 y2 y4 y5
  have x1 := M2.out.vb.cell 5
  have x2 := M2.out.vb.cell 6
  have x7 := M2.out.vb.cell 15
  have x8 := M2.out.vb.cell 16
  have f7 := M2.out.vb.free 15
  have f8 := M2.out.vb.free 16
  have xl := M2.out.vb.lt
  simp [Mx.cells] at x1 x2 x7 x8
  have hv2 := V2.lt
  have S2 := Lib.hid (SvNew.refl w sv)
  obtain ⟨gl, rfl, hgl1, hgl2, lc0, lf0⟩ := hlc 0 (by simp)
  simp at lc0
  have hC := Lib.hid (hlist w2 sv outv ov s s1 h l _ M2.out hl2.out hR)
  have huI : ¬ (u : Int) = 0 := by omega
  replace hR := Lib.hid hR
  replace hlist := Lib.hid hlist
  clear hlc hl1 hl2 E1 M1 G1
  go_wp2_with fail
  refine hC.out.mono ?_
  intro e w3 hq
  obtain ⟨rfl, H3⟩ := hq.after G2.out
  replace H3 := Lib.hid H3
  clear hq
  go_wp2_with fail
  go_returns
  exact H3.out.post h

set_option maxRecDepth 100000 in
set_option maxHeartbeats 2000000 in
theorem maOneLoop (F : Nat → Prop) (fs : List Fx) (K : Mx) (w : World) (sv outv ov t : Value) (s s1 : St) (h k : Nat) (x n : Int) (a : List Ex) (l : List Lo) (hM : MaAt F fs K w sv outv ov s) (ht : Lo.at F w (.mk 6 x n a l) t) (hloop : MaLoop F fs K k) (hR : Runs fs k (.loop l) s s1 h) :
    Calls Tryz.prog 84 #[.pointer (some ⟨K.x, 0, none⟩), t, ov] w (MaPost F fs K w sv ov s1 h) := by
  obtain ⟨va, vl, rfl, ha, hl⟩ := Lo.at_mk.1 ht
  obtain ⟨A, ca, rfl⟩ := ha.slice
  obtain ⟨A2, c2, rfl⟩ := hl.slice
  have V1 := VB.new w 77 #[.int .i64 6, .int .i64 x, .int .i64 n, .slice A a.length ca, .slice A2 l.length c2, .slice none 0 0]
  have b1 := B.alloc (B.refl w) (.cells #[.int .i64 6, .int .i64 x, .int .i64 n, .slice A a.length ca, .slice A2 l.length c2, .slice none 0 0] 77)
  have hC := Lib.hid (hloop _ sv outv ov s s1 h l _ (hM.below b1) (hl.below b1) hR)
  have G1 := Lib.hid ((GrowS.refl (MaS K sv ov) w).below b1)
  clear ht ha hl hM b1 hR hloop
  go_enter Tryz.func84, Tryz.ntmps84
  go_wp2_with fail
  refine hC.out.mono ?_
  intro e w3 hq
  obtain ⟨rfl, H3⟩ := hq.after G1.out
  replace H3 := Lib.hid H3
  clear hq
  go_wp2_with fail
  go_returns
  exact H3.out.post h

end Go.Proofs.YtgohnekaolgblaaGreat
