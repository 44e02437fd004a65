/- The document's machine: what is written: contract (gimletref28's Machine.outer). -/
import Derived.Test.YtgohnekaolgblaaGreatQ17
namespace Go.Proofs.YtgohnekaolgblaaGreat
open Go.RowKit

theorem OwnY.owns {w : World} {lo : Nat} {v : Value} {l : List Nat} : OwnY w lo v l ↔ Owns 5 .u8 lo w v (l.map fun n : Nat => (n : Int)) := by
  unfold OwnY Owns
  rw [List.map_map, List.length_map]
  exact Iff.rfl
theorem MaAt.setOut {F : Nat → Prop} {fs : List Fx} {K : Mx} {w : World} {sv outv ov outv' : Value} {s : St} {out' : List Nat} (h : MaAt F fs K w sv outv ov s) (ho : OwnY w K.lo outv' out') (hl : out'.length ≤ 1000000) : MaAt F fs K (w.setCell ⟨K.x, 12, none⟩ outv') sv outv' ov { s with out := out' } := by
  have hk : ∀ k, k ≠ K.x → (w.setCell ⟨K.x, 12, none⟩ outv').heap[k]? = w.heap[k]? := fun k hk => Below.heap_setCell w ⟨K.x, 12, none⟩ outv' k hk
  have n1 := vb_ne h.vb h.mem.vb (by decide)
  have n2 := row_ne h.vb h.mem.own (by decide)
  have n3 := row_ne h.vb h.g (by decide)
  have n4 := row_ne h.vb h.own (by decide)
  have n5 := row_ne h.vb ho (by decide)
  refine ⟨h.vb.set 12 outv', ⟨(hk K.m (fun e => n1 e.symm)).trans h.mem.vb, row_keep h.mem.own fun g hg => hk g (fun e => n2 (by rw [hg, e])), h.mem.up⟩, ?_, ?_, ?_, ?_, h.low, h.lox, h.lom, h.apart, ⟨h.ok.up, h.ok.place, h.ok.byt, h.ok.pages, h.ok.g, h.ok.gl, h.ok.own, h.ok.ownl, hl, h.ok.sum, h.ok.told, h.ok.n, h.ok.deep⟩⟩
  · exact row_keep h.g fun g hg => hk g (fun e => n3 (by rw [hg, e]))
  · exact row_keep h.own fun g hg => hk g (fun e => n4 (by rw [hg, e]))
  · exact row_keep ho fun g hg => hk g (fun e => n5 (by rw [hg, e]))
  · refine h.funs.keep (by simp [World.setCell]) (fun _ _ h => h) fun b o u _ hb hc => ?_
    rw [← hc]
    exact World.cell?_of_block (w := w) (hk b (fun e => by have := h.low b hb; have := h.lox; omega))

set_option maxRecDepth 100000 in
set_option maxHeartbeats 2000000 in
theorem maOuterOut (F : Nat → Prop) (fs : List Fx) (K : Mx) (w : World) (sv outv ov lv : Value) (s : St) (x n : Int) (lo u : Nat) (A A2 : Option Addr) (na ca nl c2 : Nat)
    (hM : MaAt F fs K w sv outv ov s) (hlv : OwnW w lo lv [u]) (hol : s.out.length < 1000) :
    Calls Tryz.prog 94 #[.pointer (some ⟨K.x, 0, none⟩), .agg #[.int .i64 13, .int .i64 x, .int .i64 n, .slice A na ca, .slice A2 nl c2, .slice none 0 0], lv, ov] w fun e w' => e = .returned (.int .i64 0) ∧ MaEnd F fs K w sv ov { s with out := s.out ++ [u % 256] } w' := by
  obtain ⟨lvA, lvc, rfl, hlc⟩ := hlv.cell
  have V1 := VB.new w 77 #[.int .i64 13, .int .i64 x, .int .i64 n, .slice A na ca, .slice A2 nl c2, .slice none 0 0]
  have b1 := B.alloc (B.refl w) (.cells #[.int .i64 13, .int .i64 x, .int .i64 n, .slice A na ca, .slice A2 nl c2, .slice none 0 0] 77)
  have M1 := hM.below b1
  have G1 := Lib.hid ((GrowS.refl (MaS K sv ov) w).below b1)
  have hlv1 := hlv.below b1
  have hxl := hM.lox
  clear hlc
  obtain ⟨iC, hiC, hzC, hsC, hbC⟩ := info_parts3 (show (Tryz.prog.info? 5).map (fun i => (i.zero, i.size, i.bytes)) = some (some (.int .u8 0), 1, 1) by kernel_rfl)
  replace hiC := Lib.hid hiC
  replace hzC := Lib.hid hzC
  replace hsC := Lib.hid hsC
  replace hbC := Lib.hid hbC
  clear hM hlv b1
  go_enter Tryz.func94, Tryz.ntmps94
  go_wp2_with fail
  generalize w.alloc (.cells #[.int .i64 13, .int .i64 x, .int .i64 n, .slice A na ca, .slice A2 nl c2, .slice none 0 0] 77) = w1 at V1 M1 G1 hlv1 ⊢
  obtain ⟨lvA', lvc', hA, hlc⟩ := hlv1.cell
  simp only [Value.slice.injEq, true_and] at hA
  obtain ⟨rfl, rfl⟩ := hA
  obtain ⟨gl, rfl, hgl1, hgl2, lc0, lf0⟩ := hlc 0 (by simp)
  simp at lc0
  have x12 := M1.vb.cell 12
  have f12 := M1.vb.free 12
  have xl := M1.vb.lt
  have hlo2 : K.lo ≤ w1.heap.size := by omega
  simp [Mx.cells] at x12
  have hso : Sees .u8 w1 outv (s.out.map fun n : Nat => (n : Int)) := (OwnY.owns.1 M1.out).sees
  obtain ⟨outA, outc, rfl, -, -⟩ := hso.len
  have hol1 : (s.out.map fun n : Nat => (n : Int)).length ≤ 1000 := by simp; omega
  replace hso := Lib.hid hso
  replace hol1 := Lib.hid hol1
  replace M1 := Lib.hid M1
  clear hlc hlv1
  have hw8 : IntKind.u8.wrap (u : Int) = (u : Int) % 256 := rfl
  have hLw : ∀ wr : World, Sees .u8 (wr.alloc (.cells #[.int .u8 ((u : Int) % 256)] 5)) (.slice (some ⟨wr.heap.size, 0, none⟩) 1 1) [(u : Int) % 256] := fun wr => Sees.lit .u8 wr 5 [(u : Int) % 256] 1 (by simp) (by simp [maxLen])
  have hL2 : Sees .u8 ((w1.alloc (.cells #[] 5)).alloc (.cells #[.int .u8 ((u : Int) % 256)] 5)) (.slice (some ⟨w1.heap.size + 1, 0, none⟩) 1 1) [(u : Int) % 256] := by simpa using hLw (w1.alloc (.cells #[] 5))
  have hL3 : Sees .u8 ((w1.alloc (.cells #[.int .u8 ((u : Int) % 256)] 5)).alloc (.cells #[] 5)) (.slice (some ⟨w1.heap.size, 0, none⟩) 1 1) [(u : Int) % 256] := (hLw w1).alloc (.cells #[] 5)
  have hE2 : Owns 5 .u8 w1.heap.size ((w1.alloc (.cells #[.int .u8 ((u : Int) % 256)] 5)).alloc (.cells #[] 5)) (.slice (some ⟨w1.heap.size + 1, 0, none⟩) 0 0) [] := row_low (by simpa [Owns] using Owns.empty 5 .u8 (w1.alloc (.cells #[.int .u8 ((u : Int) % 256)] 5))) (by simp : w1.heap.size ≤ (w1.alloc (.cells #[.int .u8 ((u : Int) % 256)] 5)).heap.size)
  have S2b : ∀ w3, World.grownBy ((w1.alloc (.cells #[] 5)).alloc (.cells #[.int .u8 ((u : Int) % 256)] 5)).drew w3 (Value.slice (some ⟨w1.heap.size, 0, none⟩) 0 0).ownBlock → Sees .u8 w3 (.slice (some ⟨w1.heap.size + 1, 0, none⟩) 1 1) [(u : Int) % 256] := fun w3 g3 => Sees.grown (w := ((w1.alloc (.cells #[] 5)).alloc (.cells #[.int .u8 ((u : Int) % 256)] 5)).drew) hL2 g3 (by intro g h b off; rintro ⟨_, _, h2⟩; simp [Value.ownBlock] at h h2; omega)
  have S2c : ∀ w3, World.grownBy ((w1.alloc (.cells #[.int .u8 ((u : Int) % 256)] 5)).alloc (.cells #[] 5)).drew w3 (Value.slice (some ⟨w1.heap.size + 1, 0, none⟩) 0 0).ownBlock → Sees .u8 w3 (.slice (some ⟨w1.heap.size, 0, none⟩) 1 1) [(u : Int) % 256] := fun w3 g3 => Sees.grown (w := ((w1.alloc (.cells #[.int .u8 ((u : Int) % 256)] 5)).alloc (.cells #[] 5)).drew) hL3 g3 (by intro g h b off; rintro ⟨_, _, h2⟩; simp [Value.ownBlock] at h h2; omega)
  replace hL2 := Lib.hid hL2
  replace hL3 := Lib.hid hL3
  replace hE2 := Lib.hid hE2
  go_wp2_with fail
  go_region_law (first | (refine step_app (B := w1.heap.size) (w0 := w1) Tryz.underlying28 hiC.out hzC.out hsC.out hbC.out rfl (.tmp 112) (.tmp 117) rfl (by simp [go_sem]) (by simp [go_sem]) (hso.out.below (below_drew (B.alloc (B.refl w1) (.cells #[] 5))) (Nat.le_refl _)) (Owns.empty 5 .u8 w1) (below_drew (B.alloc (B.refl w1) (.cells #[] 5))) (by simp <;> omega) (by have := hol1.out; simp only [List.length_nil]; omega) (by have := hol1.out; simp only [List.length_nil]; unfold maxLen; omega) ?_; intro v3 w3 own3 b3 l3 g3; have lc3 := (b3.cell (p := ⟨gl, 0, none⟩) (by simp only; omega)).trans lc0; have V3 := M1.out.vb.below b3 xl; have x123 := (b3.cell (p := ⟨K.x, 12, none⟩) (by simp only; omega)).trans x12; have f123 := V3.free 12; have xl3 := V3.lt) | (refine step_app (B := w1.heap.size) (w0 := w1) Tryz.underlying28 hiC.out hzC.out hsC.out hbC.out rfl (.tmp 112) (.tmp 117) rfl (by simp [go_sem]) (by simp [go_sem]) (hso.out.below (below_drew (B.alloc (B.alloc (B.refl w1) (.cells #[] 5)) (.cells #[.int .u8 ((u : Int) % 256)] 5))) (Nat.le_refl _)) (Owns.alloc (Owns.empty 5 .u8 w1) (.cells #[.int .u8 ((u : Int) % 256)] 5)) (below_drew (B.alloc (B.alloc (B.refl w1) (.cells #[] 5)) (.cells #[.int .u8 ((u : Int) % 256)] 5))) (by simp <;> omega) (by have := hol1.out; simp only [List.length_nil]; omega) (by have := hol1.out; simp only [List.length_nil]; unfold maxLen; omega) ?_; intro v3 w3 own3 b3 l3 g3; have lc3 := (b3.cell (p := ⟨gl, 0, none⟩) (by simp only; omega)).trans lc0; have V3 := M1.out.vb.below b3 xl; have x123 := (b3.cell (p := ⟨K.x, 12, none⟩) (by simp only; omega)).trans x12; have f123 := V3.free 12; have xl3 := V3.lt) | (refine step_app (B := w1.heap.size) (w0 := w1) Tryz.underlying28 hiC.out hzC.out hsC.out hbC.out rfl (.tmp 112) (.tmp 117) rfl (by simp [go_sem]) (by simp [go_sem]) (hso.out.below (below_drew (B.alloc (B.alloc (B.refl w1) (.cells #[.int .u8 ((u : Int) % 256)] 5)) (.cells #[] 5))) (Nat.le_refl _)) hE2.out (below_drew (B.alloc (B.alloc (B.refl w1) (.cells #[.int .u8 ((u : Int) % 256)] 5)) (.cells #[] 5))) (by simp <;> omega) (by have := hol1.out; simp only [List.length_nil]; omega) (by have := hol1.out; simp only [List.length_nil]; unfold maxLen; omega) ?_; intro v3 w3 own3 b3 l3 g3; have lc3 := (b3.cell (p := ⟨gl, 0, none⟩) (by simp only; omega)).trans lc0; have V3 := M1.out.vb.below b3 xl; have x123 := (b3.cell (p := ⟨K.x, 12, none⟩) (by simp only; omega)).trans x12; have f123 := V3.free 12; have xl3 := V3.lt) | (refine step_app (B := w1.heap.size) (w0 := w1) Tryz.underlying28 hiC.out hzC.out hsC.out hbC.out rfl (.tmp 118) (.tmp 123) rfl (by simp [go_sem]) (by simp [go_sem]) (hLw w3) (own3.alloc (.cells #[.int .u8 ((u : Int) % 256)] 5)) (B.alloc b3 (.cells #[.int .u8 ((u : Int) % 256)] 5)) (by first | exact l3 | (simp; omega)) (by have := hol1.out; simp only [List.nil_append, List.length_singleton]; omega) (by have := hol1.out; simp only [List.nil_append, List.length_singleton]; unfold maxLen; omega) ?_; intro v4 w4 own4 b4 l4 g4; obtain ⟨A4, k4, rfl, -, -⟩ := own4.sees.len; have V4 := M1.out.vb.below b4 xl; have x124 := (b4.cell (p := ⟨K.x, 12, none⟩) (by simp only; omega)).trans x12; have f124 := V4.free 12; have xl4 := V4.lt) | (refine step_app (B := w1.heap.size) (w0 := w1) Tryz.underlying28 hiC.out hzC.out hsC.out hbC.out rfl (.tmp 118) (.tmp 123) rfl (by simp [go_sem]) (by simp [go_sem]) (S2b w3 g3) own3 b3 (by first | exact l3 | (simp; omega)) (by have := hol1.out; simp only [List.nil_append, List.length_singleton]; omega) (by have := hol1.out; simp only [List.nil_append, List.length_singleton]; unfold maxLen; omega) ?_; intro v4 w4 own4 b4 l4 g4; obtain ⟨A4, k4, rfl, -, -⟩ := own4.sees.len; have V4 := M1.out.vb.below b4 xl; have x124 := (b4.cell (p := ⟨K.x, 12, none⟩) (by simp only; omega)).trans x12; have f124 := V4.free 12; have xl4 := V4.lt) | (refine step_app (B := w1.heap.size) (w0 := w1) Tryz.underlying28 hiC.out hzC.out hsC.out hbC.out rfl (.tmp 118) (.tmp 123) rfl (by simp [go_sem]) (by simp [go_sem]) (S2c w3 g3) own3 b3 (by first | exact l3 | (simp; omega)) (by have := hol1.out; simp only [List.nil_append, List.length_singleton]; omega) (by have := hol1.out; simp only [List.nil_append, List.length_singleton]; unfold maxLen; omega) ?_; intro v4 w4 own4 b4 l4 g4; obtain ⟨A4, k4, rfl, -, -⟩ := own4.sees.len; have V4 := M1.out.vb.below b4 xl; have x124 := (b4.cell (p := ⟨K.x, 12, none⟩) (by simp only; omega)).trans x12; have f124 := V4.free 12; have xl4 := V4.lt))
  all_goals (
    have O4 := row_low (OwnY.owns.2 (show Owns 5 .u8 w1.heap.size w4 (.slice A4 (s.out.length + 1) k4) ((s.out ++ [u % 256]).map fun n : Nat => (n : Int)) by simpa using own4)) hlo2
    have M5 := Lib.hid ((M1.out.below b4).setOut O4 (by simp; omega))
    have G5 := Lib.hid ((G1.out.below b4).set (b := K.x) (i := 12) (.inl rfl) (.slice A4 (s.out.length + 1) k4))
    clear O4 own4 b4 l4 g4 V4 own3 b3 l3 g3 V3 hso
    go_wp2_with fail
    go_returns)
  all_goals first
    | exact ⟨rfl, sv, _, M5.out, G5.out, SvNew.refl _ _⟩
    | exact ⟨rfl, sv, _, M5.out.below (below_drew (B.refl _)), G5.out.drew, SvNew.refl _ _⟩

end Go.Proofs.YtgohnekaolgblaaGreat
