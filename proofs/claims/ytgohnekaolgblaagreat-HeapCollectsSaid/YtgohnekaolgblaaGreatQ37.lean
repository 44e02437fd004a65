/- gimletlaw29.HeapCollects: what the walk holds of the memory. -/
import Derived.Test.YtgohnekaolgblaaGreatQ29
import Derived.Test.YtgohnekaolgblaaGreatQ31
import Derived.Test.YtgohnekaolgblaaGreatQ23
import Derived.Test.YtgohnekaolgblaaGreatQ32
namespace Go.Proofs.YtgohnekaolgblaaGreat
open Go.RowKit

theorem Owns.vbOf {E : TypeId} {k : IntKind} {B : Nat} {w : World} {g n c : Nat} {xs : List Int} (h : Owns E k B w (.slice (some ⟨g, 0, none⟩) n c) xs) : ∃ cs, VB w g E cs := by
  obtain ⟨-, ⟨e, -⟩ | ⟨g', cap, cur, e, -, hh, -⟩⟩ := h
  · cases e
  · simp only [Value.slice.injEq, Option.some.injEq, Addr.mk.injEq, and_true] at e
    obtain ⟨rfl, -, -⟩ := e
    exact ⟨_, hh⟩

/-- The program's block pb, the room's rb, the lasting words' g, the data's gD; the stack, the heap's words, the functions. -/
structure Hc (w wx : World) (pb rb g gD cD : Nat) (bs : List Int) (T : TypeId) (gs : Array Value) (vs : Value) (ys : List Int) (vr : Value) (R : List Int) (fs : List Fx) (vf : Value) (ps rc : Array Value) : Prop where
  p : VB wx pb 30 ps
  r : VB wx rb 34 rc
  gl : VB wx g T gs
  d : Owns 5 .u8 w.heap.size wx (.slice (some ⟨gD, 0, none⟩) bs.length cD) bs
  s : Owns 22 .u32 w.heap.size wx vs ys
  o : Owns 22 .u32 w.heap.size wx vr R
  f : FxL (fun b => b ≠ pb ∧ b ≠ rb ∧ b ≠ gD) wx fs vf
  b : Below w.heap.size w wx
  ng : pb ≠ g ∧ rb ≠ g ∧ gD ≠ g
  lo : w.heap.size ≤ pb ∧ w.heap.size ≤ rb ∧ w.heap.size ≤ gD

variable {w wx wy : World} {pb rb g gD cD : Nat} {bs : List Int} {T : TypeId} {gs : Array Value} {vs : Value} {ys : List Int} {vr : Value} {R : List Int} {fs : List Fx} {vf : Value} {ps rc : Array Value}

theorem Hc.ne (h : Hc w wx pb rb g gD cD bs T gs vs ys vr R fs vf ps rc) : pb ≠ rb ∧ pb ≠ gD ∧ rb ≠ gD := by
  obtain ⟨cs, hv⟩ := h.d.vbOf
  exact ⟨vb_ne h.p h.r (by decide), vb_ne h.p hv (by decide), vb_ne h.r hv (by decide)⟩
theorem Hc.rows (h : Hc w wx pb rb g gD cD bs T gs vs ys vr R fs vf ps rc) : (∀ v xs, Owns 22 .u32 w.heap.size wx v xs → v.ownBlock ≠ some pb ∧ v.ownBlock ≠ some rb ∧ v.ownBlock ≠ some gD) ∧ (∀ v xs, Owns 5 .u8 w.heap.size wx v xs → v.ownBlock ≠ some pb ∧ v.ownBlock ≠ some rb) := by
  obtain ⟨cs, hv⟩ := h.d.vbOf
  exact ⟨fun v xs k => ⟨row_ne h.p k (by decide), row_ne h.r k (by decide), row_ne hv k (by decide)⟩, fun v xs k => ⟨row_ne h.p k (by decide), row_ne h.r k (by decide)⟩⟩
theorem Hc.call (h : Hc w wx pb rb g gD cD bs T gs vs ys vr R fs vf ps rc) (b : Below wx.heap.size wx wy) : Hc w wy pb rb g gD cD bs T gs vs ys vr R fs vf ps rc :=
  ⟨h.p.call b, h.r.call b, h.gl.call b, h.d.below b (Nat.le_refl _), h.s.below b (Nat.le_refl _), h.o.below b (Nat.le_refl _), h.f.below b, h.b.trans (b.mono h.b.size), h.ng, h.lo⟩
theorem Hc.row (h : Hc w wx pb rb g gD cD bs T gs vs ys vr R fs vf ps rc) {v : Value} {xs : List Int} (k : Owns 22 .u32 w.heap.size wx v xs) : Hc w wx pb rb g gD cD bs T gs vs ys v xs fs vf ps rc :=
  ⟨h.p, h.r, h.gl, h.d, h.s, k, h.f, h.b, h.ng, h.lo⟩
theorem Hc.fun' (h : Hc w wx pb rb g gD cD bs T gs vs ys vr R fs vf ps rc) {v : Value} {l : List Fx} (k : FxL (fun b => b ≠ pb ∧ b ≠ rb ∧ b ≠ gD) wx l v) : Hc w wx pb rb g gD cD bs T gs vs ys vr R l v ps rc :=
  ⟨h.p, h.r, h.gl, h.d, h.s, h.o, k, h.b, h.ng, h.lo⟩
theorem Hc.setP (h : Hc w wx pb rb g gD cD bs T gs vs ys vr R fs vf ps rc) (i : Nat) (u : Value) : Hc w (wx.setCell ⟨pb, i, none⟩ u) pb rb g gD cD bs T gs vs ys vr R fs vf (ps.setIfInBounds i u) rc := by
  have hk : ∀ b, b ≠ pb → (wx.setCell ⟨pb, i, none⟩ u).heap[b]? = wx.heap[b]? := fun b hb => Below.heap_setCell wx ⟨pb, i, none⟩ u b hb
  have n := h.ne
  have m := h.rows
  refine ⟨h.p.set i u, h.r.far _ _ (Ne.symm n.1) u, h.gl.far _ _ (Ne.symm h.ng.1) u, row_keep h.d fun b hb => hk b ?_, row_keep h.s fun b hb => hk b ?_, row_keep h.o fun b hb => hk b ?_, h.f.keep (by simp [World.setCell]) (fun _ _ k => k) (fun b o v _ hS hc => (World.cell?_of_block (hk b hS.1)).trans hc), h.b.setCell h.lo.1 u, h.ng, h.lo⟩
  · rintro rfl; exact (m.2 _ _ h.d).1 hb
  · rintro rfl; exact (m.1 _ _ h.s).1 hb
  · rintro rfl; exact (m.1 _ _ h.o).1 hb
theorem Hc.setR (h : Hc w wx pb rb g gD cD bs T gs vs ys vr R fs vf ps rc) (i : Nat) (u : Value) : Hc w (wx.setCell ⟨rb, i, none⟩ u) pb rb g gD cD bs T gs vs ys vr R fs vf ps (rc.setIfInBounds i u) := by
  have hk : ∀ b, b ≠ rb → (wx.setCell ⟨rb, i, none⟩ u).heap[b]? = wx.heap[b]? := fun b hb => Below.heap_setCell wx ⟨rb, i, none⟩ u b hb
  have n := h.ne
  have m := h.rows
  refine ⟨h.p.far _ _ n.1 u, h.r.set i u, h.gl.far _ _ (Ne.symm h.ng.2.1) u, row_keep h.d fun b hb => hk b ?_, row_keep h.s fun b hb => hk b ?_, row_keep h.o fun b hb => hk b ?_, h.f.keep (by simp [World.setCell]) (fun _ _ k => k) (fun b o v _ hS hc => (World.cell?_of_block (hk b hS.2.1)).trans hc), h.b.setCell h.lo.2.1 u, h.ng, h.lo⟩
  · rintro rfl; exact (m.2 _ _ h.d).2 hb
  · rintro rfl; exact (m.1 _ _ h.s).2.1 hb
  · rintro rfl; exact (m.1 _ _ h.o).2.1 hb
theorem Hc.data (h : Hc w wx pb rb g gD cD bs T gs vs ys vr R fs vf ps rc) {bs' : List Int} (G : GrowS (fun k => k = gD) wx wy) (hb : bs'.length = bs.length) (k : Owns 5 .u8 w.heap.size wy (.slice (some ⟨gD, 0, none⟩) bs.length cD) bs') : Hc w wy pb rb g gD cD bs' T gs vs ys vr R fs vf ps rc := by
  have n := h.ne
  have m := h.rows
  rw [← hb] at k
  have hk : ∀ v xs, Owns 22 .u32 w.heap.size wx v xs → Owns 22 .u32 w.heap.size wy v xs := fun v xs o => row_keep o fun b hb' => G.block b (o.lt b hb').2 fun e => (m.1 v xs o).2.2 (hb'.trans (congrArg some e))
  refine ⟨G.vb h.p n.2.1, G.vb h.r n.2.2, G.vb h.gl (Ne.symm h.ng.2.2), k, hk _ _ h.s, hk _ _ h.o, h.f.keep G.size (fun _ _ k => k) (fun b o v hb' hS hc => (World.cell?_of_block (G.block b hb' hS.2.2)).trans hc), h.b.trans (G.toBelow h.b.size fun k e => e ▸ h.lo.2.2), h.ng, h.lo⟩
theorem Hc.set5 {a0 a1 a2 a3 a4 : Value} (h : Hc w wx pb rb g gD cD bs T gs vs ys vr R fs vf #[a0, a1, a2, a3, a4] rc) (x0 x1 x2 x3 x4 : Value) : Hc w (((((wx.setCell ⟨pb, 0, none⟩ x0).setCell ⟨pb, 1, none⟩ x1).setCell ⟨pb, 2, none⟩ x2).setCell ⟨pb, 3, none⟩ x3).setCell ⟨pb, 4, none⟩ x4) pb rb g gD cD bs T gs vs ys vr R fs vf #[x0, x1, x2, x3, x4] rc := by
  have h0 : Hc w _ pb rb g gD cD bs T gs vs ys vr R fs vf #[x0, a1, a2, a3, a4] rc := h.setP 0 x0
  have h1 : Hc w _ pb rb g gD cD bs T gs vs ys vr R fs vf #[x0, x1, a2, a3, a4] rc := h0.setP 1 x1
  have h2 : Hc w _ pb rb g gD cD bs T gs vs ys vr R fs vf #[x0, x1, x2, a3, a4] rc := h1.setP 2 x2
  have h3 : Hc w _ pb rb g gD cD bs T gs vs ys vr R fs vf #[x0, x1, x2, x3, a4] rc := h2.setP 3 x3
  exact h3.setP 4 x4
theorem Hc.set8 {a0 a1 a2 a3 a4 a5 a6 a7 : Value} (h : Hc w wx pb rb g gD cD bs T gs vs ys vr R fs vf ps #[a0, a1, a2, a3, a4, a5, a6, a7]) (x0 x1 x2 x3 x4 x5 x6 x7 : Value) : Hc w ((((((((wx.setCell ⟨rb, 0, none⟩ x0).setCell ⟨rb, 1, none⟩ x1).setCell ⟨rb, 2, none⟩ x2).setCell ⟨rb, 3, none⟩ x3).setCell ⟨rb, 4, none⟩ x4).setCell ⟨rb, 5, none⟩ x5).setCell ⟨rb, 6, none⟩ x6).setCell ⟨rb, 7, none⟩ x7) pb rb g gD cD bs T gs vs ys vr R fs vf ps #[x0, x1, x2, x3, x4, x5, x6, x7] := by
  have h0 : Hc w _ pb rb g gD cD bs T gs vs ys vr R fs vf ps #[x0, a1, a2, a3, a4, a5, a6, a7] := h.setR 0 x0
  have h1 : Hc w _ pb rb g gD cD bs T gs vs ys vr R fs vf ps #[x0, x1, a2, a3, a4, a5, a6, a7] := h0.setR 1 x1
  have h2 : Hc w _ pb rb g gD cD bs T gs vs ys vr R fs vf ps #[x0, x1, x2, a3, a4, a5, a6, a7] := h1.setR 2 x2
  have h3 : Hc w _ pb rb g gD cD bs T gs vs ys vr R fs vf ps #[x0, x1, x2, x3, a4, a5, a6, a7] := h2.setR 3 x3
  have h4 : Hc w _ pb rb g gD cD bs T gs vs ys vr R fs vf ps #[x0, x1, x2, x3, x4, a5, a6, a7] := h3.setR 4 x4
  have h5 : Hc w _ pb rb g gD cD bs T gs vs ys vr R fs vf ps #[x0, x1, x2, x3, x4, x5, a6, a7] := h4.setR 5 x5
  have h6 : Hc w _ pb rb g gD cD bs T gs vs ys vr R fs vf ps #[x0, x1, x2, x3, x4, x5, x6, a7] := h5.setR 6 x6
  exact h6.setR 7 x7
theorem Hc.keep5 (h : Hc w wx pb rb g gD cD bs T gs vs ys vr R fs vf ps rc) {v : Value} {xs : List Int} (k : Owns 22 .u32 w.heap.size wx v xs) (x0 x1 x2 x3 x4 : Value) : Owns 22 .u32 w.heap.size (((((wx.setCell ⟨pb, 0, none⟩ x0).setCell ⟨pb, 1, none⟩ x1).setCell ⟨pb, 2, none⟩ x2).setCell ⟨pb, 3, none⟩ x3).setCell ⟨pb, 4, none⟩ x4) v xs :=
  row_keep k fun _ hb => VB.heap5 (fun e => (h.rows.1 v xs k).1 (hb.trans (congrArg some e))) x0 x1 x2 x3 x4
theorem Hc.pCells {a0 a1 a2 a3 a4 : Value} (h : Hc w wx pb rb g gD cD bs T gs vs ys vr R fs vf #[a0, a1, a2, a3, a4] rc) : wx.cell? ⟨pb, 0, none⟩ = some a0 ∧ wx.cell? ⟨pb, 1, none⟩ = some a1 ∧ wx.cell? ⟨pb, 2, none⟩ = some a2 ∧ wx.cell? ⟨pb, 3, none⟩ = some a3 ∧ wx.cell? ⟨pb, 4, none⟩ = some a4 :=
  ⟨h.p.cell 0, h.p.cell 1, h.p.cell 2, h.p.cell 3, h.p.cell 4⟩
theorem Hc.rCells {a0 a1 a2 a3 a4 a5 a6 a7 : Value} (h : Hc w wx pb rb g gD cD bs T gs vs ys vr R fs vf ps #[a0, a1, a2, a3, a4, a5, a6, a7]) : wx.cell? ⟨rb, 0, none⟩ = some a0 ∧ wx.cell? ⟨rb, 1, none⟩ = some a1 ∧ wx.cell? ⟨rb, 2, none⟩ = some a2 ∧ wx.cell? ⟨rb, 3, none⟩ = some a3 ∧ wx.cell? ⟨rb, 4, none⟩ = some a4 ∧ wx.cell? ⟨rb, 5, none⟩ = some a5 ∧ wx.cell? ⟨rb, 6, none⟩ = some a6 ∧ wx.cell? ⟨rb, 7, none⟩ = some a7 :=
  ⟨h.r.cell 0, h.r.cell 1, h.r.cell 2, h.r.cell 3, h.r.cell 4, h.r.cell 5, h.r.cell 6, h.r.cell 7⟩

theorem Hc.start {w3 w4 : World} {S : Nat → Prop} (hb : Below w.heap.size w w4) (hlo : w.heap.size ≤ w3.heap.size) (kf : FxL S w4 fs vf) (hF : ∀ b, S b → b ≠ g ∧ b ≠ gD) (hg : VB w4 g T gs) (oD : Owns 5 .u8 w3.heap.size w4 (.slice (some ⟨gD, 0, none⟩) bs.length cD) bs) (oAr : Owns 22 .u32 w3.heap.size w4 vs ys) (hgD : g ≠ gD) (ps rc : Array Value) :
    Hc w ((w4.alloc (.cells ps 30)).alloc (.cells rc 34)) w4.heap.size (w4.heap.size + 1) g gD cD bs T gs vs ys (.slice none 0 0) [] fs vf ps rc := by
  have hl := (oD.lt gD rfl)
  have hgl := hg.lt
  have hr := VB.new (w4.alloc (.cells ps 30)) 34 rc
  rw [show (w4.alloc (.cells ps 30)).heap.size = w4.heap.size + 1 by simp] at hr
  refine ⟨(VB.new w4 _ ps).alloc _, hr, (hg.alloc _).alloc _, ((oD.mono hlo).alloc _).alloc _, ((oAr.mono hlo).alloc _).alloc _, Owns.nil _ _ _ _, ?_, B.alloc (B.alloc hb _) _, ⟨by omega, by omega, Ne.symm hgD⟩, ⟨hb.size, by have := hb.size; omega, by omega⟩⟩
  exact ((kf.mono (S' := fun b => b ≠ w4.heap.size ∧ b ≠ w4.heap.size + 1 ∧ b ≠ gD) fun b hb hS => ⟨by omega, by omega, (hF b hS).2⟩).below (B.alloc (B.refl w4) _)).below (B.alloc (B.refl _) _)

end Go.Proofs.YtgohnekaolgblaaGreat

/- gimletlaw29.HeapCollects: its calls, over what the walk holds. -/
namespace Go.Proofs.YtgohnekaolgblaaGreat
open Go.RowKit

variable {w wx : World} {pb rb g gD cD : Nat} {bs : List Int} {T : TypeId} {gs : Array Value} {vs : Value} {ys : List Int} {vr : Value} {R : List Int} {fs : List Fx} {vf : Value} {ps rc : Array Value}

theorem hcWith {A AR Ar : Option Addr} {cf cR cr nr : Nat} {p1 p2 p3 p4 at_ : Int}
    (h : Hc w wx pb rb g gD cD bs T gs vs ys (.slice AR R.length cR) R fs vf ps rc) (hat : 16 ≤ at_) (hfit : at_.toNat - 16 + 4 * R.length ≤ bs.length) (hb : bs.length ≤ 1000000) (hr : ∀ x ∈ R, 0 ≤ x ∧ x < 4294967296) :
    Calls Tryz.prog 9 #[.agg #[.slice A 4 cf, .slice (some ⟨g, 0, none⟩) 5 5, .slice (some ⟨gD, 0, none⟩) bs.length cD, .int .i64 4, .int .i64 0], .agg #[.int .u32 16, .int .u32 p1, .int .u32 p2, .int .u32 p3, .int .u32 p4, .slice AR R.length cR, .int .u32 at_, .slice Ar nr cr]] wx fun e w' => e = .returned (.agg #[.slice A 4 cf, .slice (some ⟨g, 0, none⟩) 5 5, .slice (some ⟨gD, 0, none⟩) bs.length cD, .int .i64 4, .int .i64 0]) ∧ Hc w w' pb rb g gD cD (putWs bs (at_.toNat - 16) R) T gs vs ys (.slice AR R.length cR) R fs vf ps rc := by
  have m := (h.rows.1 _ _ h.o).2.2
  refine (rlWithHeap wx A (some ⟨g, 0, none⟩) AR Ar 4 cf 5 5 cR nr cr gD cD bs R 4 0 16 p1 p2 p3 p4 at_ (at_.toNat - 16) w.heap.size h.d (by omega) hfit hb hr fun wr G => ?_).mono ?_
  · have k : Owns 22 .u32 w.heap.size wr (.slice AR R.length cR) R := row_keep h.o fun b hb' => G.block b (h.o.lt b hb').2 fun e => m (hb'.trans (congrArg some e))
    exact k.sees
  · rintro _ w' ⟨rfl, k, G⟩
    exact ⟨rfl, h.data G (putWs_length _ _ _) k⟩

theorem hcMove {hs : List Nat} {a tw : Int} (h : Hc w wx pb rb g gD cD bs T gs vs ys vr R fs vf ps rc) (hk : Hp.Ok R a ys hs) (hr : ∀ x ∈ R, 0 ≤ x ∧ x < 4294967296) (hy : ∀ x ∈ ys, 0 ≤ x ∧ x < 4294967296) (hp : Hp.place tw) :
    Calls Tryz.prog 10 #[vr, .int .u32 a, vs, .int .u32 tw] wx fun e w' => ∃ A3 c3 A4 c4, e = .returned (.tuple #[.slice A3 (Hp.move R a ys tw).1.length c3, .slice A4 (Hp.move R a ys tw).2.length c4, .int .i64 0]) ∧ Owns 22 .u32 w.heap.size w' (.slice A3 (Hp.move R a ys tw).1.length c3) (Hp.move R a ys tw).1 ∧ Owns 22 .u32 w.heap.size w' (.slice A4 (Hp.move R a ys tw).2.length c4) (Hp.move R a ys tw).2 ∧ Hc w w' pb rb g gD cD bs T gs vs ys vr R fs vf ps rc := by
  refine (rhMove vr vs R ys a tw wx hs hk h.o.sees hr h.s.sees hy hp).mono ?_
  rintro _ w' ⟨v, rfl, o1, o2, rfl, m1, m2, b⟩
  obtain ⟨A3, c3, rfl, -, -⟩ := m1.sees.len
  obtain ⟨A4, c4, rfl, -, -⟩ := m2.sees.len
  exact ⟨A3, c3, A4, c4, rfl, m1.mono h.b.size, m2.mono h.b.size, h.call b⟩

theorem hcAsks {A : Option Addr} {cf nD : Nat} {s : Int} (h : Hc w wx pb rb g gD cD bs T gs vs ys vr R (heapFns s) (.slice A 4 cf) ps rc) :
    Calls Tryz.prog 11 #[.agg #[.slice A 4 cf, .slice (some ⟨g, 0, none⟩) 5 5, .slice (some ⟨gD, 0, none⟩) nD cD, .int .i64 4, .int .i64 0], .int .i64 1, .slice none 0 0] wx fun e w' => ∃ A' c', e = .returned (.agg #[.slice A' 5 c', .slice (some ⟨g, 0, none⟩) 5 5, .slice (some ⟨gD, 0, none⟩) nD cD, .int .i64 4, .int .i64 4]) ∧ Below wx.heap.size wx w' ∧ Hc w w' pb rb g gD cD bs T gs vs ys vr R (askFns s) (.slice A' 5 c') ps rc := by
  have hp := h.p.lt
  have hr := h.r.lt
  have hd := (h.d.lt gD rfl).2
  refine (rlAsks (fun b => b ≠ pb ∧ b ≠ rb ∧ b ≠ gD) wx A (some ⟨g, 0, none⟩) (some ⟨gD, 0, none⟩) cf 5 5 nD cD (heapFns s) 4 0 (fun b hb => ⟨by omega, by omega, by omega⟩) h.f (by simp [heapFns]) (by simp [heapFns])).mono ?_
  rintro _ w' ⟨A', c', rfl, f, b⟩
  exact ⟨A', c', rfl, b, (h.call b).fun' f⟩

theorem hcCall {A : Option Addr} {cf n1 n2 : Nat} {s p4 a0 a1 a2 a3 a4 : Int} {l : List Nat} {s1 : St} (h : Hc w wx pb rb g gD cD bs T #[.int .u32 a0, .int .u32 a1, .int .u32 a2, .int .u32 a3, .int .u32 a4] vs ys vr R (askFns s) (.slice A 5 cf) ps rc)
    (hs : 0 ≤ s ∧ s ≤ 4294967295) (hb : 16 + bs.length ≤ 262144) (hbr : ∀ x ∈ bs, 0 ≤ x ∧ x < 256) (hl : l.map (fun n : Nat => (n : Int)) = [a0, a1, a2, a3, a4]) (hgr : ∀ v ∈ l, v < 4294967296) (hn1 : n1 ≤ 500) (hn2 : n2 ≤ 100) (h4 : 16 ≤ p4 ∧ p4 ≤ 262136)
    (runs : Runs (askFns s) 6 (.call 4 []) (St.start l bs 4 (1000 + 100 * (n1 + n2) + 30)) s1 0) :
    Calls Tryz.prog 12 #[.agg #[.slice A 5 cf, .slice (some ⟨g, 0, none⟩) 5 5, .slice (some ⟨gD, 0, none⟩) bs.length cD, .int .i64 4, .int .i64 4], .int .i64 4, .slice none 0 0, .int .i64 (1000 + 100 * ((n1 : Int) + (n2 : Int)) + 30), .int .u32 16, .int .u32 (p4 - 16)] wx fun e w' => ∃ (g2 : Nat) (outv : Value), e = .returned (.tuple #[.int .u32 (s1.told : Int), .slice (some ⟨g2, 0, none⟩) (p4 - 16).toNat (p4 - 16).toNat, .agg #[.int .i64 0, .int .i64 0, .int .i64 0, .int .i64 (s1.used : Int), outv]]) ∧
      Sees .u8 w' (.slice (some ⟨g2, 0, none⟩) (p4 - 16).toNat (p4 - 16).toNat) (bytesAt s1.L (p4 - 16).toNat) ∧ Sees .u8 w' outv (s1.out.map fun n : Nat => (n : Int)) ∧ Below wx.heap.size wx w' := by
  have hll : l.length = 5 := by have := congrArg List.length hl; simpa using this
  have hG : Sees .u32 wx (.slice (some ⟨g, 0, none⟩) l.length 5) (l.map fun n : Nat => (n : Int)) := by
    rw [hl, hll]
    refine ⟨_, _, rfl, by simp, by simp [maxLen], fun _ => ⟨g, 0, rfl, fun j hj => ?_⟩⟩
    rw [Nat.zero_add, h.gl.cell j]
    simp only [List.length_cons, List.length_nil] at hj
    rcases (by omega : j = 0 ∨ j = 1 ∨ j = 2 ∨ j = 3 ∨ j = 4) with rfl | rfl | rfl | rfl | rfl <;> rfl
  have C := ma28Call (fun b => b ≠ pb ∧ b ≠ rb ∧ b ≠ gD) (askFns s) wx A (some ⟨g, 0, none⟩) (some ⟨gD, 0, none⟩) cf 5 cD 4 (1000 + 100 * (n1 + n2) + 30) 4 (p4 - 16).toNat 6 l bs 16 s1 h.f hG h.d.sees (by omega) (by omega) (by omega) (by omega) hgr hbr (by omega) (by simp [askFns_length]) (by rw [hll]; exact askFnsOk s hs.1 hs.2) (by simp [askFns_length]) rfl (by omega) (by omega) runs
  rw [hll] at C
  have e1 : (((1000 + 100 * (n1 + n2) + 30 : Nat)) : Int) = 1000 + 100 * ((n1 : Int) + (n2 : Int)) + 30 := by omega
  have e2 : (((p4 - 16).toNat : Nat) : Int) = p4 - 16 := by omega
  rw [e1, e2] at C
  refine C.mono ?_
  rintro _ w' ⟨r, rfl, g2, outv, rfl, row, oy, b⟩
  refine ⟨g2, outv, rfl, (Owns.ofBytes (B := 0) row (by omega) (by unfold maxLen; omega)).sees, ?_, b⟩
  have : Owns 5 .u8 wx.heap.size w' outv (s1.out.map fun n : Nat => (n : Int)) := by
    unfold Owns
    unfold OwnY at oy
    rw [List.length_map, List.map_map]
    exact oy
  exact this.sees

end Go.Proofs.YtgohnekaolgblaaGreat
