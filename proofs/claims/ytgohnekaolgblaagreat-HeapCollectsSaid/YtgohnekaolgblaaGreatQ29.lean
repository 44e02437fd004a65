/- gimletlaw29.lays: contract (printed by wip/gen_rlg.py). -/
import Derived.Test.YtgohnekaolgblaaGreatQ28
import Derived.Deep.CutRange
import Derived.Test.YtgohnekaolgblaaGreatQ11
namespace Go.Proofs.YtgohnekaolgblaaGreat
open Go.RowKit

def RoomAt (lo : Nat) (w4 wx : World) (rb : Nat) (p1 p2 p3 p4 at_ : Int) (ls rs : List Int) : Prop :=
  ∃ (A1 A2 : Option Addr) (c1 c2 : Nat), lo ≤ rb ∧ VB wx rb 34 #[.int .u32 16, .int .u32 p1, .int .u32 p2, .int .u32 p3, .int .u32 p4, .slice A1 ls.length c1, .int .u32 at_, .slice A2 rs.length c2] ∧ Owns 22 .u32 lo wx (.slice A1 ls.length c1) (ls.map (Hp.shift 16 at_)) ∧ Owns 22 .u32 lo wx (.slice A2 rs.length c2) (rs.map (Hp.shift 16 at_)) ∧ Below lo w4 wx
theorem roomNew {lo : Nat} {w4 w6 : World} {p1 p2 p3 p4 at_ : Int} {ls rs : List Int} {A1 A2 : Option Addr} {c1 c2 : Nat} (o1 : Owns 22 .u32 lo w6 (.slice A1 ls.length c1) (ls.map (Hp.shift 16 at_))) (o2 : Owns 22 .u32 lo w6 (.slice A2 rs.length c2) (rs.map (Hp.shift 16 at_))) (b : Below lo w4 w6) (hlo : lo ≤ w4.heap.size := by exact Nat.le_refl _) :
    RoomAt lo w4 (w6.alloc (.cells #[.int .u32 16, .int .u32 p1, .int .u32 p2, .int .u32 p3, .int .u32 p4, .slice A1 ls.length c1, .int .u32 at_, .slice A2 rs.length c2] 34)) w6.heap.size p1 p2 p3 p4 at_ ls rs :=
  ⟨A1, A2, c1, c2, Nat.le_trans hlo b.size, VB.new _ _ _, o1.alloc _, o2.alloc _, b.alloc (Nat.le_trans hlo b.size) _⟩
theorem shift_range {x : Int} (a to' : Int) (h : 0 ≤ x ∧ x < 4294967296) : 0 ≤ Hp.shift a to' x ∧ Hp.shift a to' x < 4294967296 := by
  unfold Hp.shift
  split
  · exact ⟨Int.emod_nonneg _ (by decide), Int.emod_lt_of_pos _ (by decide)⟩
  · exact h
theorem sees_block {B : Nat} {k : IntKind} {w w' : World} {A : Option Addr} {n c : Nat} {xs : List Int} (h : Sees k w (.slice A n c) xs) (hb : ∀ g, (Value.slice A n c).ownBlock = some g → w'.heap[g]? = w.heap[g]?) (_ : B ≤ w'.heap.size) : Sees k w' (.slice A n c) xs := by
  obtain ⟨A', c', e, h1, h2, h3⟩ := h
  refine ⟨A', c', e, h1, h2, fun hne => ?_⟩
  obtain ⟨b, off, rfl, hc⟩ := h3 hne
  simp only [Value.slice.injEq] at e
  obtain ⟨rfl, rfl, rfl⟩ := e
  refine ⟨b, off, rfl, fun j hj => ?_⟩
  rw [World.cell?_of_block (hb b rfl)]
  exact hc j hj
theorem VB.heap5 {w : World} {t g : Nat} (h : g ≠ t) (x0 x1 x2 x3 x4 : Value) : (((((w.setCell ⟨t, 0, none⟩ x0).setCell ⟨t, 1, none⟩ x1).setCell ⟨t, 2, none⟩ x2).setCell ⟨t, 3, none⟩ x3).setCell ⟨t, 4, none⟩ x4).heap[g]? = w.heap[g]? :=
  (Below.heap_setCell _ ⟨t, 4, none⟩ x4 g h).trans ((Below.heap_setCell _ ⟨t, 3, none⟩ x3 g h).trans ((Below.heap_setCell _ ⟨t, 2, none⟩ x2 g h).trans ((Below.heap_setCell _ ⟨t, 1, none⟩ x1 g h).trans (Below.heap_setCell _ ⟨t, 0, none⟩ x0 g h))))
theorem VB.set8 {w : World} {t : Nat} {T : TypeId} {a0 a1 a2 a3 a4 a5 a6 a7 : Value} (h : VB w t T #[a0, a1, a2, a3, a4, a5, a6, a7]) (x0 x1 x2 x3 x4 x5 x6 x7 : Value) : VB ((((((((w.setCell ⟨t, 0, none⟩ x0).setCell ⟨t, 1, none⟩ x1).setCell ⟨t, 2, none⟩ x2).setCell ⟨t, 3, none⟩ x3).setCell ⟨t, 4, none⟩ x4).setCell ⟨t, 5, none⟩ x5).setCell ⟨t, 6, none⟩ x6).setCell ⟨t, 7, none⟩ x7) t T #[x0, x1, x2, x3, x4, x5, x6, x7] := by
  have h0 : VB _ t T #[x0, a1, a2, a3, a4, a5, a6, a7] := h.set 0 x0
  have h1 : VB _ t T #[x0, x1, a2, a3, a4, a5, a6, a7] := h0.set 1 x1
  have h2 : VB _ t T #[x0, x1, x2, a3, a4, a5, a6, a7] := h1.set 2 x2
  have h3 : VB _ t T #[x0, x1, x2, x3, a4, a5, a6, a7] := h2.set 3 x3
  have h4 : VB _ t T #[x0, x1, x2, x3, x4, a5, a6, a7] := h3.set 4 x4
  have h5 : VB _ t T #[x0, x1, x2, x3, x4, x5, a6, a7] := h4.set 5 x5
  have h6 : VB _ t T #[x0, x1, x2, x3, x4, x5, x6, a7] := h5.set 6 x6
  exact h6.set 7 x7
theorem heap_set8 {w : World} {t g : Nat} (h : g ≠ t) (x0 x1 x2 x3 x4 x5 x6 x7 : Value) : ((((((((w.setCell ⟨t, 0, none⟩ x0).setCell ⟨t, 1, none⟩ x1).setCell ⟨t, 2, none⟩ x2).setCell ⟨t, 3, none⟩ x3).setCell ⟨t, 4, none⟩ x4).setCell ⟨t, 5, none⟩ x5).setCell ⟨t, 6, none⟩ x6).setCell ⟨t, 7, none⟩ x7).heap[g]? = w.heap[g]? :=
  (Below.heap_setCell _ ⟨t, 7, none⟩ x7 g h).trans ((Below.heap_setCell _ ⟨t, 6, none⟩ x6 g h).trans ((Below.heap_setCell _ ⟨t, 5, none⟩ x5 g h).trans ((Below.heap_setCell _ ⟨t, 4, none⟩ x4 g h).trans ((Below.heap_setCell _ ⟨t, 3, none⟩ x3 g h).trans ((Below.heap_setCell _ ⟨t, 2, none⟩ x2 g h).trans ((Below.heap_setCell _ ⟨t, 1, none⟩ x1 g h).trans (Below.heap_setCell _ ⟨t, 0, none⟩ x0 g h)))))))
theorem roomSet {lo rb : Nat} {w4 w6 : World} {p1 p2 p3 p4 at_ : Int} {ls rs : List Int} {A1 A2 : Option Addr} {c1 c2 : Nat} {a0 a1 a2 a3 a4 a5 a6 a7 : Value} (z : VB w6 rb 34 #[a0, a1, a2, a3, a4, a5, a6, a7]) (hr : lo ≤ rb) (o1 : Owns 22 .u32 lo w6 (.slice A1 ls.length c1) (ls.map (Hp.shift 16 at_))) (o2 : Owns 22 .u32 lo w6 (.slice A2 rs.length c2) (rs.map (Hp.shift 16 at_))) (b : Below lo w4 w6) :
    RoomAt lo w4 ((((((((w6.setCell ⟨rb, 0, none⟩ (.int .u32 16)).setCell ⟨rb, 1, none⟩ (.int .u32 p1)).setCell ⟨rb, 2, none⟩ (.int .u32 p2)).setCell ⟨rb, 3, none⟩ (.int .u32 p3)).setCell ⟨rb, 4, none⟩ (.int .u32 p4)).setCell ⟨rb, 5, none⟩ (.slice A1 ls.length c1)).setCell ⟨rb, 6, none⟩ (.int .u32 at_)).setCell ⟨rb, 7, none⟩ (.slice A2 rs.length c2)) rb p1 p2 p3 p4 at_ ls rs :=
  ⟨A1, A2, c1, c2, hr, z.set8 _ _ _ _ _ _ _ _, row_keep o1 fun _ hg => heap_set8 (fun e => row_ne z o1 (by decide) (hg.trans (congrArg some e))) _ _ _ _ _ _ _ _, row_keep o2 fun _ hg => heap_set8 (fun e => row_ne z o2 (by decide) (hg.trans (congrArg some e))) _ _ _ _ _ _ _ _, (((((((b.setCell hr _).setCell hr _).setCell hr _).setCell hr _).setCell hr _).setCell hr _).setCell hr _).setCell hr _⟩
/-- What is laid: the program, the room. -/
def LaysEnd (w : World) (fs : List Fx) (p1 p2 p3 p4 at_ : Int) (ls rs : List Int) (v : Value) (w' : World) : Prop :=
  ∃ (A Al Ar : Option Addr) (cf g gD cD cl cr : Nat) (bs : List Int) (F : Nat → Prop), v = .tuple #[.agg #[.slice A fs.length cf, .slice (some ⟨g, 0, none⟩) 5 5, .slice (some ⟨gD, 0, none⟩) bs.length cD, .int .i64 4, .int .i64 0], .agg #[.int .u32 16, .int .u32 p1, .int .u32 p2, .int .u32 p3, .int .u32 p4, .slice Al ls.length cl, .int .u32 at_, .slice Ar rs.length cr], .bool true] ∧
    FxL F w' fs (.slice A fs.length cf) ∧ (∃ T, VB w' g T #[.int .u32 (p1 + 4 * rs.length), .int .u32 (at_ + 4 * ls.length), .int .u32 at_, .int .u32 (at_ + p3 - p2), .int .u32 (p2 + p3 - at_)]) ∧
    Owns 5 .u8 w.heap.size w' (.slice (some ⟨gD, 0, none⟩) bs.length cD) bs ∧ bs = putWs (putWs (List.replicate (at_.toNat - 16 + 4 * ls.length) 0) (at_.toNat - 16) (ls.map (Hp.shift 16 at_))) (p1.toNat - 16) (rs.map (Hp.shift 16 at_)) ∧
    Owns 22 .u32 w.heap.size w' (.slice Al ls.length cl) (ls.map (Hp.shift 16 at_)) ∧ Owns 22 .u32 w.heap.size w' (.slice Ar rs.length cr) (rs.map (Hp.shift 16 at_)) ∧
    (∀ b, F b → b ≠ g ∧ b ≠ gD) ∧ g ≠ gD ∧ w.heap.size ≤ g ∧ Below w.heap.size w w'

set_option maxRecDepth 100000 in
set_option maxHeartbeats 4000000 in
theorem rlLaysF (w : World) (st p1 p2 p3 p4 : Int) (fs : List Fx) (vl vr : Value) (ls rs : List Int)
    (hPr : ∀ wr, Calls Tryz.prog 23 #[.int .i64 4, .int .u32 st] wr fun e w' => ∃ v, e = .returned (.tuple #[v, .int .i64 0]) ∧ ProgAt (fun b => wr.heap.size ≤ b) wr w' fs [p1, p2, p2, p3, p3] 4 0 v ∧ Below wr.heap.size wr w')
    (hPl : ∀ wr, Calls Tryz.prog 24 #[.int .i64 4, .int .u32 st] wr fun e w' => e = .returned (.tuple #[.agg #[.int .u32 16, .int .u32 p1, .int .u32 p2, .int .u32 p3, .int .u32 p4], .int .i64 0]) ∧ Below wr.heap.size wr w')
    (hfl : fs.length = 4) (hl : Sees .u32 w vl ls) (hv : Sees .u32 w vr rs) (hlr : ∀ x ∈ ls, 0 ≤ x ∧ x < 4294967296) (hrr : ∀ x ∈ rs, 0 ≤ x ∧ x < 4294967296) (hll : ls.length ≤ 500) (hrl : rs.length ≤ 100) (hst : 16 ≤ p1 ∧ p1 + 400 ≤ p2 ∧ p2 + 2000 ≤ p3 ∧ p3 + 2000 ≤ 262144) :
    Calls Tryz.prog 6 #[.int .u32 st, vl, vr, .bool false] w fun e w' => ∃ v, e = .returned v ∧ LaysEnd w fs p1 p2 p3 p4 p2 ls rs v w' := by
  obtain ⟨Al, cl, rfl, -, -⟩ := hl.len
  obtain ⟨Ar, cr, rfl, -, -⟩ := hv.len
  have hat : 16 ≤ p2 ∧ p1 + 400 ≤ p2 ∧ p2 + 2000 ≤ 262144 := by omega
  replace hPr := Lib.hid hPr
  replace hPl := Lib.hid hPl
  replace hl := Lib.hid hl
  replace hv := Lib.hid hv
  replace hlr := Lib.hid hlr
  replace hrr := Lib.hid hrr
  go_enter Tryz.func6, Tryz.ntmps6
  go_wp2_with fail
  have b0 := B.alloc (B.alloc (B.refl w) (.cells #[.slice none 0 0, .slice none 0 0, .slice none 0 0, .int .i64 0, .int .i64 0] 30)) (.cells #[.int .u32 0, .int .u32 0, .int .u32 0, .int .u32 0, .int .u32 0, .slice none 0 0, .int .u32 0, .slice none 0 0] 34)
  have U0 := (VB.new w 30 #[.slice none 0 0, .slice none 0 0, .slice none 0 0, .int .i64 0, .int .i64 0]).alloc (.cells #[.int .u32 0, .int .u32 0, .int .u32 0, .int .u32 0, .int .u32 0, .slice none 0 0, .int .u32 0, .slice none 0 0] 34)
  have W0 := VB.new (w.alloc (.cells #[.slice none 0 0, .slice none 0 0, .slice none 0 0, .int .i64 0, .int .i64 0] 30)) 34 #[.int .u32 0, .int .u32 0, .int .u32 0, .int .u32 0, .int .u32 0, .slice none 0 0, .int .u32 0, .slice none 0 0]
  simp only [World.size_alloc] at W0
  have hz0 : ((w.alloc (.cells #[.slice none 0 0, .slice none 0 0, .slice none 0 0, .int .i64 0, .int .i64 0] 30)).alloc (.cells #[.int .u32 0, .int .u32 0, .int .u32 0, .int .u32 0, .int .u32 0, .slice none 0 0, .int .u32 0, .slice none 0 0] 34)).heap.size = w.heap.size + 1 + 1 := by simp
  generalize (w.alloc (.cells #[.slice none 0 0, .slice none 0 0, .slice none 0 0, .int .i64 0, .int .i64 0] 30)).alloc (.cells #[.int .u32 0, .int .u32 0, .int .u32 0, .int .u32 0, .int .u32 0, .slice none 0 0, .int .u32 0, .slice none 0 0] 34) = w0 at b0 U0 W0 hz0 ⊢
  refine (hPr.out _).mono ?_
  rintro _ w1 ⟨v, rfl, ⟨F, uf, g, T, rfl, kf, hFS, hFg, hgw, hgl⟩, b1⟩
  replace kf := kf.mono (S' := fun b => F b ∧ b < w1.heap.size) (fun b h1 h2 => ⟨h2, h1⟩)
  obtain ⟨A, cf, e, kf1, kf2, kf3⟩ := id kf
  rw [hfl] at e
  subst e
  replace hgl : VB w1 g T #[.int .u32 p1, .int .u32 p2, .int .u32 p2, .int .u32 p3, .int .u32 p3] := hgl
  have glt := hgl.lt
  have U1 := U0.below b1 (by omega)
  have W1 := W0.below b1 (by omega)
  have P1 := VB.new w1 30 #[.slice A 4 cf, .slice (some ⟨g, 0, none⟩) 5 5, .slice none 0 0, .int .i64 4, .int .i64 0]
  have b01 := b0.trans (b1.mono (by omega))
  have hs1 := b1.size
  go_wp2_with fail
  have b12 := b01.trans ((B.alloc (B.refl w1) (.cells #[.slice A 4 cf, .slice (some ⟨g, 0, none⟩) 5 5, .slice none 0 0, .int .i64 4, .int .i64 0] 30)).mono (by omega))
  have U2 := U1.alloc (.cells #[.slice A 4 cf, .slice (some ⟨g, 0, none⟩) 5 5, .slice none 0 0, .int .i64 4, .int .i64 0] 30)
  have W2 := W1.alloc (.cells #[.slice A 4 cf, .slice (some ⟨g, 0, none⟩) 5 5, .slice none 0 0, .int .i64 4, .int .i64 0] 30)
  have hgl2 := hgl.alloc (.cells #[.slice A 4 cf, .slice (some ⟨g, 0, none⟩) 5 5, .slice none 0 0, .int .i64 4, .int .i64 0] 30)
  have kf2 := kf.below (B.alloc (B.refl w1) (.cells #[.slice A 4 cf, .slice (some ⟨g, 0, none⟩) 5 5, .slice none 0 0, .int .i64 4, .int .i64 0] 30))
  have hz2 : (w1.alloc (.cells #[.slice A 4 cf, .slice (some ⟨g, 0, none⟩) 5 5, .slice none 0 0, .int .i64 4, .int .i64 0] 30)).heap.size = w1.heap.size + 1 := by simp
  generalize w1.alloc (.cells #[.slice A 4 cf, .slice (some ⟨g, 0, none⟩) 5 5, .slice none 0 0, .int .i64 4, .int .i64 0] 30) = w2 at P1 b12 U2 W2 hgl2 kf2 hz2 ⊢
  refine (hPl.out _).mono ?_
  rintro _ w3 ⟨rfl, b3⟩
  have P3 := P1.call b3
  have U3 := U2.call b3
  have W3 := W2.call b3
  have hgl3 := hgl2.call b3
  have kf3 := kf2.below b3
  have b13 := b12.trans (b3.mono b12.size)
  have hs3 := b3.size
  have Q4 := VB.new w3 32 #[.int .u32 16, .int .u32 p1, .int .u32 p2, .int .u32 p3, .int .u32 p4]
  have P4 := P3.alloc (.cells #[.int .u32 16, .int .u32 p1, .int .u32 p2, .int .u32 p3, .int .u32 p4] 32)
  have U4 := U3.alloc (.cells #[.int .u32 16, .int .u32 p1, .int .u32 p2, .int .u32 p3, .int .u32 p4] 32)
  have W4 := W3.alloc (.cells #[.int .u32 16, .int .u32 p1, .int .u32 p2, .int .u32 p3, .int .u32 p4] 32)
  have hgl4 := hgl3.alloc (.cells #[.int .u32 16, .int .u32 p1, .int .u32 p2, .int .u32 p3, .int .u32 p4] 32)
  have kf4 := kf3.below (B.alloc (B.refl w3) (.cells #[.int .u32 16, .int .u32 p1, .int .u32 p2, .int .u32 p3, .int .u32 p4] 32))
  have b14 := B.alloc b13 (.cells #[.int .u32 16, .int .u32 p1, .int .u32 p2, .int .u32 p3, .int .u32 p4] 32)
  obtain ⟨w4, hw4⟩ : ∃ w4, w4 = w3.alloc (.cells #[.int .u32 16, .int .u32 p1, .int .u32 p2, .int .u32 p3, .int .u32 p4] 32) := ⟨_, rfl⟩
  have hz4 : w4.heap.size = w3.heap.size + 1 := by rw [hw4]; simp
  rw [← hw4] at Q4 P4 U4 W4 hgl4 kf4 b14
  have q0 := Q4.cell 0
  have q1 := Q4.cell 1
  have q2 := Q4.cell 2
  have q3 := Q4.cell 3
  have q4 := Q4.cell 4
  simp at q0 q1 q2 q3 q4
  clear P1 U0 W0 U1 W1 U2 W2 hgl2 kf2 hgl kf1 kf b0 b1 b01 b12 b13 b3 U3 W3 hgl3 kf3
  replace Q4 := Lib.hid Q4
  replace P4 := Lib.hid P4
  replace U4 := Lib.hid U4
  replace W4 := Lib.hid W4
  replace hgl4 := Lib.hid hgl4
  replace kf4 := Lib.hid kf4
  replace b14 := Lib.hid b14
  replace hFS := Lib.hid hFS
  replace hFg := Lib.hid hFg
  have CM : ∀ (v : Value) (xs : List Int), Sees .u32 w v xs → (∀ x ∈ xs, 0 ≤ x ∧ x < 4294967296) → xs.length ≤ 500 → ∀ wr, Below w4.heap.size w4 wr → Calls Tryz.prog 25 #[v, .int .u32 p2] wr fun e w' => ∃ A c, e = .returned (.slice A xs.length c) ∧ Owns 22 .u32 w4.heap.size w' (.slice A xs.length c) (xs.map (Hp.shift 16 p2)) ∧ Below w4.heap.size w4 w' ∧ Below wr.heap.size wr w' := by
    intro v xs hx hxr hxl wr hb
    refine (rlMoved v xs p2 wr ((hx.below b14.out (Nat.le_refl _)).below hb (Nat.le_refl _)) hxr (by omega)).mono ?_
    rintro _ w' ⟨o, rfl, ho, b⟩
    obtain ⟨A, c, rfl, -, -⟩ := ho.sees.len
    rw [List.length_map] at ho ⊢
    exact ⟨A, c, rfl, ho.mono hb.size, hb.trans (b.mono hb.size), b⟩
  have C1 := Lib.hid (CM _ ls hl.out hlr.out hll)
  have C2 := Lib.hid (CM _ rs hv.out hrr.out (by omega))
  clear CM
  have y0 := P3.cell 0
  have y1 := P3.cell 1
  have y2 := P3.cell 2
  have y3 := P3.cell 3
  have y4 := P3.cell 4
  have yl := P3.lt
  simp at y0 y1 y2 y3 y4
  clear P3
  go_upto_region 8 with fail
  rw [← hw4]
  clear y0 y1 y2 y3 y4 yl
  have ql := Q4.out.lt
  go_cut [16] from 20 to 64 (fun rv wx => ∃ (rb : Nat), rv = .pointer (some ⟨rb, 0, none⟩) ∧ RoomAt w4.heap.size w4 wx rb p1 p2 p3 p4 p2 ls rs)
  case first =>
    subst hw4
    go_region_law (first
      | (go_simp; go_at_call 25; with_reducible refine (C1.out _ (by first | exact below_drew (Below.refl _ _) | exact below_drew (B.alloc (Below.refl _ _) _))).mono ?_; rintro _ w5 ⟨A5, c5, rfl, o5, b5, e5⟩; have hs5 := b5.size; simp only [World.size_alloc] at hs5; have hn5 : w3.heap.size ≠ w5.heap.size := (by omega); have hm5 : w3.heap.size < w5.heap.size := (by omega); have t50 := (b5.cell (p := ⟨w3.heap.size, 0, none⟩) (by simp only; omega)).trans q0; have t51 := (b5.cell (p := ⟨w3.heap.size, 1, none⟩) (by simp only; omega)).trans q1; have t52 := (b5.cell (p := ⟨w3.heap.size, 2, none⟩) (by simp only; omega)).trans q2; have t53 := (b5.cell (p := ⟨w3.heap.size, 3, none⟩) (by simp only; omega)).trans q3; have t54 := (b5.cell (p := ⟨w3.heap.size, 4, none⟩) (by simp only; omega)).trans q4; try (have z5 := VB.call (VB.drew (VB.new _ 34 #[.int .u32 0, .int .u32 0, .int .u32 0, .int .u32 0, .int .u32 0, .slice none 0 0, .int .u32 0, .slice none 0 0])) e5; simp only [World.size_alloc] at z5))
      | (go_simp; go_at_call 25; with_reducible refine (C2.out _ (by first | exact b5 | exact B.alloc b5 _)).mono ?_; rintro _ w6 ⟨A6, c6, rfl, o6, b6, e6⟩; have hs6 := b6.size; simp only [World.size_alloc] at hs6; have hn6 : w3.heap.size ≠ w6.heap.size := (by omega); have hm6 : w3.heap.size < w6.heap.size := (by omega); have t60 := (b6.cell (p := ⟨w3.heap.size, 0, none⟩) (by simp only; omega)).trans q0; have t61 := (b6.cell (p := ⟨w3.heap.size, 1, none⟩) (by simp only; omega)).trans q1; have t62 := (b6.cell (p := ⟨w3.heap.size, 2, none⟩) (by simp only; omega)).trans q2; have t63 := (b6.cell (p := ⟨w3.heap.size, 3, none⟩) (by simp only; omega)).trans q3; have t64 := (b6.cell (p := ⟨w3.heap.size, 4, none⟩) (by simp only; omega)).trans q4; first | (have z6 := VB.call z5 e6; have zg0 := z6.free 0; have zg1 := z6.free 1; have zg2 := z6.free 2; have zg3 := z6.free 3; have zg4 := z6.free 4; have zg5 := z6.free 5; have zg6 := z6.free 6; have zg7 := z6.free 7; have zl6 := z6.lt; have zh0 := z6.cell 0; have zh1 := z6.cell 1; have zh2 := z6.cell 2; have zh3 := z6.cell 3; have zh4 := z6.cell 4; have zh5 := z6.cell 5; have zh6 := z6.cell 6; have zh7 := z6.cell 7; simp at zh0 zh1 zh2 zh3 zh4 zh5 zh6 zh7) | (have z6 := VB.call (VB.new w5 34 #[.int .u32 0, .int .u32 0, .int .u32 0, .int .u32 0, .int .u32 0, .slice none 0 0, .int .u32 0, .slice none 0 0]) e6; have zg0 := z6.free 0; have zg1 := z6.free 1; have zg2 := z6.free 2; have zg3 := z6.free 3; have zg4 := z6.free 4; have zg5 := z6.free 5; have zg6 := z6.free 6; have zg7 := z6.free 7; have zl6 := z6.lt; have zh0 := z6.cell 0; have zh1 := z6.cell 1; have zh2 := z6.cell 2; have zh3 := z6.cell 3; have zh4 := z6.cell 4; have zh5 := z6.cell 5; have zh6 := z6.cell 6; have zh7 := z6.cell 7; simp at zh0 zh1 zh2 zh3 zh4 zh5 zh6 zh7) | skip))
    all_goals (go_wp2_with fail; go_meet)
    all_goals refine ⟨_, rfl, ?_⟩
    all_goals first
      | (with_reducible refine roomNew ?_ o6 b6 (Nat.le_refl _); first | exact o5.below e6 (Nat.le_refl _) | exact (o5.alloc _).below e6 (Nat.le_refl _))
      | (with_reducible refine roomSet z6 ?_ ?_ o6 b6; (· simp only [World.size_alloc]; omega); first | exact o5.below e6 (Nat.le_refl _) | exact (o5.alloc _).below e6 (Nat.le_refl _))
  case rest =>
    obtain ⟨w5, rfl⟩ : ∃ w5, w5 = wc := ⟨_, rfl⟩
    obtain ⟨rb, rfl, A1, A2, c1, c2, hrb, R5, o1, o2, b5⟩ := hcut
    obtain ⟨xs, hxs⟩ : ∃ xs, xs = ls.map (Hp.shift 16 p2) := ⟨_, rfl⟩
    obtain ⟨ys, hys⟩ : ∃ ys, ys = rs.map (Hp.shift 16 p2) := ⟨_, rfl⟩
    have hxl := Lib.hid (show xs.length = ls.length by rw [hxs, List.length_map])
    have hyl := Lib.hid (show ys.length = rs.length by rw [hys, List.length_map])
    have hxr : ∀ x ∈ xs, 0 ≤ x ∧ x < 4294967296 := by
      intro x hx
      rw [hxs] at hx
      obtain ⟨y, hy, rfl⟩ := List.mem_map.1 hx
      exact shift_range _ _ (hlr.out y hy)
    have hyr : ∀ x ∈ ys, 0 ≤ x ∧ x < 4294967296 := by
      intro x hx
      rw [hys] at hx
      obtain ⟨y, hy, rfl⟩ := List.mem_map.1 hx
      exact shift_range _ _ (hrr.out y hy)
    replace hxr := Lib.hid hxr
    replace hyr := Lib.hid hyr
    rw [← hxs] at o1
    rw [← hys] at o2
    replace hxs := Lib.hid hxs
    replace hys := Lib.hid hys
    have hs5 := b5.size
    have P5 := Lib.hid (P4.out.below b5 P4.out.lt)
    have U5 := Lib.hid (U4.out.below b5 U4.out.lt)
    have W5 := Lib.hid (W4.out.below b5 W4.out.lt)
    have Q5 := Lib.hid (Q4.out.below b5 Q4.out.lt)
    have hgl5 := Lib.hid (hgl4.out.below b5 hgl4.out.lt)
    have kf5 := Lib.hid (kf4.out.below b5)
    have b15 := Lib.hid (b14.out.trans (b5.mono b14.out.size))
    have ws4 := b14.out.size
    have lP := P4.out.lt
    have lg := hgl4.out.lt
    have lR := R5.lt
    have l1 := o1.lt
    have l2 := o2.lt
    replace o1 := Lib.hid (o1.mono ws4)
    replace o2 := Lib.hid (o2.mono ws4)
    replace R5 := Lib.hid R5
    replace l1 := Lib.hid l1
    replace l2 := Lib.hid l2
    clear P4 U4 W4 Q4 hgl4 kf4 b14 b5 C1 C2 hlr hrr hl hv q0 q1 q2 q3 q4 hPr hPl
    obtain ⟨m, hm⟩ : ∃ m : Nat, m = (p2).toNat - 16 + 4 * ls.length := ⟨_, rfl⟩
    obtain ⟨q, hq⟩ : ∃ q : Nat, q = (p2).toNat - 16 := ⟨_, rfl⟩
    obtain ⟨r, hr⟩ : ∃ r : Nat, r = p1.toNat - 16 := ⟨_, rfl⟩
    have hmq : m ≤ q + 4 * ls.length ∧ q + 4 * ls.length ≤ m := by omega
    have hrm : r + 4 * rs.length ≤ m := by omega
    have hmb : m ≤ 262144 := by omega
    have hqI : (p2 ≤ 16 + (q : Int)) ∧ (16 + (q : Int) ≤ p2) := by omega
    have hrI : (p1 ≤ 16 + (r : Int)) ∧ (16 + (r : Int) ≤ p1) := by omega
    replace hm := Lib.hid hm
    replace hq := Lib.hid hq
    replace hr := Lib.hid hr
    obtain ⟨iC, hiC, hzC, hsC, hbC⟩ := info_parts3 (show (Tryz.prog.info? 5).map (fun i => (i.zero, i.size, i.bytes)) = some (some (.int .u8 0), 1, 1) by kernel_rfl)
    replace hiC := Lib.hid hiC
    replace hzC := Lib.hid hzC
    replace hsC := Lib.hid hsC
    replace hbC := Lib.hid hbC
    have hmk : p2 - 16 + 4 * (ls.length : Int) = (m : Int) := by omega
    go_wp2_with (at_make; refine wpList_make_row w5 rfl (.tmp 71) (.tmp 71) 28 rfl 5 iC (.int .u8 0) Tryz.underlying28 hiC.out hzC.out hsC.out rfl .u32 .u32 m rfl rfl (by rw [hbC.out]; omega) (by omega) ?_; obtain ⟨w6, hw6, R6, b6, z6⟩ : ∃ w6, w6 = w5.alloc (.cells (madeCells #[Value.int .u8 0] m) 5) ∧ Hid (w6.rowIs w5.heap.size 5 m (fun _ => .int .u8 0)) ∧ Below w5.heap.size w5 w6 ∧ w6.heap.size = w5.heap.size + 1 := ⟨_, rfl, Lib.hid (World.rowIs_made w5 _ m _), (Below.refl _ _).alloc (Nat.le_refl _) _, by simp⟩; rw [← hw6]; clear hw6)
    have b16 := Lib.hid (b15.out.trans (b6.mono (Nat.le_trans ws4 hs5)))
    have P6 := Lib.hid (P5.out.call b6)
    have U6 := Lib.hid (U5.out.call b6)
    have W6 := Lib.hid (W5.out.call b6)
    have Q6 := Lib.hid (Q5.out.call b6)
    have R6' := Lib.hid (R5.out.call b6)
    have hgl6 := Lib.hid (hgl5.out.call b6)
    have kf6 := Lib.hid (kf5.out.below b6)
    have s1 := Lib.hid (o1.out.below b6 (Nat.le_refl _))
    have s2 := Lib.hid (o2.out.below b6 (Nat.le_refl _))
    have D6 := Lib.hid (Owns.row0 (B := w.heap.size) R6.out (by omega) (by unfold maxLen; omega))
    have lF := Lib.hid (show ∀ b, F b ∧ b < w1.heap.size → w.heap.size + 2 ≤ b ∧ b < w1.heap.size ∧ b ≠ g from fun b hb => ⟨by have := hFS.out b hb.1; omega, hb.2, fun e => hFg.out (e ▸ hb.1)⟩)
    obtain ⟨gD, hgD⟩ : ∃ gD, gD = w5.heap.size := ⟨_, rfl⟩
    rw [← hgD] at D6 ⊢
    have zD : gD < w6.heap.size ∧ w5.heap.size ≤ gD ∧ gD ≤ w5.heap.size := by omega
    replace hgD := Lib.hid hgD
    clear P5 U5 W5 Q5 R5 hgl5 kf5 b15 o1 o2 b6 R6 hiC hzC hsC hbC hmk
    have hq6 : (putWs (List.replicate m 0) q (xs.take 0)) = List.replicate m 0 := rfl
    rw [← hq6] at D6
    replace D6 := Lib.hid D6
    clear hq6
    obtain ⟨B0, hB0⟩ : ∃ B0, B0 = List.replicate m (0 : Int) := ⟨_, rfl⟩
    have hBl : B0.length = m := by rw [hB0, List.length_replicate]
    replace hBl := Lib.hid hBl
    rw [← hB0] at D6
    replace D6 := Lib.hid D6.out
    replace hB0 := Lib.hid hB0
    go_loopw [18] (fun qv wr => ∃ (i : Nat), qv = .int .i64 (i : Int) ∧ i ≤ ls.length ∧ Owns 5 .u8 w.heap.size wr (.slice (some ⟨gD, 0, none⟩) m m) (putWs B0 q (xs.take i)) ∧ GrowS (fun k => k = gD) w6 wr)
      (fun qv _ => ls.length - (intOf qv).toNat)
    case atStart => exact ⟨0, rfl, by omega, D6.out, GrowS.refl _ _⟩
    case round =>
      obtain ⟨i, rfl, hi, hown, hg⟩ := hrel
      have hsz := hg.size
      have Rr := hg.vb R6'.out (by omega)
      have r1 := Rr.cell 5
      simp at r1
      by_cases hil : i < ls.length
      · have hs1r : Sees .u32 wr (.slice A1 ls.length c1) xs := by
          refine sees_block (B := w6.heap.size) s1.out.sees (fun g hg' => hg.block g ?_ ?_) hg.size
          · have := l1.out g hg'; omega
          · have := l1.out g hg'; omega
        obtain ⟨A', c', he, -, -, h3⟩ := hs1r
        simp only [Value.slice.injEq] at he
        obtain ⟨rfl, -, rfl⟩ := he
        have hxi : i < xs.length := by rw [hxl.out]; exact hil
        obtain ⟨b, off, rfl, hc⟩ := h3 (by intro e; rw [e] at hxi; simp at hxi)
        have hci := hc i hxi
        have hri := hxr.out _ (List.getElem_mem hxi)
        have htk := putWs_take B0 q xs i hxi
        obtain ⟨x, hx⟩ : ∃ x, x = xs[i] := ⟨_, rfl⟩
        rw [← hx] at hci hri htk
        have hlen : (putWs B0 q (xs.take i)).length = m := by rw [putWs_length, hBl.out]
        have hilI : (i : Int) < (ls.length : Int) := by omega
        have hC := Lib.hid (rlPut (.slice (some ⟨gD, 0, none⟩) m m) _ (p2 + 4 * (i : Int)) x (q + 4 * i) w.heap.size wr hown (by omega) (by rw [hlen]; omega) (by rw [hlen]; omega) hri)
        clear hc h3 hx hlen hown Rr
        replace htk := Lib.hid htk
        replace hg := Lib.hid hg
        go_wp2_with fail
        refine hC.out.mono ?_
        rintro _ w8 ⟨rfl, o8, g8⟩
        rw [← htk.out] at o8
        have hG8 := hg.out.trans (g8.mono fun k _ e => (by simpa [Value.ownBlock] using e.symm))
        replace o8 := Lib.hid o8
        replace hG8 := Lib.hid hG8
        clear g8
        go_wp2_with fail
        exact ⟨⟨i + 1, by rw [show ((i + 1 : Nat) : Int) = (i : Int) + 1 by omega], by omega, o8.out, hG8.out⟩, by simp only [intOf]; omega⟩
      · obtain rfl : i = ls.length := by omega
        rw [List.take_of_length_le (by rw [hxl.out]; exact Nat.le_refl _)] at hown
        obtain ⟨w7, rfl⟩ : ∃ w7, w7 = wr := ⟨_, rfl⟩
        replace hown := Lib.hid hown
        have G7 := Lib.hid hg
        clear Rr hg
        obtain ⟨B1, hB1⟩ : ∃ B1, B1 = putWs B0 q xs := ⟨_, rfl⟩
        have hBl1 := Lib.hid (show B1.length = m by rw [hB1, putWs_length, hBl.out])
        rw [← hB1] at hown
        replace hB1 := Lib.hid hB1
        go_wp2_with fail
        go_loopw [19] (fun qv wr => ∃ (i : Nat), qv = .int .i64 (i : Int) ∧ i ≤ rs.length ∧ Owns 5 .u8 w.heap.size wr (.slice (some ⟨gD, 0, none⟩) m m) (putWs B1 r (ys.take i)) ∧ GrowS (fun k => k = gD) w6 wr)
          (fun qv _ => rs.length - (intOf qv).toNat)
        case atStart => exact ⟨0, rfl, by omega, hown.out, G7.out⟩
        case round =>
          clear hown G7 r1 hi hsz
          obtain ⟨i, rfl, hi, hown, hg⟩ := hrel
          have hsz := hg.size
          have Rr := hg.vb R6'.out (by omega)
          have Qr := hg.vb Q6.out (by omega)
          have r1 := Rr.cell 7
          have q1 := Qr.cell 1
          simp at r1 q1
          by_cases hil : i < rs.length
          · have hs1r : Sees .u32 wr (.slice A2 rs.length c2) ys := by
              refine sees_block (B := w6.heap.size) s2.out.sees (fun g hg' => hg.block g ?_ ?_) hg.size
              · have := l2.out g hg'; omega
              · have := l2.out g hg'; omega
            obtain ⟨A', c', he, -, -, h3⟩ := hs1r
            simp only [Value.slice.injEq] at he
            obtain ⟨rfl, -, rfl⟩ := he
            have hxi : i < ys.length := by rw [hyl.out]; exact hil
            obtain ⟨b, off, rfl, hc⟩ := h3 (by intro e; rw [e] at hxi; simp at hxi)
            have hci := hc i hxi
            have hri := hyr.out _ (List.getElem_mem hxi)
            have htk := putWs_take B1 r ys i hxi
            obtain ⟨x, hx⟩ : ∃ x, x = ys[i] := ⟨_, rfl⟩
            rw [← hx] at hci hri htk
            have hlen : (putWs B1 r (ys.take i)).length = m := by rw [putWs_length, hBl1.out]
            have hilI : (i : Int) < (rs.length : Int) := by omega
            have hw1 : IntKind.u32.wrap (p1 + IntKind.u32.wrap (4 * IntKind.u32.wrap (i : Int))) = p1 + 4 * (i : Int) := by
              rw [IntWalk.u32_in (i : Int) (by omega), IntWalk.u32_in (4 * (i : Int)) (by omega), IntWalk.u32_in _ (by omega)]
            have hC : ∀ wx, wx = wr ∨ wx = wr.drew → Calls Tryz.prog 26 #[.slice (some ⟨gD, 0, none⟩) m m, .int .u32 (IntKind.u32.wrap (p1 + IntKind.u32.wrap (4 * IntKind.u32.wrap (i : Int)))), .int .u32 x] wx fun e w' => e = .returned (.tuple #[]) ∧ Owns 5 .u8 w.heap.size w' (.slice (some ⟨gD, 0, none⟩) m m) (putWs B1 r (ys.take (i + 1))) ∧ GrowS (fun k => k = gD) w6 w' := by
              intro wx hwx
              rw [hw1]
              have hwx2 : Owns 5 .u8 w.heap.size wx (.slice (some ⟨gD, 0, none⟩) m m) (putWs B1 r (ys.take i)) ∧ GrowS (fun k => k = gD) w6 wx := by
                rcases hwx with rfl | rfl
                · exact ⟨hown, hg⟩
                · exact ⟨hown, hg.drew⟩
              refine (rlPut _ _ (p1 + 4 * (i : Int)) x (r + 4 * i) w.heap.size wx hwx2.1 (by omega) (by rw [hlen]; omega) (by rw [hlen]; omega) hri).mono ?_
              rintro _ w' ⟨rfl, o, g⟩
              refine ⟨rfl, by rw [htk]; exact o, hwx2.2.trans (g.mono fun k _ e => ?_)⟩
              simp only [Value.ownBlock, Option.some.injEq] at e
              exact e.symm
            replace hC := Lib.hid hC
            clear hc h3 hx htk hlen hown hg Rr Qr hw1
            go_wp2_with fail
            go_region_law (go_simp; go_at_call 26; with_reducible refine (hC.out _ (by first | exact .inl rfl | exact .inr rfl)).mono ?_; rintro _ w8 ⟨rfl, o8, g8⟩; replace o8 := Lib.hid o8; replace g8 := Lib.hid g8)
            all_goals go_wp2_with fail
            all_goals first
              | exact ⟨⟨i + 1, by rw [show ((i + 1 : Nat) : Int) = (i : Int) + 1 by omega], by omega, o8.out, g8.out⟩, by simp only [intOf]; omega⟩
              | exact ⟨⟨i + 1, by rw [show ((i + 1 : Nat) : Int) = (i : Int) + 1 by omega], by omega, o8.out, g8.out.drew⟩, by simp only [intOf]; omega⟩
          · obtain rfl : i = rs.length := by omega
            rw [List.take_of_length_le (by rw [hyl.out]; exact Nat.le_refl _)] at hown
            obtain ⟨w8, rfl⟩ : ∃ w8, w8 = wr := ⟨_, rfl⟩
            have G8 := hg.mono (S' := fun k => k = gD ∨ k = w1.heap.size ∨ k = g ∨ k = w.heap.size ∨ k = w.heap.size + 1) (fun _ _ h => .inl h)
            have lfg := lR
            have neg : g ≠ gD := by omega
            have P8 := hg.vb P6.out (by omega)
            have U8 := hg.vb U6.out (by omega)
            have W8 := hg.vb W6.out (by omega)
            have g8 := hg.vb hgl6.out (by omega)
            have o8 := hown
            have s18 := s1.out
            replace s18 : Owns 22 .u32 w.heap.size w8 _ _ := row_keep s18 fun b hb => hg.block b (by have := l1.out b hb; omega) (by have := l1.out b hb; omega)
            have s28 := s2.out
            replace s28 : Owns 22 .u32 w.heap.size w8 _ _ := row_keep s28 fun b hb => hg.block b (by have := l2.out b hb; omega) (by have := l2.out b hb; omega)
            have nPg : w1.heap.size ≠ g := by omega
            have ngP : g ≠ w1.heap.size := by omega
            have nPU : w1.heap.size ≠ w.heap.size := by omega
            have ngU : g ≠ w.heap.size := by omega
            have p0 := P8.cell 0
            have p1' := P8.cell 1
            have p2c := P8.cell 2
            have pf := P8.free 2
            have pl := P8.lt
            simp at p0 p1' p2c
            clear q1 hsz hi hg hown
            replace G8 := Lib.hid G8
            replace P8 := Lib.hid P8
            replace U8 := Lib.hid U8
            replace W8 := Lib.hid W8
            replace g8 := Lib.hid g8
            replace o8 := Lib.hid o8
            replace s18 := Lib.hid s18
            replace s28 := Lib.hid s28
            have R8 := Lib.hid Rr
            have Q8 := Lib.hid Qr
            clear Rr Qr
            go_upto_region 19 with fail
            clear r1
            have P9 : VB (w8.setCell ⟨w1.heap.size, 2, none⟩ (.slice (some ⟨gD, 0, none⟩) m m)) w1.heap.size 30 #[.slice A 4 cf, .slice (some ⟨g, 0, none⟩) 5 5, .slice (some ⟨gD, 0, none⟩) m m, .int .i64 4, .int .i64 0] := P8.out.set 2 _
            have G9 := G8.out.set (b := w1.heap.size) (i := 2) (.inr (.inl rfl)) (.slice (some ⟨gD, 0, none⟩) m m)
            have e9 : ∀ k, k ≠ w1.heap.size → (w8.setCell ⟨w1.heap.size, 2, none⟩ (.slice (some ⟨gD, 0, none⟩) m m)).heap[k]? = w8.heap[k]? := fun k hk => Below.heap_setCell w8 ⟨w1.heap.size, 2, none⟩ _ k hk
            obtain ⟨w9, hw9⟩ : ∃ w9, w9 = w8.setCell ⟨w1.heap.size, 2, none⟩ (.slice (some ⟨gD, 0, none⟩) m m) := ⟨_, rfl⟩
            rw [← hw9] at P9 G9 e9 ⊢
            have g9 : VB w9 g T _ := (e9 g (by omega)).trans g8.out
            have Q9 : VB w9 w3.heap.size 32 _ := (e9 w3.heap.size (by omega)).trans Q8.out
            clear hw9
            have p1'' := P9.cell 1
            have gf0 := g9.free 0
            have gf1 := g9.free 1
            have gf2 := g9.free 2
            have gf3 := g9.free 3
            have gf4 := g9.free 4
            have gl := g9.lt
            have gc0 := g9.cell 0
            have gc1 := g9.cell 1
            have gc2 := g9.cell 2
            have gc3 := g9.cell 3
            have gc4 := g9.cell 4
            have q1'' := Q9.cell 1
            have q2'' := Q9.cell 2
            have q3'' := Q9.cell 3
            have ngQ : g ≠ w3.heap.size := by omega
            have nQg : w3.heap.size ≠ g := by omega
            simp at p1'' q1'' q2'' q3'' gc0 gc1 gc2 gc3 gc4
            have hlI : (ls.length : Int) ≤ 500 := by omega
            have hrI2 : (rs.length : Int) ≤ 100 := by omega
            replace P9 := Lib.hid P9
            replace G9 := Lib.hid G9
            replace e9 := Lib.hid e9
            replace g9 := Lib.hid g9
            clear Q9 p0 p1' p2c pf pl
            go_upto_region 24 with fail
            have g10 := VB.set5 g9.out (.int .u32 (p1 + 4 * (rs.length : Int))) (.int .u32 (p2 + 4 * (ls.length : Int))) (.int .u32 p2) (.int .u32 (p2 + p3 - p2)) (.int .u32 (p2 + p3 - p2))
            have G10 := ((((G9.out.set (b := g) (i := 0) (.inr (.inr (.inl rfl))) (.int .u32 (p1 + 4 * (rs.length : Int)))).set (b := g) (i := 1) (.inr (.inr (.inl rfl))) (.int .u32 (p2 + 4 * (ls.length : Int)))).set (b := g) (i := 2) (.inr (.inr (.inl rfl))) (.int .u32 p2)).set (b := g) (i := 3) (.inr (.inr (.inl rfl))) (.int .u32 (p2 + p3 - p2))).set (b := g) (i := 4) (.inr (.inr (.inl rfl))) (.int .u32 (p2 + p3 - p2))
            have e10 : ∀ k, k ≠ w1.heap.size → k ≠ g → (((((w9.setCell ⟨g, 0, none⟩ (.int .u32 (p1 + 4 * (rs.length : Int)))).setCell ⟨g, 1, none⟩ (.int .u32 (p2 + 4 * (ls.length : Int)))).setCell ⟨g, 2, none⟩ (.int .u32 p2)).setCell ⟨g, 3, none⟩ (.int .u32 (p2 + p3 - p2))).setCell ⟨g, 4, none⟩ (.int .u32 (p2 + p3 - p2))).heap[k]? = w8.heap[k]? := fun k hk hg => (VB.heap5 hg _ _ _ _ _).trans (e9.out k hk)
            have P10 : VB (((((w9.setCell ⟨g, 0, none⟩ (.int .u32 (p1 + 4 * (rs.length : Int)))).setCell ⟨g, 1, none⟩ (.int .u32 (p2 + 4 * (ls.length : Int)))).setCell ⟨g, 2, none⟩ (.int .u32 p2)).setCell ⟨g, 3, none⟩ (.int .u32 (p2 + p3 - p2))).setCell ⟨g, 4, none⟩ (.int .u32 (p2 + p3 - p2))) w1.heap.size 30 _ := (VB.heap5 nPg _ _ _ _ _).trans P9.out
            obtain ⟨w10, hw10⟩ : ∃ w10, w10 = (((((w9.setCell ⟨g, 0, none⟩ (.int .u32 (p1 + 4 * (rs.length : Int)))).setCell ⟨g, 1, none⟩ (.int .u32 (p2 + 4 * (ls.length : Int)))).setCell ⟨g, 2, none⟩ (.int .u32 p2)).setCell ⟨g, 3, none⟩ (.int .u32 (p2 + p3 - p2))).setCell ⟨g, 4, none⟩ (.int .u32 (p2 + p3 - p2))) := ⟨_, rfl⟩
            rw [← hw10] at g10 G10 e10 P10 ⊢
            clear hw10 gc0 gc1 gc2 gc3 gc4 gf0 gf1 gf2 gf3 gf4 q1'' q2'' q3'' p1''
            have U10 : VB w10 w.heap.size 30 _ := (e10 w.heap.size (by omega) (by omega)).trans U8.out
            have W10 : VB w10 (w.heap.size + 1) 34 _ := (e10 (w.heap.size + 1) (by omega) (by omega)).trans W8.out
            have R10 : VB w10 rb 34 _ := (e10 rb (by omega) (by omega)).trans R8.out
            have pc0 := P10.cell 0
            have pc1 := P10.cell 1
            have pc2 := P10.cell 2
            have pc3 := P10.cell 3
            have pc4 := P10.cell 4
            have rc0 := R10.cell 0
            have rc1 := R10.cell 1
            have rc2 := R10.cell 2
            have rc3 := R10.cell 3
            have rc4 := R10.cell 4
            have rc5 := R10.cell 5
            have rc6 := R10.cell 6
            have rc7 := R10.cell 7
            have uc0 := U10.cell 0
            have uc1 := U10.cell 1
            have uc2 := U10.cell 2
            have uc3 := U10.cell 3
            have uc4 := U10.cell 4
            have uf0 := U10.free 0
            have uf1 := U10.free 1
            have uf2 := U10.free 2
            have uf3 := U10.free 3
            have uf4 := U10.free 4
            have ul := U10.lt
            have wc0 := W10.cell 0
            have wc1 := W10.cell 1
            have wc2 := W10.cell 2
            have wc3 := W10.cell 3
            have wc4 := W10.cell 4
            have wc5 := W10.cell 5
            have wc6 := W10.cell 6
            have wc7 := W10.cell 7
            have wf0 := W10.free 0
            have wf1 := W10.free 1
            have wf2 := W10.free 2
            have wf3 := W10.free 3
            have wf4 := W10.free 4
            have wf5 := W10.free 5
            have wf6 := W10.free 6
            have wf7 := W10.free 7
            have wl := W10.lt
            have pl := P10.lt
            have rl := R10.lt
            simp at pc0 pc1 pc2 pc3 pc4 rc0 rc1 rc2 rc3 rc4 rc5 rc6 rc7 uc0 uc1 uc2 uc3 uc4 wc0 wc1 wc2 wc3 wc4 wc5 wc6 wc7
            have n1 : w1.heap.size ≠ w.heap.size := by omega
            have n2 : w1.heap.size ≠ w.heap.size + 1 := by omega
            have n3 : rb ≠ w.heap.size := by omega
            have n4 : rb ≠ w.heap.size + 1 := by omega
            have n5 : w.heap.size ≠ w1.heap.size := by omega
            have n6 : w.heap.size + 1 ≠ w1.heap.size := by omega
            have n7 : w.heap.size ≠ rb := by omega
            have n8 : w.heap.size + 1 ≠ rb := by omega
            replace g10 := Lib.hid g10
            replace G10 := Lib.hid G10
            replace e10 := Lib.hid e10
            replace U10 := Lib.hid U10
            replace W10 := Lib.hid W10
            replace R10 := Lib.hid R10
            replace P10 := Lib.hid P10
            go_region
            have U11 := (VB.set5 U10.out (.slice A 4 cf) (.slice (some ⟨g, 0, none⟩) 5 5) (.slice (some ⟨gD, 0, none⟩) m m) (.int .i64 4) (.int .i64 0))
            have W11 : VB (((((w10.setCell ⟨w.heap.size, 0, none⟩ (.slice A 4 cf)).setCell ⟨w.heap.size, 1, none⟩ (.slice (some ⟨g, 0, none⟩) 5 5)).setCell ⟨w.heap.size, 2, none⟩ (.slice (some ⟨gD, 0, none⟩) m m)).setCell ⟨w.heap.size, 3, none⟩ (.int .i64 4)).setCell ⟨w.heap.size, 4, none⟩ (.int .i64 0)) (w.heap.size + 1) 34 _ := (VB.heap5 (by omega) _ _ _ _ _).trans W10.out
            have W12 := VB.set8 W11 (.int .u32 16) (.int .u32 p1) (.int .u32 p2) (.int .u32 p3) (.int .u32 p4) (.slice A1 ls.length c1) (.int .u32 p2) (.slice A2 rs.length c2)
            have U12 : VB (((((((((((((w10.setCell ⟨w.heap.size, 0, none⟩ (.slice A 4 cf)).setCell ⟨w.heap.size, 1, none⟩ (.slice (some ⟨g, 0, none⟩) 5 5)).setCell ⟨w.heap.size, 2, none⟩ (.slice (some ⟨gD, 0, none⟩) m m)).setCell ⟨w.heap.size, 3, none⟩ (.int .i64 4)).setCell ⟨w.heap.size, 4, none⟩ (.int .i64 0)).setCell ⟨w.heap.size + 1, 0, none⟩ (.int .u32 16)).setCell ⟨w.heap.size + 1, 1, none⟩ (.int .u32 p1)).setCell ⟨w.heap.size + 1, 2, none⟩ (.int .u32 p2)).setCell ⟨w.heap.size + 1, 3, none⟩ (.int .u32 p3)).setCell ⟨w.heap.size + 1, 4, none⟩ (.int .u32 p4)).setCell ⟨w.heap.size + 1, 5, none⟩ (.slice A1 ls.length c1)).setCell ⟨w.heap.size + 1, 6, none⟩ (.int .u32 p2)).setCell ⟨w.heap.size + 1, 7, none⟩ (.slice A2 rs.length c2)) w.heap.size 30 _ := (heap_set8 (by omega) _ _ _ _ _ _ _ _).trans U11
            have e12 : ∀ k, k ≠ w1.heap.size → k ≠ g → k ≠ w.heap.size → k ≠ w.heap.size + 1 → (((((((((((((w10.setCell ⟨w.heap.size, 0, none⟩ (.slice A 4 cf)).setCell ⟨w.heap.size, 1, none⟩ (.slice (some ⟨g, 0, none⟩) 5 5)).setCell ⟨w.heap.size, 2, none⟩ (.slice (some ⟨gD, 0, none⟩) m m)).setCell ⟨w.heap.size, 3, none⟩ (.int .i64 4)).setCell ⟨w.heap.size, 4, none⟩ (.int .i64 0)).setCell ⟨w.heap.size + 1, 0, none⟩ (.int .u32 16)).setCell ⟨w.heap.size + 1, 1, none⟩ (.int .u32 p1)).setCell ⟨w.heap.size + 1, 2, none⟩ (.int .u32 p2)).setCell ⟨w.heap.size + 1, 3, none⟩ (.int .u32 p3)).setCell ⟨w.heap.size + 1, 4, none⟩ (.int .u32 p4)).setCell ⟨w.heap.size + 1, 5, none⟩ (.slice A1 ls.length c1)).setCell ⟨w.heap.size + 1, 6, none⟩ (.int .u32 p2)).setCell ⟨w.heap.size + 1, 7, none⟩ (.slice A2 rs.length c2)).heap[k]? = w8.heap[k]? := fun k a1 a2 a3 a4 => (heap_set8 a4 _ _ _ _ _ _ _ _).trans ((VB.heap5 a3 _ _ _ _ _).trans (e10.out k a1 a2))
            have g12 : VB (((((((((((((w10.setCell ⟨w.heap.size, 0, none⟩ (.slice A 4 cf)).setCell ⟨w.heap.size, 1, none⟩ (.slice (some ⟨g, 0, none⟩) 5 5)).setCell ⟨w.heap.size, 2, none⟩ (.slice (some ⟨gD, 0, none⟩) m m)).setCell ⟨w.heap.size, 3, none⟩ (.int .i64 4)).setCell ⟨w.heap.size, 4, none⟩ (.int .i64 0)).setCell ⟨w.heap.size + 1, 0, none⟩ (.int .u32 16)).setCell ⟨w.heap.size + 1, 1, none⟩ (.int .u32 p1)).setCell ⟨w.heap.size + 1, 2, none⟩ (.int .u32 p2)).setCell ⟨w.heap.size + 1, 3, none⟩ (.int .u32 p3)).setCell ⟨w.heap.size + 1, 4, none⟩ (.int .u32 p4)).setCell ⟨w.heap.size + 1, 5, none⟩ (.slice A1 ls.length c1)).setCell ⟨w.heap.size + 1, 6, none⟩ (.int .u32 p2)).setCell ⟨w.heap.size + 1, 7, none⟩ (.slice A2 rs.length c2)) g T _ := (heap_set8 (by omega) _ _ _ _ _ _ _ _).trans ((VB.heap5 ngU _ _ _ _ _).trans g10.out)
            have Gu : ∀ i u W, GrowS (fun k => k = gD ∨ k = w1.heap.size ∨ k = g ∨ k = w.heap.size ∨ k = w.heap.size + 1) w6 W → GrowS (fun k => k = gD ∨ k = w1.heap.size ∨ k = g ∨ k = w.heap.size ∨ k = w.heap.size + 1) w6 (W.setCell ⟨w.heap.size, i, none⟩ u) := fun i u W h => h.set (.inr (.inr (.inr (.inl rfl)))) u
            have Gw : ∀ i u W, GrowS (fun k => k = gD ∨ k = w1.heap.size ∨ k = g ∨ k = w.heap.size ∨ k = w.heap.size + 1) w6 W → GrowS (fun k => k = gD ∨ k = w1.heap.size ∨ k = g ∨ k = w.heap.size ∨ k = w.heap.size + 1) w6 (W.setCell ⟨w.heap.size + 1, i, none⟩ u) := fun i u W h => h.set (.inr (.inr (.inr (.inr rfl)))) u
            have G12 := Gw 7 (.slice A2 rs.length c2) _ (Gw 6 (.int .u32 p2) _ (Gw 5 (.slice A1 ls.length c1) _ (Gw 4 (.int .u32 p4) _ (Gw 3 (.int .u32 p3) _ (Gw 2 (.int .u32 p2) _ (Gw 1 (.int .u32 p1) _ (Gw 0 (.int .u32 16) _ (Gu 4 (.int .i64 0) _ (Gu 3 (.int .i64 4) _ (Gu 2 (.slice (some ⟨gD, 0, none⟩) m m) _ (Gu 1 (.slice (some ⟨g, 0, none⟩) 5 5) _ (Gu 0 (.slice A 4 cf) _ G10.out))))))))))))
            obtain ⟨w12, hw12⟩ : ∃ w12, w12 = (((((((((((((w10.setCell ⟨w.heap.size, 0, none⟩ (.slice A 4 cf)).setCell ⟨w.heap.size, 1, none⟩ (.slice (some ⟨g, 0, none⟩) 5 5)).setCell ⟨w.heap.size, 2, none⟩ (.slice (some ⟨gD, 0, none⟩) m m)).setCell ⟨w.heap.size, 3, none⟩ (.int .i64 4)).setCell ⟨w.heap.size, 4, none⟩ (.int .i64 0)).setCell ⟨w.heap.size + 1, 0, none⟩ (.int .u32 16)).setCell ⟨w.heap.size + 1, 1, none⟩ (.int .u32 p1)).setCell ⟨w.heap.size + 1, 2, none⟩ (.int .u32 p2)).setCell ⟨w.heap.size + 1, 3, none⟩ (.int .u32 p3)).setCell ⟨w.heap.size + 1, 4, none⟩ (.int .u32 p4)).setCell ⟨w.heap.size + 1, 5, none⟩ (.slice A1 ls.length c1)).setCell ⟨w.heap.size + 1, 6, none⟩ (.int .u32 p2)).setCell ⟨w.heap.size + 1, 7, none⟩ (.slice A2 rs.length c2)) := ⟨_, rfl⟩
            rw [← hw12] at U12 W12 e12 g12 G12 ⊢
            clear hw12 U11 W11
            have o12 : Owns 5 .u8 w.heap.size w12 _ _ := row_keep o8.out fun b hb => by
              simp only [Value.ownBlock, Option.some.injEq] at hb
              subst hb
              exact e12 gD (by omega) (by omega) (by omega) (by omega)
            have s112 : Owns 22 .u32 w.heap.size w12 _ _ := row_keep s18.out fun b hb => by
              have := l1.out b hb
              exact e12 b (by omega) (by omega) (by omega) (by omega)
            have s212 : Owns 22 .u32 w.heap.size w12 _ _ := row_keep s28.out fun b hb => by
              have := l2.out b hb
              exact e12 b (by omega) (by omega) (by omega) (by omega)
            have kf12 : FxL (fun b => F b ∧ b < w1.heap.size) w12 fs (.slice A 4 cf) := FxL.keep G12.size (fun _ _ h => h) (fun b o u hb hF hc => by
              have hl := lF.out b hF
              rw [World.cell?_of_block ((e12 b (by omega) (by omega) (by omega) (by omega)).trans (G8.out.block b hb (by omega)))]
              exact hc) kf6.out
            have b12 : Below w.heap.size w w12 := b16.out.trans (G12.toBelow (Nat.le_trans b16.out.size (Nat.le_refl _)) (fun k hk => by omega))
            have uc0' := U12.cell 0
            have uc1' := U12.cell 1
            have uc2' := U12.cell 2
            have uc3' := U12.cell 3
            have uc4' := U12.cell 4
            have wc0' := W12.cell 0
            have wc1' := W12.cell 1
            have wc2' := W12.cell 2
            have wc3' := W12.cell 3
            have wc4' := W12.cell 4
            have wc5' := W12.cell 5
            have wc6' := W12.cell 6
            have wc7' := W12.cell 7
            simp at uc0' uc1' uc2' uc3' uc4' wc0' wc1' wc2' wc3' wc4' wc5' wc6' wc7'
            clear pc0 pc1 pc2 pc3 pc4 rc0 rc1 rc2 rc3 rc4 rc5 rc6 rc7 uc0 uc1 uc2 uc3 uc4 wc0 wc1 wc2 wc3 wc4 wc5 wc6 wc7 uf0 uf1 uf2 uf3 uf4 wf0 wf1 wf2 wf3 wf4 wf5 wf6 wf7 ul wl pl rl n1 n2 n3 n4 n5 n6 n7 n8 Gu Gw U12 W12
            replace e12 := Lib.hid e12
            replace g12 := Lib.hid g12
            replace G12 := Lib.hid G12
            replace o12 := Lib.hid o12
            replace s112 := Lib.hid s112
            replace s212 := Lib.hid s212
            replace kf12 := Lib.hid kf12
            replace b12 := Lib.hid b12
            iterate 12 (try go_step)
            refine bodyPost_ret (v := .tuple #[.agg #[.slice A 4 cf, .slice (some ⟨g, 0, none⟩) 5 5, .slice (some ⟨gD, 0, none⟩) m m, .int .i64 4, .int .i64 0], .agg #[.int .u32 16, .int .u32 p1, .int .u32 p2, .int .u32 p3, .int .u32 p4, .slice A1 ls.length c1, .int .u32 p2, .slice A2 rs.length c2], .bool true]) (by simp [results, Tryz.results6, go_sem, uc0', uc1', uc2', uc3', uc4', wc0', wc1', wc2', wc3', wc4', wc5', wc6', wc7']) rfl ⟨_, rfl, ?_⟩
            obtain ⟨bs, hbs⟩ : ∃ bs, bs = putWs B1 r ys := ⟨_, rfl⟩
            have hbl : bs.length = m := by rw [hbs, putWs_length, hBl1.out]
            refine ⟨A, A1, A2, cf, g, gD, m, c1, c2, bs, fun b => F b ∧ b < w1.heap.size, ?_, ?_, ?_, ?_, ?_, ?_, ?_, ?_, neg, ?_, b12.out.drew⟩
            · rw [hbl, hfl]
            · rw [hfl]
              exact kf12.out.below (Below.refl _ _).drew
            · exact ⟨T, g12.out⟩
            · have := o12.out
              rw [← hbs] at this
              rw [hbl]
              exact this
            · rw [hbs, hB1.out, hB0.out, hm.out, hq.out, hr.out, hxs.out, hys.out]
            · rw [← hxs.out]; exact s112.out
            · rw [← hys.out]; exact s212.out
            · intro b hb
              have := lF.out b hb
              exact ⟨this.2.2, by omega⟩
            · omega

end Go.Proofs.YtgohnekaolgblaaGreat
