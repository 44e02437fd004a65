/- The document's machine: one thing: contracts (gimletref28's Machine.one): a call, what is written (printed by wip/gen_maone.py). -/
import Derived.Test.YtgohnekaolgblaaGreatQ18
import Derived.Test.YtgohnekaolgblaaGreatQ08
import Derived.Test.YtgohnekaolgblaaGreatQ01
import Derived.Laws.CopyOwn
import Derived.Deep.OwnRows
namespace Go.Proofs.YtgohnekaolgblaaGreat
open Go.RowKit

/-- Behind a world that grew. -/
theorem MaEnd.after {F : Nat → Prop} {fs : List Fx} {K : Mx} {w w1 w' : World} {sv ov : Value} {s1 : St} (h : MaEnd F fs K w1 sv ov s1 w') (g : GrowS (MaS K sv ov) w w1) : MaEnd F fs K w sv ov s1 w' := by
  obtain ⟨sv', outv', h1, h2, h3⟩ := h
  exact ⟨sv', outv', h1, g.ma (SvNew.refl _ _) h2, (SvNew.refl w sv).trans h3 g.size⟩

set_option maxRecDepth 100000 in
set_option maxHeartbeats 2000000 in
theorem maOneCall (F : Nat → Prop) (fs : List Fx) (K : Mx) (w : World) (sv outv ov t : Value) (s : St) (x n : Nat) (vs : List Nat) (a : List Ex) (l : List Lo) (hM : MaAt F fs K w sv outv ov s) (ht : Lo.at F w (.mk 10 x n a l) t) (hu : Ex.evs s a = some vs) (hal : a.length ≤ 20) (hx : x < s.own.length) (k : Nat) (s1 : St) (hcall : MaCall F fs K k) (hR : Runs fs k (.call n vs) s s1 0) :
    Calls Tryz.prog 84 #[.pointer (some ⟨K.x, 0, none⟩), t, ov] w (MaPost F fs K w sv ov { s1 with own := s.own.set x s1.told } 0) := by
  obtain ⟨va, vl, rfl, ha, hl⟩ := Lo.at_mk.1 ht
  obtain ⟨A, ca, rfl⟩ := ha.slice
  obtain ⟨A2, c2, rfl⟩ := hl.slice
  have hult := Ex.evs_lt s hM.ok hu
  have V1 := VB.new w 77 #[.int .i64 10, .int .i64 (x : Int), .int .i64 (n : Int), .slice A a.length ca, .slice A2 l.length c2, .slice none 0 0]
  have b1 := B.alloc (B.refl w) (.cells #[.int .i64 10, .int .i64 (x : Int), .int .i64 (n : Int), .slice A a.length ca, .slice A2 l.length c2, .slice none 0 0] 77)
  have M1 := hM.below b1
  have E1 := Lib.hid (maExps F F fs K sv outv ov s a _ _ vs M1 (ha.alloc (.cells #[.int .i64 10, .int .i64 (x : Int), .int .i64 (n : Int), .slice A a.length ca, .slice A2 l.length c2, .slice none 0 0] 77)) hu (by omega))
  have G1 := Lib.hid ((GrowS.refl (MaS K sv ov) w).below b1)
  have hl1 := Lib.hid (hl.alloc (.cells #[.int .i64 10, .int .i64 (x : Int), .int .i64 (n : Int), .slice A a.length ca, .slice A2 l.length c2, .slice none 0 0] 77))
  have hsz1 : (w.alloc (.cells #[.int .i64 10, .int .i64 (x : Int), .int .i64 (n : Int), .slice A a.length ca, .slice A2 l.length c2, .slice none 0 0] 77)).heap.size = w.heap.size + 1 := by simp
  replace M1 := Lib.hid M1
  clear ht ha hl hM b1
  replace hu := Lib.hid hu
  replace hult := Lib.hid hult
  go_enter Tryz.func84, Tryz.ntmps84
  go_wp2_with fail
  generalize w.alloc (.cells #[.int .i64 10, .int .i64 (x : Int), .int .i64 (n : Int), .slice A a.length ca, .slice A2 l.length c2, .slice none 0 0] 77) = w1 at V1 M1 E1 G1 hl1 hsz1 ⊢
  refine E1.out.mono ?_
  rintro _ w2 ⟨lv, rfl, hlv, b2⟩
  have hlo2 := M1.out.lox
  have V2 := V1.call b2
  have M2 := Lib.hid (M1.out.below b2)
  have G2 := Lib.hid (G1.out.below b2)
  have hl2 := Lib.hid (hl1.out.below b2)
  obtain ⟨Al, cl, rfl, hlc⟩ := hlv.cell
  have y0 := V2.cell 0
  have y1 := V2.cell 1
  have y2 := V2.cell 2
  have y4 := V2.cell 4
  have y5 := V2.cell 5
  simp at y0 y1 y2 y4 y5
  have x1 := M2.out.vb.cell 5
  have x2 := M2.out.vb.cell 6
  have x7 := M2.out.vb.cell 15
  have x8 := M2.out.vb.cell 16
  have f7 := M2.out.vb.free 15
  have f8 := M2.out.vb.free 16
  have xl := M2.out.vb.lt
  simp [Mx.cells] at x1 x2 x7 x8
  have hv2 := V2.lt
  have S2 := Lib.hid (SvNew.refl w sv)
  have hC := maOuterCall F fs K k hcall w2 sv outv ov _ s s1 x n _ vs A A2 a.length ca l.length c2 M2.out hlv hult.out hx hR
  replace hR := Lib.hid hR
  replace hcall := Lib.hid hcall
  have y3 := V2.cell 3
  simp at y3
  clear E1 M1 G1 hl1 hl2 hlc
  replace hC := Lib.hid hC
  go_wp2_with fail
  refine hC.out.mono ?_
  rintro _ w3 ⟨rfl, H3⟩
  have H4 := Lib.hid (H3.after G2.out)
  clear H3
  go_wp2_with fail
  go_returns
  exact H4.out.post 0

set_option maxRecDepth 100000 in
set_option maxHeartbeats 2000000 in
theorem maOneOut (F : Nat → Prop) (fs : List Fx) (K : Mx) (w : World) (sv outv ov t : Value) (s : St) (x n : Nat) (u : Nat) (a : List Ex) (l : List Lo) (hM : MaAt F fs K w sv outv ov s) (ht : Lo.at F w (.mk 13 x n a l) t) (hu : Ex.evs s a = some [u]) (hol : s.out.length < 1000) :
    Calls Tryz.prog 84 #[.pointer (some ⟨K.x, 0, none⟩), t, ov] w (MaPost F fs K w sv ov { s with out := s.out ++ [u % 256] } 0) := by
  obtain ⟨va, vl, rfl, ha, hl⟩ := Lo.at_mk.1 ht
  obtain ⟨A, ca, rfl⟩ := ha.slice
  obtain ⟨A2, c2, rfl⟩ := hl.slice
  have hal : a.length = 1 := by have := (Ex.evs_get hu).1; simpa using this.symm
  have hult := Ex.evs_lt s hM.ok hu
  have V1 := VB.new w 77 #[.int .i64 13, .int .i64 (x : Int), .int .i64 (n : Int), .slice A a.length ca, .slice A2 l.length c2, .slice none 0 0]
  have b1 := B.alloc (B.refl w) (.cells #[.int .i64 13, .int .i64 (x : Int), .int .i64 (n : Int), .slice A a.length ca, .slice A2 l.length c2, .slice none 0 0] 77)
  have M1 := hM.below b1
  have E1 := Lib.hid (maExps F F fs K sv outv ov s a _ _ [u] M1 (ha.alloc (.cells #[.int .i64 13, .int .i64 (x : Int), .int .i64 (n : Int), .slice A a.length ca, .slice A2 l.length c2, .slice none 0 0] 77)) hu (by omega))
  have G1 := Lib.hid ((GrowS.refl (MaS K sv ov) w).below b1)
  have hl1 := Lib.hid (hl.alloc (.cells #[.int .i64 13, .int .i64 (x : Int), .int .i64 (n : Int), .slice A a.length ca, .slice A2 l.length c2, .slice none 0 0] 77))
  have hsz1 : (w.alloc (.cells #[.int .i64 13, .int .i64 (x : Int), .int .i64 (n : Int), .slice A a.length ca, .slice A2 l.length c2, .slice none 0 0] 77)).heap.size = w.heap.size + 1 := by simp
  replace M1 := Lib.hid M1
  clear ht ha hl hM b1
  replace hu := Lib.hid hu
  replace hal := Lib.hid hal
  replace hult := Lib.hid hult
  go_enter Tryz.func84, Tryz.ntmps84
  go_wp2_with fail
  generalize w.alloc (.cells #[.int .i64 13, .int .i64 (x : Int), .int .i64 (n : Int), .slice A a.length ca, .slice A2 l.length c2, .slice none 0 0] 77) = w1 at V1 M1 E1 G1 hl1 hsz1 ⊢
  refine E1.out.mono ?_
  rintro _ w2 ⟨lv, rfl, hlv, b2⟩
  have hlo2 := M1.out.lox
  have V2 := V1.call b2
  have M2 := Lib.hid (M1.out.below b2)
  have G2 := Lib.hid (G1.out.below b2)
  have hl2 := Lib.hid (hl1.out.below b2)
  obtain ⟨Al, cl, rfl, hlc⟩ := hlv.cell
  have y0 := V2.cell 0
  have y1 := V2.cell 1
  have y2 := V2.cell 2
  have y4 := V2.cell 4
  have y5 := V2.cell 5
  simp at y0 y1 y2 y4 y5
  have x1 := M2.out.vb.cell 5
  have x2 := M2.out.vb.cell 6
  have x7 := M2.out.vb.cell 15
  have x8 := M2.out.vb.cell 16
  have f7 := M2.out.vb.free 15
  have f8 := M2.out.vb.free 16
  have xl := M2.out.vb.lt
  simp [Mx.cells] at x1 x2 x7 x8
  have hv2 := V2.lt
  have S2 := Lib.hid (SvNew.refl w sv)
  have hC := maOuterOut F fs K w2 sv outv ov _ s x n _ u A A2 a.length ca l.length c2 M2.out hlv hol
  have y3 := V2.cell 3
  simp at y3
  clear E1 M1 G1 hl1 hl2 hlc
  replace hC := Lib.hid hC
  go_wp2_with fail
  refine hC.out.mono ?_
  rintro _ w3 ⟨rfl, H3⟩
  have H4 := Lib.hid (H3.after G2.out)
  clear H3
  go_wp2_with fail
  go_returns
  exact H4.out.post 0

end Go.Proofs.YtgohnekaolgblaaGreat

/- The document's machine does what programs do: one thing, lists, loops, calls, at every depth: contracts. -/
namespace Go.Proofs.YtgohnekaolgblaaGreat
open Go.RowKit

theorem maOneSucc (F : Nat → Prop) (fs : List Fx) (K : Mx) (k : Nat) (h1 : MaOne F fs K k) : MaOne F fs K (k + 1) := by
  have hlist := maList F fs K k h1
  have hloop := maLoop F fs K k hlist
  have hcall := maCall F fs K k hlist
  intro w sv outv ov s s1 h t v hM hat hR
  cases hR with
  | set e hx => exact maOneSet F fs K w sv outv ov v s _ _ _ _ _ hM hat e hx
  | put e hx => exact maOnePut F fs K w sv outv ov v s _ _ _ _ _ hM hat e hx
  | store e hin => exact maOneStore F fs K w sv outv ov v s _ _ _ _ _ hM hat e hin
  | when_ e hv r => exact maOneWhen F fs K w sv outv ov v s _ _ _ _ _ hM hat e hv k s1 h hlist r
  | skip e => exact maOneSkip F fs K w sv outv ov v s _ _ _ _ hM hat e
  | loop r => exact maOneLoop F fs K w sv outv ov v s s1 h k _ _ _ _ hM hat hloop r
  | brk hn => exact maOneBrk F fs K w sv outv ov v s _ _ _ hM hat hn
  | tell e => exact maOneTell F fs K w sv outv ov v s _ _ _ _ _ hM hat e
  | call e hal hx r => exact maOneCall F fs K w sv outv ov v s _ _ _ _ _ hM hat e hal hx k _ hcall r
  | out e hol => exact maOneOut F fs K w sv outv ov v s _ _ _ _ _ hM hat e hol
theorem maOneZero (F : Nat → Prop) (fs : List Fx) (K : Mx) : MaOne F fs K 0 := by
  intro w sv outv ov s s1 h t v hM hat hR
  cases hR with
  | set e hx => exact maOneSet F fs K w sv outv ov v s _ _ _ _ _ hM hat e hx
  | put e hx => exact maOnePut F fs K w sv outv ov v s _ _ _ _ _ hM hat e hx
  | store e hin => exact maOneStore F fs K w sv outv ov v s _ _ _ _ _ hM hat e hin
  | skip e => exact maOneSkip F fs K w sv outv ov v s _ _ _ _ hM hat e
  | brk hn => exact maOneBrk F fs K w sv outv ov v s _ _ _ hM hat hn
  | tell e => exact maOneTell F fs K w sv outv ov v s _ _ _ _ _ hM hat e
  | out e hol => exact maOneOut F fs K w sv outv ov v s _ _ _ _ _ hM hat e hol
theorem maOne (F : Nat → Prop) (fs : List Fx) (K : Mx) : ∀ k, MaOne F fs K k
  | 0 => maOneZero F fs K
  | k + 1 => maOneSucc F fs K k (maOne F fs K k)
theorem maCalls (F : Nat → Prop) (fs : List Fx) (K : Mx) (k : Nat) : MaCall F fs K k := maCall F fs K k (maList F fs K k (maOne F fs K k))

end Go.Proofs.YtgohnekaolgblaaGreat

/- The document's memory: bytes are laid; a new memory: contracts (gimletref12's Write, New; gimletref04's CheckLimits). -/
namespace Go.Proofs.YtgohnekaolgblaaGreat
open Go.RowKit

/-- The first bytes of a list are laid, so many. -/
def Mm.lay (L : List (Int × Int)) (a : Int) (bs : List Int) : Nat → List (Int × Int)
  | 0 => L
  | k + 1 => Mm.set (Mm.lay L a bs k) (a + (k : Int)) (bs.getD k 0)
theorem Mm.lay_len (L : List (Int × Int)) (a : Int) (bs : List Int) : ∀ k, (Mm.lay L a bs k).length ≤ L.length + k
  | 0 => Nat.le_refl _
  | k + 1 => by
    have h1 := Mm.lay_len L a bs k
    have h2 := (Mm.set_len (Mm.lay L a bs k) (a + (k : Int)) (bs.getD k 0)).2
    simp only [Mm.lay]
    omega

set_option maxRecDepth 100000 in
set_option maxHeartbeats 1000000 in
theorem mmWrite (w : World) (B m : Nat) (N Most : Int) (sv : Value) (L : List (Int × Int)) (a : Int) (bv : Value) (bs : List Int) (h : MemAt w B m N Most sv L) (hs : ∀ wr, GrowS (MmS m sv) w wr → Sees .u8 wr bv bs) (hlen : L.length + bs.length ≤ 1000000) (hm : m < B) (hB : B ≤ w.heap.size) (h0 : 0 ≤ a ∧ a < 4294967296 ∧ 0 ≤ N ∧ N ≤ 65536) (hin : a + bs.length ≤ N * 65536) :
    Calls Tryz.prog 49 #[.pointer (some ⟨m, 0, none⟩), .int .u32 a, bv] w fun e w' => ∃ sv', e = .returned (.int .i64 0) ∧ MemAt w' B m N Most sv' (Mm.lay L a bs bs.length) ∧ GrowS (MmS m sv) w w' ∧ (∀ g, sv'.ownBlock = some g → sv.ownBlock = some g ∨ w.heap.size ≤ g) := by
  have C2 := mmThere w B m N Most sv L a bs.length h (by omega)
  rw [decide_eq_true hin] at C2
  obtain ⟨A, cap, rfl, hcap, hmax⟩ := (hs w (GrowS.refl _ _)).len
  have hl := Mm.lay_len L a bs
  replace h := Lib.hid h
  replace hl := Lib.hid hl
  replace C2 := Lib.hid C2
  replace hs := Lib.hid hs
  have hbl : (bs.length : Int) ≤ 1000000 := by omega
  clear hin
  go_enter Tryz.func49, Tryz.ntmps49
  go_wp2_with fail
  refine C2.out.mono ?_
  rintro _ _ ⟨rfl, ew⟩
  replace ew := ew.symm
  subst ew
  clear C2
  go_wp2_with fail
  go_loopw [7] (fun i wr => ∃ (k : Nat) (sv' : Value), k ≤ bs.length ∧ i = .int .i64 (k : Int) ∧ MemAt wr B m N Most sv' (Mm.lay L a bs k) ∧ GrowS (MmS m sv) w wr ∧ (∀ g, sv'.ownBlock = some g → sv.ownBlock = some g ∨ w.heap.size ≤ g))
    (fun i _ => ((bs.length : Int) - intOf i).toNat)
  case atStart => exact ⟨0, sv, by omega, rfl, h.out, GrowS.refl _ _, fun g hg => .inl hg⟩
  case round =>
    obtain ⟨k, sv', hk, rfl, hM, hG, hsv⟩ := hrel
    have hGs := hG.size
    have hS := hs.out wr hG
    replace hG := Lib.hid hG
    replace hsv := Lib.hid hsv
    by_cases hkl : k < bs.length
    · have hkI : (k : Int) < (bs.length : Int) := by omega
      obtain ⟨b, off, rfl, hc⟩ := hS.at_ (by omega)
      have hck := hc k hkl
      obtain ⟨y, hy⟩ : ∃ y, y = bs[k] := ⟨_, rfl⟩
      rw [← hy] at hck
      have hyd : y = bs.getD k 0 := by rw [hy, List.getD_eq_getElem?_getD, List.getElem?_eq_getElem hkl]; rfl
      have C := Lib.hid (mmSet wr B m N Most sv' _ (a + (k : Int)) y hM (by have := hl.out k; omega) hm (by omega))
      replace hM := Lib.hid hM
      replace hyd := Lib.hid hyd
      clear hS hc hy
      go_wp2_with fail
      refine C.out.mono ?_
      rintro _ w2 ⟨sv2, rfl, hM2, hG2, hsv2⟩
      clear C
      replace hM2 := Lib.hid hM2
      replace hG2 := Lib.hid hG2
      replace hsv2 := Lib.hid hsv2
      go_wp2_with fail
      go_roundw
      case measure => simp only [intOf]; omega
      case rel =>
        refine ⟨k + 1, sv2, by omega, by rw [show ((k + 1 : Nat) : Int) = (k : Int) + 1 by omega], by rw [Mm.lay, ← hyd.out]; exact hM2.out, hG.out.thenS hG2.out fun g hg hS => ?_, fun g hg => ?_⟩
        · rcases hS with e | e
          · exact .inl e
          · rcases hsv.out g e with e | e
            · exact .inr e
            · omega
        · rcases hsv2.out g hg with e | e
          · exact hsv.out g e
          · exact .inr (by omega)
    · have hke : k = bs.length := by omega
      subst hke
      replace hM := Lib.hid hM
      clear hS
      go_wp2_with fail
      go_returns
      exact ⟨sv', rfl, hM.out, hG.out, hsv.out⟩

theorem mmLimits (w : World) (n : Int) (hn : 0 ≤ n ∧ n ≤ 65536) : Calls Tryz.prog 81 #[.agg #[.int .u32 n, .int .u32 0, .bool false], .int .u32 65536] w fun e w' => e = .returned (.int .i64 0) ∧ Below w.heap.size w w' := by
  go_enter Tryz.func81, Tryz.ntmps81
  go_wp2_with fail
  go_returns
  exact ⟨rfl, B.alloc (B.refl w) _⟩

theorem mmNew (w : World) (n : Int) (hn : 0 ≤ n ∧ n ≤ 65536) : Calls Tryz.prog 48 #[.agg #[.int .u32 n, .int .u32 0, .bool false]] w fun e w' => ∃ m, w.heap.size ≤ m ∧ e = .returned (.tuple #[.pointer (some ⟨m, 0, none⟩), .int .i64 0]) ∧ MemAt w' (m + 1) m n 65536 (.slice none 0 0) [] ∧ w'.heap.size = m + 1 ∧ Below w.heap.size w w' := by
  have C := fun wr => mmLimits wr n hn
  go_enter Tryz.func48, Tryz.ntmps48
  go_wp2_with fail
  refine (C _).mono ?_
  rintro _ w1 ⟨rfl, b1⟩
  have v0 := (VB.new w 109 #[.int .u32 n, .int .u32 0, .bool false]).call b1
  have c0 := v0.cell 0
  have c1 := v0.cell 1
  have c2 := v0.cell 2
  simp at c0 c1 c2
  replace b1 := Lib.hid b1
  have hs := b1.out.size
  simp at hs
  clear v0
  go_wp2_with fail
  go_returns
  refine ⟨w1.heap.size, by omega, rfl, ⟨VB.new w1 _ _, World.ownsRow_nil _ _ _ _, fun i j hi => by simp at hi⟩, by simp, ?_⟩
  exact ((B.alloc (B.refl w) _).trans (b1.out.mono (by simp))).trans ((B.alloc (B.refl w1) _).mono (by omega))

end Go.Proofs.YtgohnekaolgblaaGreat

/- Rows that a call makes: make with a length that is a variable, copy into such a row, what can be read of it. -/
namespace Go.Proofs.YtgohnekaolgblaaGreat
open Go.RowKit

/-- make([]T, n): the world behind it is a variable, of which the row is known. -/
theorem make_row {P : Program} {T E : TypeId} {z : Value} {i : TypeInfo} (hT : P.underlying T = some (.slice E)) (hi : P.info? E = some i) (hz : i.zero = some z) (hsz : i.size = 1) (hz1 : z.cells = #[z])
    {ops : Array Oper} {rest : List Oper} {o : Oper} {a : Act} {Q : Exit → Act → World → Prop} {w : World} (hg : o.guard = none) (l c : Operand) (hop : o.op = Op.makeSlice T l c)
    (n : Nat) (hl : a.eval l = .int .i64 (n : Int)) (hc : a.eval c = .int .i64 (n : Int)) (hbytes : i.bytes * n ≤ 281474976710656) (h63 : n ≤ 9223372036854775807)
    (h : ∀ w', Hid (w'.rowIs w.heap.size E n (fun _ => z)) → Below w.heap.size w w' → w'.heap.size = w.heap.size + 1 → wpList P ops Q rest (a.put o.dst (.slice (some ⟨w.heap.size, 0, none⟩) n n)) w') :
    wpList P ops Q (o :: rest) a w :=
  wpList_make_row w hg l c T hop E i z hT hi hz hsz hz1 .i64 .i64 n hl hc hbytes h63
    (h _ (Lib.hid (World.rowIs_made w z n E)) ((Below.refl _ _).alloc (Nat.le_refl _) _) (by simp))

theorem row_toList {w : World} {g : Nat} {t : TypeId} {n : Nat} {f : Nat → Value} (h : w.rowIs g t n f) : w.heap[g]? = some (.cells ((List.range n).map f).toArray t (0, 0)) := by
  obtain ⟨c, hb, hn, hc⟩ := h
  rw [hb]; congr 2
  apply Array.ext'
  apply List.ext_getElem?
  intro i
  by_cases hi : i < n
  · have := hc i hi
    rw [Array.getElem?_toList, this]; simp [hi]
  · rw [Array.getElem?_toList, Array.getElem?_eq_none (by omega)]
    rw [List.getElem?_eq_none (by simp; omega)]

theorem row_ofList {w : World} {g : Nat} {t : TypeId} {n : Nat} {f : Nat → Value} (l : List Value) (h : w.heap[g]? = some (.cells l.toArray t (0, 0))) (hn : l.length = n) (hf : ∀ i, i < n → l[i]? = some (f i)) : w.rowIs g t n f :=
  ⟨_, h, by simpa using hn, fun i hi => by simpa using hf i hi⟩

/-- copy(row, s), the row at least as long as s. -/
theorem copy_row {P : Program} {T E : TypeId} {k : IntKind} (hT : P.underlying T = some (.slice E)) (hsz : (P.info? E).map (·.size) = some 1)
    {ops : Array Oper} {rest : List Oper} {o : Oper} {a : Act} {Q : Exit → Act → World → Prop} {w w0 : World} {B : Nat} (hgd : o.guard = none) (d s : Operand)
    (ho : o.op = .call { callee := .builtin .copy, args := #[d, s], argTypes := #[T, T] })
    {g n cap : Nat} {v : Value} {xs : List Int} {f : Nat → Value} (hd : a.eval d = .slice (some ⟨g, 0, none⟩) n cap) (hs : a.eval s = v)
    (hrow : w.rowIs g E n f) (hv : Sees k w v xs) (hlen : xs.length ≤ n) (hb : Below B w0 w) (hBg : B ≤ g)
    (h : ∀ w', Hid (w'.rowIs g E n (fun j => if j < xs.length then .int k (xs.getD j 0) else f j)) → Below B w0 w' → wpList P ops Q rest (a.put o.dst (.int .i64 (xs.length : Int))) w') :
    wpList P ops Q (o :: rest) a w := by
  obtain ⟨A, c, rfl, hc, hm, hcells⟩ := hv
  refine wpList_copy_splice hgd d s T T ho E hT hsz (some ⟨g, 0, none⟩) A n cap xs.length c hd hs g 0 _ E (row_toList hrow) (xs.map (Value.int k)) ?_ ?_ ?_ ?_ B w0 hb hBg ?_
  · rw [List.length_map]; exact (Nat.min_eq_left hlen).symm
  · intro hp
    obtain ⟨b, off, rfl, hcell⟩ := hcells (by intro e; subst e; simp at hp)
    refine ⟨rfl, _, rfl, fun j u hj => ?_⟩
    rw [addr_add]
    simp only [List.getElem?_map] at hj
    obtain ⟨y, hy, rfl⟩ := Option.map_eq_some_iff.1 hj
    obtain ⟨hlt, rfl⟩ := List.getElem?_eq_some_iff.1 hy
    exact hcell j hlt
  · simp; omega
  · intro u hu
    obtain ⟨y, _, rfl⟩ := List.mem_map.1 hu
    rfl
  · intro w' HG hB
    have hg := HG.out
    simp only [List.length_map] at *
    refine h w' (Lib.hid (row_ofList _ hg (by rw [length_splice] <;> simp <;> omega) fun j hj => ?_)) hB
    simp only [splice, List.take_zero, List.nil_append, Nat.zero_add, List.length_map]
    by_cases hjx : j < xs.length
    · rw [List.getElem?_append_left (by simpa using hjx)]
      simp [hjx]
    · have e : xs.length + (j - xs.length) = j := by omega
      rw [List.getElem?_append_right (by simp; omega), List.length_map, List.getElem?_drop, e]
      simp [hj, hjx]

/-- What can be read of a row, from its head on. -/
theorem row_sees {k : IntKind} {w : World} {g : Nat} {t : TypeId} {n : Nat} {f : Nat → Value} (h : w.rowIs g t n f) (xs : List Int) (cap : Nat) (hx : xs.length ≤ n) (hc : xs.length ≤ cap) (hm : cap ≤ maxLen)
    (hf : ∀ j (hj : j < xs.length), f j = .int k xs[j]) : Sees k w (.slice (some ⟨g, 0, none⟩) xs.length cap) xs :=
  ⟨_, cap, rfl, hc, hm, fun _ => ⟨g, 0, rfl, fun j hj => by rw [Nat.zero_add, h.cell (by omega), hf j hj]⟩⟩

end Go.Proofs.YtgohnekaolgblaaGreat

/- The document's memory: bytes are read: contract (gimletref12's Read). -/
namespace Go.Proofs.YtgohnekaolgblaaGreat
open Go.RowKit

theorem Mm.get_take {L : List (Int × Int)} (h : Mm.Up L) (j : Nat) (hj : j < L.length) (x : Int) : Mm.get (L.take (j + 1)) x = if x = L[j].1 then L[j].2 else Mm.get (L.take j) x := by
  induction L generalizing j with
  | nil => simp at hj
  | cons p L ih =>
    obtain ⟨h1, h2⟩ := Mm.up_tail h
    cases j with
    | zero =>
      simp only [List.take_succ_cons, List.take_zero, Mm.get, List.getElem_cons_zero]
      by_cases e : p.1 = x
      · rw [if_pos e, if_pos e.symm]
      · rw [if_neg e, if_neg (fun h => e h.symm)]
    | succ j =>
      have hj' : j < L.length := by simpa using hj
      have := h2 _ (List.getElem_mem hj')
      rw [List.take_succ_cons, List.take_succ_cons]
      simp only [Mm.get, List.getElem_cons_succ, ih h1 j hj']
      by_cases e : p.1 = x
      · rw [if_pos e, if_pos e, if_neg (by omega)]
      · rw [if_neg e, if_neg e]
theorem Mm.get_below : ∀ {L : List (Int × Int)} {j : Nat} {x : Int}, (∀ i (hi : i < L.length), i < j → L[i].1 < x) → Mm.get (L.take j) x = 0 := fun {L j x} h => Mm.get_not fun i hi => by
  rw [List.length_take] at hi
  have := h i (by omega) (by omega)
  rw [List.getElem_take]
  omega
theorem Mm.get_past : ∀ {L : List (Int × Int)} {j : Nat} {x : Int}, (∀ i (hi : i < L.length), j ≤ i → x < L[i].1) → Mm.get (L.take j) x = Mm.get L x
  | [], j, x, _ => by simp
  | p :: L, 0, x, h => by
    rw [List.take_zero]
    exact (Mm.get_not fun i hi => by have := h i hi (by omega); omega).symm
  | p :: L, j + 1, x, h => by
    rw [List.take_succ_cons]
    simp only [Mm.get]
    rw [Mm.get_past fun i hi hij => by have := h (i + 1) (by simpa using hi) (by omega); simpa using this]

set_option maxRecDepth 100000 in
set_option maxHeartbeats 1000000 in
theorem mmRead (w : World) (B m : Nat) (N Most : Int) (sv : Value) (L : List (Int × Int)) (a : Int) (n : Nat) (h : MemAt w B m N Most sv L) (hlen : L.length ≤ 1000000) (h0 : 0 ≤ a ∧ a < 4294967296 ∧ 0 ≤ N ∧ N ≤ 65536) (hn : n ≤ 1048576) (hin : a + n ≤ N * 65536) :
    Calls Tryz.prog 33 #[.pointer (some ⟨m, 0, none⟩), .int .u32 a, .int .u32 (n : Int)] w fun e w' => ∃ g, w.heap.size ≤ g ∧ e = .returned (.tuple #[.slice (some ⟨g, 0, none⟩) n n, .int .i64 0]) ∧ w'.rowIs g 5 n (fun k => .int .u8 (Mm.get L (a + (k : Int)))) ∧ Below w.heap.size w w' := by
  have C2 := mmThere w B m N Most sv L a n h (by omega)
  rw [decide_eq_true hin] at C2
  obtain ⟨iU, hi, hz0, hz1, hz2⟩ := info_parts3 (show (Tryz.prog.info? 5).map (fun i => (i.zero, i.size, i.bytes)) = some (some (.int .u8 0), 1, 1) by kernel_rfl)
  have hnI : (n : Int) ≤ 1048576 := by omega
  have hup := Lib.hid h.up
  replace h := Lib.hid h
  replace C2 := Lib.hid C2
  replace hin := Lib.hid hin
  go_enter Tryz.func33, Tryz.ntmps33
  go_wp2_with fail
  refine C2.out.mono ?_
  rintro _ _ ⟨rfl, ew⟩
  replace ew := ew.symm
  subst ew
  clear C2
  go_wp2_with (at_make; refine wpList_make_row w rfl (.tmp 20) (.tmp 20) 28 rfl 5 iU (.int .u8 0) Tryz.underlying28 hi hz0 hz1 rfl .u32 .u32 n rfl rfl (by rw [hz2]; omega) (by omega) ?_; obtain ⟨w1, hw1, R1, b1, z1⟩ : ∃ w1, w1 = w.alloc (.cells (madeCells #[Value.int .u8 0] n) 5) ∧ Hid (w1.rowIs w.heap.size 5 n (fun _ => .int .u8 0)) ∧ Below w.heap.size w w1 ∧ w1.heap.size = w.heap.size + 1 := ⟨_, rfl, Lib.hid (World.rowIs_made w _ n _), (Below.refl _ _).alloc (Nat.le_refl _) _, by simp⟩; rw [← hw1]; have C3 := mmFind w1 B m N Most sv L a (h.out.call b1) hlen; clear hw1)
  refine C3.mono ?_
  rintro _ w2 ⟨i0, is, rfl, hsp, b2⟩
  have b12 := b1.trans (b2.mono b1.size)
  have R2 := R1.out.of_block (b2.block _ (by omega))
  have h2 := h.out.call b12
  have v2 := h2.vb.cell 2
  have ml := h2.vb.lt
  have hmw := h.out.vb.lt
  simp at v2
  obtain ⟨A, cap, rfl, hel⟩ := h.out.slice
  have hlI : (L.length : Int) ≤ 1000000 := by omega
  replace hel := Lib.hid hel
  replace h2 := Lib.hid h2
  replace b1 := Lib.hid b1
  replace b2 := Lib.hid b2
  replace R2 := Lib.hid R2
  obtain ⟨p1, p2, p3, -⟩ := hsp
  replace p2 := Lib.hid p2
  replace p3 := Lib.hid p3
  go_wp2_with fail
  go_loopw [9] (fun c wr => ∃ j : Nat, c = .int .i64 (j : Int) ∧ i0 ≤ j ∧ j ≤ L.length ∧ wr.rowIs w.heap.size 5 n (fun k => .int .u8 (Mm.get (L.take j) (a + (k : Int)))) ∧ Below w.heap.size w wr)
    (fun c _ => ((L.length : Int) - intOf c).toNat)
  case atStart =>
    refine ⟨i0, rfl, Nat.le_refl _, p1, R2.out.congr fun k hk => ?_, b1.out.trans (b2.out.mono b1.out.size)⟩
    rw [Mm.get_below fun i hi hij => by have := p2.out i hi hij; omega]
  case round =>
    obtain ⟨j, rfl, hij, hjl, hrow, hb⟩ := hrel
    have hmw' := hb.size
    have v2' := (hb.cell (p := ⟨m, 2, none⟩) hmw).trans (h.out.vb.cell 2)
    simp at v2'
    clear v2
    by_cases hl : j < L.length
    · obtain ⟨g, rfl, hgB, hgw, x0, x1, -⟩ := hel.out j hl
      have x0 := (hb.cell (p := ⟨g, j * 2, none⟩) hgw).trans x0
      have x1 := (hb.cell (p := ⟨g, j * 2 + 1, none⟩) hgw).trans x1
      have hlI : (j : Int) < (L.length : Int) := by omega
      have hja := p3.out j hl hij
      have htk := Mm.get_take hup.out j hl
      obtain ⟨q, hq⟩ : ∃ q, q = L[j] := ⟨_, rfl⟩
      rw [← hq] at x0 x1 hja htk
      have hpast : a + (n : Int) ≤ q.1 → ∀ k : Nat, k < n → Mm.get (L.take j) (a + (k : Int)) = Mm.get L (a + (k : Int)) := fun hge k hk => Mm.get_past fun i hi hji => by
        by_cases e : i = j
        · subst e; rw [← hq]; omega
        · have := hup.out j i hl hi (by omega); rw [← hq] at this; omega
      replace htk := Lib.hid htk
      replace hpast := Lib.hid hpast
      replace hq := Lib.hid hq
      by_cases hd : q.1 < a + (n : Int)
      · obtain ⟨k, hk⟩ : ∃ k : Nat, q.1 - a = (k : Int) := ⟨(q.1 - a).toNat, by omega⟩
        have hkn : k < n := by omega
        have hc := hrow.cell hkn
        have hf := hrow.frozen k
        have hl' := hrow.lt
        have hkI : (k : Int) < (n : Int) := by omega
        replace hrow := Lib.hid hrow
        replace hb := Lib.hid hb
        have i1 : 0 ≤ q.1 - a := by omega
        have i2 : q.1 - a < (n : Int) := by omega
        have i3 : (q.1 - a).toNat = k := by omega
        have i4 : IntKind.i64.wrap (q.1 - a) = q.1 - a := by rw [IntKind.wrap_i64]; omega
        replace hk := Lib.hid hk
        go_wp2_with fail
        go_region
        go_wp2_with fail
        have hb' := hb.out.setCell (p := ⟨w.heap.size, k, none⟩) (Nat.le_refl _) (.int .u8 q.2)
        refine ⟨⟨j + 1, by rw [show ((j + 1 : Nat) : Int) = (j : Int) + 1 by omega], by omega, by omega, ?_, hb'.os, hb'.tape, hb'.output, hb'.size, hb'.block⟩, by simp only [intOf]; omega⟩
        refine (show (wr.setCell ⟨w.heap.size, k, none⟩ (.int .u8 q.2)).rowIs w.heap.size 5 n _ from (hrow.out.set k (.int .u8 q.2)).congr fun i hi => ?_)
        rw [htk.out]
        by_cases e : i = k
        · subst e
          rw [if_pos rfl, if_pos (by have := hk.out; omega)]
        · rw [if_neg e, if_neg (by have := hk.out; omega)]
      · replace hrow := Lib.hid hrow
        replace hb := Lib.hid hb
        go_wp2_with fail
        go_returns
        exact ⟨_, Nat.le_refl _, rfl, hrow.out.congr fun k hk => by rw [hpast.out (by omega) k hk], hb.out⟩
    · have hlI : ¬ (j : Int) < (L.length : Int) := by omega
      have hle : L.take j = L := List.take_of_length_le (by omega)
      replace hrow := Lib.hid hrow
      replace hb := Lib.hid hb
      replace hle := Lib.hid hle
      go_wp2_with fail
      go_returns
      exact ⟨_, Nat.le_refl _, rfl, hrow.out.congr fun k hk => by rw [hle.out], hb.out⟩

end Go.Proofs.YtgohnekaolgblaaGreat
