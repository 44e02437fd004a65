/- The document's machine: frames; a list of things: contract (gimletref28's Machine.list), of one thing's. -/
import Derived.Test.YtgohnekaolgblaaGreatQ12
import Derived.Test.YtgohnekaolgblaaGreatQ03
import Derived.Test.YtgohnekaolgblaaGreatQ01
namespace Go.Proofs.YtgohnekaolgblaaGreat
open Go.RowKit

/-- What may turn where things are done. -/
def MaS (K : Mx) (sv ov : Value) : Nat → Prop := fun k => k = K.x ∨ k = K.m ∨ k = K.gb ∨ sv.ownBlock = some k ∨ ov.ownBlock = some k
/-- .. where a function is called. -/
def MaC (K : Mx) (sv : Value) : Nat → Prop := fun k => k = K.x ∨ k = K.m ∨ k = K.gb ∨ sv.ownBlock = some k
theorem MaAt.lo {F : Nat → Prop} {fs : List Fx} {K : Mx} {w : World} {sv outv ov : Value} {s : St} (h : MaAt F fs K w sv outv ov s) : ∀ k, MaS K sv ov k → K.lo ≤ k := by
  rintro k (rfl | rfl | rfl | e | e)
  · exact h.lox
  · exact h.lom
  · exact (World.ownsRow.lt h.g K.gb rfl).1
  · have := (World.ownsRow.lt h.mem.own k e).1; have := h.lom; omega
  · exact (World.ownsRow.lt h.own k e).1
theorem MaC.s {K : Mx} {sv ov : Value} {k : Nat} (h : MaC K sv k) : MaS K sv ov k := by
  rcases h with h | h | h | h
  · exact .inl h
  · exact .inr (.inl h)
  · exact .inr (.inr (.inl h))
  · exact .inr (.inr (.inr (.inl h)))
/-- The memory's row is the old one, or a new one. -/
def SvNew (w : World) (sv sv' : Value) : Prop := ∀ g, sv'.ownBlock = some g → sv.ownBlock = some g ∨ w.heap.size ≤ g
theorem SvNew.refl (w : World) (sv : Value) : SvNew w sv sv := fun _ h => .inl h
theorem SvNew.trans {w w1 : World} {sv sv1 sv2 : Value} (h : SvNew w sv sv1) (h' : SvNew w1 sv1 sv2) (hs : w.heap.size ≤ w1.heap.size) : SvNew w sv sv2 := fun g hg => by
  rcases h' g hg with e | e
  · exact h g e
  · exact .inr (by omega)
theorem GrowS.ma {K : Mx} {w w1 w2 : World} {sv sv1 ov : Value} (h : GrowS (MaS K sv ov) w w1) (hs : SvNew w sv sv1) (h' : GrowS (MaS K sv1 ov) w1 w2) : GrowS (MaS K sv ov) w w2 :=
  h.thenS h' fun k hk hS => by
    rcases hS with e | e | e | e | e
    · exact .inl e
    · exact .inr (.inl e)
    · exact .inr (.inr (.inl e))
    · rcases hs k e with e | e
      · exact .inr (.inr (.inr (.inl e)))
      · omega
    · exact .inr (.inr (.inr (.inr e)))

/-- How a thing's doing ends. -/
def MaPost (F : Nat → Prop) (fs : List Fx) (K : Mx) (w : World) (sv ov : Value) (s1 : St) (h : Nat) : Ending → World → Prop := fun e w' => ∃ sv' outv', e = .returned (.int .i64 (h : Int)) ∧ MaAt F fs K w' sv' outv' ov s1 ∧ GrowS (MaS K sv ov) w w' ∧ SvNew w sv sv'
/-- One thing's contract, at a depth. -/
def MaOne (F : Nat → Prop) (fs : List Fx) (K : Mx) (k : Nat) : Prop := ∀ (w : World) (sv outv ov : Value) (s s1 : St) (h : Nat) (t : Lo) (v : Value), MaAt F fs K w sv outv ov s → Lo.at F w t v → Runs fs k (.one t) s s1 h →
  Calls Tryz.prog 84 #[.pointer (some ⟨K.x, 0, none⟩), v, ov] w (MaPost F fs K w sv ov s1 h)
/-- A list's. -/
def MaList (F : Nat → Prop) (fs : List Fx) (K : Mx) (k : Nat) : Prop := ∀ (w : World) (sv outv ov : Value) (s s1 : St) (h : Nat) (l : List Lo) (v : Value), MaAt F fs K w sv outv ov s → LoL F w l v → Runs fs k (.list l) s s1 h →
  Calls Tryz.prog 51 #[.pointer (some ⟨K.x, 0, none⟩), v, ov] w (MaPost F fs K w sv ov s1 h)

theorem LoL.elemAt {S : Nat → Prop} {w : World} {l : List Lo} {A : Option Addr} {cap : Nat} (h : LoL S w l (.slice A l.length cap)) (i : Nat) (hi : i < l.length) :
    ∃ b off v0 v1 v2 v3 v4 v5, A = some ⟨b, off, none⟩ ∧ b < w.heap.size ∧ w.cell? ⟨b, off + i * 6, none⟩ = some v0 ∧ w.cell? ⟨b, off + i * 6 + 1, none⟩ = some v1 ∧ w.cell? ⟨b, off + i * 6 + 2, none⟩ = some v2 ∧ w.cell? ⟨b, off + i * 6 + 3, none⟩ = some v3 ∧ w.cell? ⟨b, off + i * 6 + 4, none⟩ = some v4 ∧ w.cell? ⟨b, off + i * 6 + 5, none⟩ = some v5 ∧ Lo.at S w l[i] (.agg #[v0, v1, v2, v3, v4, v5]) := by
  obtain ⟨A', c', he, -, -, h3⟩ := h
  simp only [Value.slice.injEq, true_and] at he
  obtain ⟨rfl, rfl⟩ := he
  obtain ⟨b, off, rfl, hb, -, ha⟩ := h3 (by intro e; subst e; simp at hi)
  obtain ⟨v0, v1, v2, v3, v4, v5, c0, c1, c2, c3, c4, c5, h⟩ := Lo.ats_get ha i hi
  exact ⟨b, off, v0, v1, v2, v3, v4, v5, rfl, hb, c0, c1, c2, c3, c4, c5, h⟩
theorem LoL.ma {F : Nat → Prop} {fs : List Fx} {K : Mx} {w w' : World} {sv outv ov : Value} {s : St} (h : MaAt F fs K w sv outv ov s) (hg : GrowS (MaS K sv ov) w w') {l : List Lo} {v : Value} (hl : LoL F w l v) : LoL F w' l v :=
  hl.keep hg.size (fun _ _ h => h) fun b o u hb hF hc => by
    rw [← hc]
    exact World.cell?_of_block (w := w) (hg.block b hb (fun e => by have := h.lo b e; have := h.low b hF; omega))

set_option maxRecDepth 100000 in
set_option maxHeartbeats 2000000 in
theorem maList (F : Nat → Prop) (fs : List Fx) (K : Mx) (k : Nat) (hone : MaOne F fs K k) : MaList F fs K k := by
  intro w sv outv ov s s1 h l v hM hl hR
  have hll : l.length ≤ 9223372036854775807 := by obtain ⟨_, _, _, h1, h2, _⟩ := hl; unfold maxLen at h2; omega
  obtain ⟨A, cap, rfl⟩ := hl.slice
  have hstep := Lib.hid (maStep F fs K)
  replace hone := Lib.hid hone
  replace hM := Lib.hid hM
  replace hl := Lib.hid hl
  replace hR := Lib.hid hR
  go_enter Tryz.func51, Tryz.ntmps51
  go_wp2_with fail
  go_loopw [7] (fun q wr => ∃ (i : Nat) (sv' outv' : Value) (s' : St), q = .int .i64 (i : Int) ∧ i ≤ l.length ∧ MaAt F fs K wr sv' outv' ov s' ∧ Runs fs k (.list (l.drop i)) s' s1 h ∧ GrowS (MaS K sv ov) w wr ∧ SvNew w sv sv')
    (fun q _ => l.length - (intOf q).toNat)
  case atStart => exact ⟨0, sv, outv, s, rfl, by omega, hM.out, hR.out, GrowS.refl _ _, SvNew.refl _ _⟩
  case round =>
    obtain ⟨i, sv', outv', s', rfl, hi, hM1, hR1, hG1, hS1⟩ := hrel
    by_cases hil : i < l.length
    · rw [List.drop_eq_getElem_cons hil] at hR1
      obtain ⟨b, off, -, -, -, -, -, -, rfl, -⟩ := (LoL.ma hM.out hG1 hl.out).elemAt i hil
      have hiI : (i : Int) < (l.length : Int) := by omega
      cases hR1 with
      | cons h0 r1 r2 =>
        have C1 := Lib.hid (hstep.out sv' outv' ov s' wr hM1 h0)
        replace hM1 := Lib.hid hM1
        replace hG1 := Lib.hid hG1
        replace hS1 := Lib.hid hS1
        replace r1 := Lib.hid r1
        replace r2 := Lib.hid r2
        go_wp2_with fail
        refine C1.out.mono ?_
        rintro _ w2 ⟨rfl, hM2, hG2⟩
        have G12 : GrowS (MaS K sv ov) w w2 := hG1.out.ma hS1.out (hG2.mono fun k _ e => .inl e)
        have hl2 := LoL.ma hM.out G12 hl.out
        obtain ⟨b', off', v0, v1, v2, v3, v4, v5, e', hbw, c0, c1, c2, c3, c4, c5, hat⟩ := hl2.elemAt i hil
        simp only [Option.some.injEq, Addr.mk.injEq, and_true] at e'
        obtain ⟨rfl, rfl⟩ := e'
        have C2 := Lib.hid (hone.out w2 sv' outv' ov _ _ _ _ _ hM2 hat r1.out)
        have hs2 := G12.size
        replace G12 := Lib.hid G12
        replace hM2 := Lib.hid hM2
        clear C1 hG2 hl2 hat
        go_wp2_with fail
        refine C2.out.mono ?_
        rintro _ w3 ⟨sv3, outv3, rfl, hM3, hG3, hS3⟩
        have G13 := Lib.hid (G12.out.ma hS1.out hG3)
        have S13 := Lib.hid (hS1.out.trans (w1 := w2) hS3 hs2)
        replace hM3 := Lib.hid hM3
        clear C2 hG3 hS3
        go_wp2_with fail
        exact ⟨⟨i + 1, sv3, outv3, _, by rw [show ((i + 1 : Nat) : Int) = (i : Int) + 1 by omega], by omega, hM3.out, r2.out, G13.out, S13.out⟩, by simp only [intOf]; omega⟩
      | stop h0 r1 hne =>
        have C1 := Lib.hid (hstep.out sv' outv' ov s' wr hM1 h0)
        replace hM1 := Lib.hid hM1
        replace hG1 := Lib.hid hG1
        replace hS1 := Lib.hid hS1
        replace r1 := Lib.hid r1
        go_wp2_with fail
        refine C1.out.mono ?_
        rintro _ w2 ⟨rfl, hM2, hG2⟩
        have G12 : GrowS (MaS K sv ov) w w2 := hG1.out.ma hS1.out (hG2.mono fun k _ e => .inl e)
        have hl2 := LoL.ma hM.out G12 hl.out
        obtain ⟨b', off', v0, v1, v2, v3, v4, v5, e', hbw, c0, c1, c2, c3, c4, c5, hat⟩ := hl2.elemAt i hil
        simp only [Option.some.injEq, Addr.mk.injEq, and_true] at e'
        obtain ⟨rfl, rfl⟩ := e'
        have C2 := Lib.hid (hone.out w2 sv' outv' ov _ _ _ _ _ hM2 hat r1.out)
        have hs2 := G12.size
        replace G12 := Lib.hid G12
        replace hM2 := Lib.hid hM2
        clear C1 hG2 hl2 hat
        go_wp2_with fail
        refine C2.out.mono ?_
        rintro _ w3 ⟨sv3, outv3, rfl, hM3, hG3, hS3⟩
        have G13 := Lib.hid (G12.out.ma hS1.out hG3)
        have S13 := Lib.hid (hS1.out.trans (w1 := w2) hS3 hs2)
        replace hM3 := Lib.hid hM3
        clear C2 hG3 hS3
        have hneI : ¬ (h : Int) = 0 := by omega
        go_wp2_with fail
        go_returns
        exact ⟨sv3, outv3, rfl, hM3.out, G13.out, S13.out⟩
    · have hie : i = l.length := by omega
      subst hie
      rw [List.drop_of_length_le (Nat.le_refl _)] at hR1
      cases hR1
      replace hM1 := Lib.hid hM1
      replace hG1 := Lib.hid hG1
      replace hS1 := Lib.hid hS1
      go_wp2_with fail
      go_returns
      exact ⟨sv', outv', rfl, hM1, hG1, hS1⟩

end Go.Proofs.YtgohnekaolgblaaGreat

/- The document's machine: a loop: contract (gimletref28's Machine.loop), of a list's (printed by wip/gen_maloop.py). -/
namespace Go.Proofs.YtgohnekaolgblaaGreat
open Go.RowKit

/-- A loop's. -/
def MaLoop (F : Nat → Prop) (fs : List Fx) (K : Mx) (k : Nat) : Prop := ∀ (w : World) (sv outv ov : Value) (s s1 : St) (h : Nat) (l : List Lo) (v : Value), MaAt F fs K w sv outv ov s → LoL F w l v → Runs fs k (.loop l) s s1 h →
  Calls Tryz.prog 91 #[.pointer (some ⟨K.x, 0, none⟩), v, ov] w (MaPost F fs K w sv ov s1 h)
/-- Is it the first round? -/
def firstOf : Value → Nat
  | .bool true => 1
  | _ => 0
/-- Steps that are left, as the machine's cell says. -/
def leftOf (K : Mx) (w : World) : Nat := (intOf ((w.cell? ⟨K.x, 13, none⟩).getD (.int .i64 0))).toNat
theorem MaAt.leftOf {F : Nat → Prop} {fs : List Fx} {K : Mx} {w : World} {sv outv ov : Value} {s : St} (h : MaAt F fs K w sv outv ov s) : leftOf K w = s.left := by
  have := h.vb.cell 13
  simp [Mx.cells] at this
  simp [Go.Proofs.YtgohnekaolgblaaGreat.leftOf, this, intOf]
theorem MaAt.downN {F : Nat → Prop} {fs : List Fx} {K : Mx} {w : World} {sv outv ov : Value} {s : St} (h : MaAt F fs K w sv outv ov s) (h0 : 0 < s.n) : MaAt F fs K (w.setCell ⟨K.x, 16, none⟩ (.int .i64 ((s.n : Int) - 1))) sv outv ov { s with n := s.n - 1 } := by
  have e : (s.n : Int) - 1 = ((s.n - 1 : Nat) : Int) := by omega
  rw [e]
  exact h.setX 16 _ { s with n := s.n - 1 } rfl rfl rfl rfl rfl ⟨h.ok.up, h.ok.place, h.ok.byt, h.ok.pages, h.ok.g, h.ok.gl, h.ok.own, h.ok.ownl, h.ok.outl, h.ok.sum, h.ok.told, by have := h.ok.n; simp only; omega, h.ok.deep⟩ (h.vb.set 16 _)

set_option maxRecDepth 100000 in
set_option maxHeartbeats 2000000 in
theorem maLoop (F : Nat → Prop) (fs : List Fx) (K : Mx) (k : Nat) (hlist : MaList F fs K k) : MaLoop F fs K k := by
  intro w sv outv ov s s1 h l v hM hl hR
  obtain ⟨A, cap, rfl⟩ := hl.slice
  have hstep := Lib.hid (maStep F fs K)
  replace hlist := Lib.hid hlist
  replace hM := Lib.hid hM
  replace hl := Lib.hid hl
  replace hR := Lib.hid hR
  go_enter Tryz.func91, Tryz.ntmps91
  go_wp2_with fail
  go_loopw [7] (fun q wr => ∃ (first : Bool) (sv' outv' : Value) (s' : St), q = .bool first ∧ MaAt F fs K wr sv' outv' ov s' ∧ (first = true → Runs fs k (.loop l) s' s1 h) ∧ (first = false → 0 < s'.left ∧ Runs fs k (.loop l) s'.step s1 h) ∧ GrowS (MaS K sv ov) w wr ∧ SvNew w sv sv')
    (fun q wr => 2 * leftOf K wr + firstOf q)
  case atStart => exact ⟨true, sv, outv, s, rfl, hM.out, fun _ => hR.out, fun h => (by cases h), GrowS.refl _ _, SvNew.refl _ _⟩
  case round =>
    obtain ⟨first, sv', outv', s', rfl, hM1, hRt, hRf, hG1, hS1⟩ := hrel
    have hs1 := hG1.size
    have hL1 := Lib.hid hM1.leftOf
    cases first with
    | true =>
      have hR1 := hRt rfl
      clear hRt hRf
      generalize hs0 : s' = s0 at hR1
      cases hR1 with
      | again r1 h2 r2 =>
        subst hs0
        have hsame := r1.same.1
        replace r2 := Lib.hid r2
        replace r1 := Lib.hid r1
        have C2 := Lib.hid (hlist.out wr sv' outv' ov _ _ _ _ _ hM1 (LoL.ma hM.out hG1 hl.out) r1.out)
        replace hM1 := Lib.hid hM1
        replace hG1 := Lib.hid hG1
        replace hS1 := Lib.hid hS1
        go_wp2_with fail
        refine C2.out.mono ?_
        rintro _ w3 ⟨sv3, outv3, rfl, hM3, hG3, hS3⟩
        have G13 := hG1.out.ma hS1.out hG3
        have S13 := Lib.hid (hS1.out.trans (w1 := wr) hS3 hs1)
        clear C2 hG3 hS3
        have hL3 := Lib.hid hM3.leftOf
        replace hM3 := Lib.hid hM3
        replace G13 := Lib.hid G13
        replace hsame := Lib.hid hsame
        go_wp2_with fail
        exact ⟨⟨false, sv3, outv3, _, rfl, hM3.out, fun h => (by cases h), fun _ => ⟨h2, r2.out⟩, G13.out, S13.out⟩, by have := hL1.out; have := hL3.out; have := hsame.out; simp only [St.step] at *; simp only [firstOf]; omega⟩
      | leave r1 hn =>
        subst hs0
        have hsame := r1.same.1
        replace r1 := Lib.hid r1
        have C2 := Lib.hid (hlist.out wr sv' outv' ov _ _ _ _ _ hM1 (LoL.ma hM.out hG1 hl.out) r1.out)
        replace hM1 := Lib.hid hM1
        replace hG1 := Lib.hid hG1
        replace hS1 := Lib.hid hS1
        go_wp2_with fail
        refine C2.out.mono ?_
        rintro _ w3 ⟨sv3, outv3, rfl, hM3, hG3, hS3⟩
        have G13 := hG1.out.ma hS1.out hG3
        have S13 := Lib.hid (hS1.out.trans (w1 := wr) hS3 hs1)
        clear C2 hG3 hS3
        have x16 := hM3.vb.cell 16
        have xl := hM3.vb.lt
        simp [Mx.cells, hn] at x16
        replace hM3 := Lib.hid hM3
        replace G13 := Lib.hid G13
        replace hsame := Lib.hid hsame
        go_wp2_with fail
        go_returns
        exact ⟨sv3, outv3, rfl, hM3.out, G13.out, S13.out⟩
      | leaves r1 hn =>
        rename_i sq
        subst hs0
        have hsame := r1.same.1
        replace r1 := Lib.hid r1
        have C2 := Lib.hid (hlist.out wr sv' outv' ov _ _ _ _ _ hM1 (LoL.ma hM.out hG1 hl.out) r1.out)
        replace hM1 := Lib.hid hM1
        replace hG1 := Lib.hid hG1
        replace hS1 := Lib.hid hS1
        go_wp2_with fail
        refine C2.out.mono ?_
        rintro _ w3 ⟨sv3, outv3, rfl, hM3, hG3, hS3⟩
        have G13 := hG1.out.ma hS1.out hG3
        have S13 := Lib.hid (hS1.out.trans (w1 := wr) hS3 hs1)
        clear C2 hG3 hS3
        have x16 := hM3.vb.cell 16
        have f16 := hM3.vb.free 16
        have xl := hM3.vb.lt
        have hn2 := hM3.ok.n
        simp [Mx.cells] at x16
        have hM4 := Lib.hid (hM3.downN hn)
        have G14 := Lib.hid (G13.set (b := K.x) (i := 16) (.inl rfl) (.int .i64 ((sq.n : Int) - 1)))
        have hnI : ¬ (sq.n : Int) = 0 := by omega
        have hnJ : (sq.n : Int) ≤ 1000000 := by omega
        replace hsame := Lib.hid hsame
        clear hM3
        go_wp2_with fail
        go_returns
        exact ⟨sv3, outv3, rfl, hM4.out, G14.out, S13.out⟩
      | tells r1 =>
        subst hs0
        have hsame := r1.same.1
        replace r1 := Lib.hid r1
        have C2 := Lib.hid (hlist.out wr sv' outv' ov _ _ _ _ _ hM1 (LoL.ma hM.out hG1 hl.out) r1.out)
        replace hM1 := Lib.hid hM1
        replace hG1 := Lib.hid hG1
        replace hS1 := Lib.hid hS1
        go_wp2_with fail
        refine C2.out.mono ?_
        rintro _ w3 ⟨sv3, outv3, rfl, hM3, hG3, hS3⟩
        have G13 := hG1.out.ma hS1.out hG3
        have S13 := Lib.hid (hS1.out.trans (w1 := wr) hS3 hs1)
        clear C2 hG3 hS3
        replace hM3 := Lib.hid hM3
        replace G13 := Lib.hid G13
        replace hsame := Lib.hid hsame
        go_wp2_with fail
        go_returns
        exact ⟨sv3, outv3, rfl, hM3.out, G13.out, S13.out⟩
    | false =>
      obtain ⟨h0, hR1⟩ := hRf rfl
      have h0I : 0 < s'.left := h0
      clear hRt hRf
      have C1 := Lib.hid (hstep.out sv' outv' ov s' wr hM1 h0)
      generalize hs0 : s'.step = s0 at hR1
      cases hR1 with
      | again r1 h2 r2 =>
        subst hs0
        have hsame := r1.same.1
        replace r2 := Lib.hid r2
        replace r1 := Lib.hid r1
        replace hM1 := Lib.hid hM1
        replace hG1 := Lib.hid hG1
        replace hS1 := Lib.hid hS1
        go_wp2_with fail
        refine C1.out.mono ?_
        rintro _ w2 ⟨rfl, hM2, hG2⟩
        have G12 : GrowS (MaS K sv ov) w w2 := hG1.out.ma hS1.out (hG2.mono fun k _ e => .inl e)
        have C2 := Lib.hid (hlist.out w2 sv' outv' ov _ _ _ _ _ hM2 (LoL.ma hM.out G12 hl.out) r1.out)
        have hs2 := G12.size
        replace G12 := Lib.hid G12
        replace hM2 := Lib.hid hM2
        clear C1 hG2
        go_wp2_with fail
        refine C2.out.mono ?_
        rintro _ w3 ⟨sv3, outv3, rfl, hM3, hG3, hS3⟩
        have G13 := G12.out.ma hS1.out hG3
        have S13 := Lib.hid (hS1.out.trans (w1 := w2) hS3 hs2)
        clear C2 hG3 hS3
        have hL3 := Lib.hid hM3.leftOf
        replace hM3 := Lib.hid hM3
        replace G13 := Lib.hid G13
        replace hsame := Lib.hid hsame
        go_wp2_with fail
        exact ⟨⟨false, sv3, outv3, _, rfl, hM3.out, fun h => (by cases h), fun _ => ⟨h2, r2.out⟩, G13.out, S13.out⟩, by have := hL1.out; have := hL3.out; have := hsame.out; simp only [St.step] at *; simp only [firstOf]; omega⟩
      | leave r1 hn =>
        subst hs0
        have hsame := r1.same.1
        replace r1 := Lib.hid r1
        replace hM1 := Lib.hid hM1
        replace hG1 := Lib.hid hG1
        replace hS1 := Lib.hid hS1
        go_wp2_with fail
        refine C1.out.mono ?_
        rintro _ w2 ⟨rfl, hM2, hG2⟩
        have G12 : GrowS (MaS K sv ov) w w2 := hG1.out.ma hS1.out (hG2.mono fun k _ e => .inl e)
        have C2 := Lib.hid (hlist.out w2 sv' outv' ov _ _ _ _ _ hM2 (LoL.ma hM.out G12 hl.out) r1.out)
        have hs2 := G12.size
        replace G12 := Lib.hid G12
        replace hM2 := Lib.hid hM2
        clear C1 hG2
        go_wp2_with fail
        refine C2.out.mono ?_
        rintro _ w3 ⟨sv3, outv3, rfl, hM3, hG3, hS3⟩
        have G13 := G12.out.ma hS1.out hG3
        have S13 := Lib.hid (hS1.out.trans (w1 := w2) hS3 hs2)
        clear C2 hG3 hS3
        have x16 := hM3.vb.cell 16
        have xl := hM3.vb.lt
        simp [Mx.cells, hn] at x16
        replace hM3 := Lib.hid hM3
        replace G13 := Lib.hid G13
        replace hsame := Lib.hid hsame
        go_wp2_with fail
        go_returns
        exact ⟨sv3, outv3, rfl, hM3.out, G13.out, S13.out⟩
      | leaves r1 hn =>
        rename_i sq
        subst hs0
        have hsame := r1.same.1
        replace r1 := Lib.hid r1
        replace hM1 := Lib.hid hM1
        replace hG1 := Lib.hid hG1
        replace hS1 := Lib.hid hS1
        go_wp2_with fail
        refine C1.out.mono ?_
        rintro _ w2 ⟨rfl, hM2, hG2⟩
        have G12 : GrowS (MaS K sv ov) w w2 := hG1.out.ma hS1.out (hG2.mono fun k _ e => .inl e)
        have C2 := Lib.hid (hlist.out w2 sv' outv' ov _ _ _ _ _ hM2 (LoL.ma hM.out G12 hl.out) r1.out)
        have hs2 := G12.size
        replace G12 := Lib.hid G12
        replace hM2 := Lib.hid hM2
        clear C1 hG2
        go_wp2_with fail
        refine C2.out.mono ?_
        rintro _ w3 ⟨sv3, outv3, rfl, hM3, hG3, hS3⟩
        have G13 := G12.out.ma hS1.out hG3
        have S13 := Lib.hid (hS1.out.trans (w1 := w2) hS3 hs2)
        clear C2 hG3 hS3
        have x16 := hM3.vb.cell 16
        have f16 := hM3.vb.free 16
        have xl := hM3.vb.lt
        have hn2 := hM3.ok.n
        simp [Mx.cells] at x16
        have hM4 := Lib.hid (hM3.downN hn)
        have G14 := Lib.hid (G13.set (b := K.x) (i := 16) (.inl rfl) (.int .i64 ((sq.n : Int) - 1)))
        have hnI : ¬ (sq.n : Int) = 0 := by omega
        have hnJ : (sq.n : Int) ≤ 1000000 := by omega
        replace hsame := Lib.hid hsame
        clear hM3
        go_wp2_with fail
        go_returns
        exact ⟨sv3, outv3, rfl, hM4.out, G14.out, S13.out⟩
      | tells r1 =>
        subst hs0
        have hsame := r1.same.1
        replace r1 := Lib.hid r1
        replace hM1 := Lib.hid hM1
        replace hG1 := Lib.hid hG1
        replace hS1 := Lib.hid hS1
        go_wp2_with fail
        refine C1.out.mono ?_
        rintro _ w2 ⟨rfl, hM2, hG2⟩
        have G12 : GrowS (MaS K sv ov) w w2 := hG1.out.ma hS1.out (hG2.mono fun k _ e => .inl e)
        have C2 := Lib.hid (hlist.out w2 sv' outv' ov _ _ _ _ _ hM2 (LoL.ma hM.out G12 hl.out) r1.out)
        have hs2 := G12.size
        replace G12 := Lib.hid G12
        replace hM2 := Lib.hid hM2
        clear C1 hG2
        go_wp2_with fail
        refine C2.out.mono ?_
        rintro _ w3 ⟨sv3, outv3, rfl, hM3, hG3, hS3⟩
        have G13 := G12.out.ma hS1.out hG3
        have S13 := Lib.hid (hS1.out.trans (w1 := w2) hS3 hs2)
        clear C2 hG3 hS3
        replace hM3 := Lib.hid hM3
        replace G13 := Lib.hid G13
        replace hsame := Lib.hid hsame
        go_wp2_with fail
        go_returns
        exact ⟨sv3, outv3, rfl, hM3.out, G13.out, S13.out⟩

end Go.Proofs.YtgohnekaolgblaaGreat

/- The document's machine: a function is called: steps for append of noughts, in a region that draws. -/
namespace Go.Proofs.YtgohnekaolgblaaGreat
open Go.RowKit

/-- append(v, xs...) as one step of a region, and that what is not nil stays so. -/
theorem step_app2 {P : Program} {T E : TypeId} {k : IntKind} {bytes : Nat} {i : TypeInfo} (hT : P.underlying T = some (.slice E)) (hi : P.info? E = some i) (hz : i.zero = some (.int k 0)) (hsz : i.size = 1) (hby : i.bytes = bytes)
    {ops : Array Oper} {o : Oper} {a : Act} {K : Act → World → Prop} {Q : Exit → Act → World → Prop} {R : Prop} (hgd : o.guard = none) (s x : Operand)
    (ho : o.op = .call { callee := .builtin .append, args := #[s, x], argTypes := #[T, T] })
    {B : Nat} {w0 w : World} {v u : Value} {xs ys : List Int} (hs : a.eval s = v) (hx : a.eval x = u) (hu : Sees k w u ys)
    (hown : Owns E k B w v xs) (hbel : Below B w0 w) (hB : B ≤ w.heap.size) (hlen : (xs.length + ys.length) * bytes ≤ 140737488355328) (hml : xs.length + ys.length ≤ maxLen) (hne : v ≠ .slice none 0 0)
    (h : ∀ v' w', Owns E k B w' v' (xs ++ ys) → Below B w0 w' → B ≤ w'.heap.size → v' ≠ .slice none 0 0 → K (a.put o.dst v') w') :
    if Region.wanted o (yielded ops a.tmps) = true then Oper.wp P o a w K Q else R := by
  have hw : Region.wanted o (yielded ops a.tmps) = true := by simp [Region.wanted, hgd]
  rw [if_pos hw]
  obtain ⟨A, cap, rfl, _, _, hc⟩ := hu
  rcases A with _ | ad
  · have hy : ys = [] := by
      by_cases hne : ys = []
      · exact hne
      · obtain ⟨b, off, he, _⟩ := hc hne; cases he
    subst hy
    simp only [List.length_nil] at hx
    have hrun := run_app_nil (P := P) (w := w) (ty := o.type) hT hi hown cap
    unfold Oper.wp execOp
    simp only [ho, resolve, invoke, builtin, Sem.run_bind, Sem.run_pure, Result.andThen_ok, List.map_toArray, List.map_cons, List.map_nil, hs, hx, hrun]
    exact h _ _ (by simpa using hown) hbel hB hne
  · refine wp_append_own w s x T ho B E i (.int k 0) 1 bytes hT hi hz hsz hby rfl (by decide) v xs.length (xs.map (Value.int k)) hs hown ad ys.length cap (ys.map (Value.int k)) hx (by simp) ?_ ?_ hml hlen hB ?_
    · intro j z hj
      have hlt : j < ys.length := by
        have := (List.getElem?_eq_some_iff.1 hj).1; simpa using this
      obtain ⟨b, off, he, hcell⟩ := hc (by intro e; subst e; simp at hlt)
      simp only [Option.some.injEq] at he
      subst he
      rw [addr_add, hcell j hlt]
      simp only [List.getElem?_map, List.getElem?_eq_getElem hlt, Option.map_some, Option.some.injEq] at hj
      rw [hj]
    · intro z hz
      obtain ⟨n, _, rfl⟩ := List.mem_map.1 hz
      rfl
    · intro v' w' ho' hg hiff
      refine h v' w' ?_ (hbel.grown hg hB (fun j hj => (hown.lt j hj).1)) (by have := hg.size; omega) (fun e => hne (hiff.1 e).1)
      unfold Owns; simpa using ho'
/-- append(v, make([]T, m)...) as one step of a region. -/
theorem step_zeros {P : Program} {T U E : TypeId} {k : IntKind} {bytes : Nat} {i : TypeInfo} (hT : P.underlying T = some (.slice E)) (hU : P.underlying U = some (.int .i64)) (hi : P.info? E = some i) (hz : i.zero = some (.int k 0)) (hsz : i.size = 1) (hby : i.bytes = bytes)
    {ops : Array Oper} {o : Oper} {a : Act} {K : Act → World → Prop} {Q : Exit → Act → World → Prop} {R : Prop} (hgd : o.guard = none) (s x : Operand)
    (ho : o.op = .call { callee := .builtin .append, args := #[s, x], argTypes := #[T, U] })
    {B : Nat} {w0 w : World} {v : Value} {xs : List Int} (m : Nat) (hs : a.eval s = v) (hx : a.eval x = .int .i64 (m : Int))
    (hown : Owns E k B w v xs) (hne : v ≠ .slice none 0 0) (hbel : Below B w0 w) (hB : B ≤ w.heap.size) (hlen : (xs.length + m) * bytes ≤ 140737488355328) (hml : xs.length + m ≤ maxLen) (hm : m ≤ 1073741824) (hb8 : bytes ≤ 8)
    (h : ∀ v' w', Owns E k B w' v' (xs ++ List.replicate m 0) → Below B w0 w' → B ≤ w'.heap.size → K (a.put o.dst v') w') :
    if Region.wanted o (yielded ops a.tmps) = true then Oper.wp P o a w K Q else R := by
  have hw : Region.wanted o (yielded ops a.tmps) = true := by simp [Region.wanted, hgd]
  rw [if_pos hw]
  obtain ⟨v', w', hrun, h1, h2⟩ := run_app_zeros (ty := o.type) hT hU hi hz hsz hby hown m hB hlen hml hm hb8 hne
  unfold Oper.wp execOp
  simp only [ho, resolve, invoke, builtin, Sem.run_bind, Sem.run_pure, Result.andThen_ok, List.map_toArray, List.map_cons, List.map_nil, hs, hx, hrun]
  exact h v' w' h1 (hbel.grown h2 hB (fun j hj => (hown.lt j hj).1)) (by have := h2.size; omega)

end Go.Proofs.YtgohnekaolgblaaGreat
