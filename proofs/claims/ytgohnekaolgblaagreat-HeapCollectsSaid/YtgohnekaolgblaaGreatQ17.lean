/- The document's machine: calls of functions, what is written: contracts (gimletref28's Machine.outer). -/
import Derived.Test.YtgohnekaolgblaaGreatQ16
namespace Go.Proofs.YtgohnekaolgblaaGreat
open Go.RowKit

theorem MaAt.ownIs {F : Nat → Prop} {fs : List Fx} {K : Mx} {w : World} {sv outv ov : Value} {s : St} (h : MaAt F fs K w sv outv ov s) (own : List Nat) (ho : s.own = own) : MaAt F fs K w sv outv ov { s with own := own } := by
  subst ho
  exact h
theorem MaC.out_s {F : Nat → Prop} {fs : List Fx} {K : Mx} {w w1 w2 : World} {sv sv2 outv2 ov : Value} {s1 : St} (g : GrowS (MaS K sv ov) w w1) (h2 : MaAt F fs K w2 sv2 outv2 ov s1) (g2 : GrowS (MaC K sv) w1 w2) (n2 : SvNew w1 sv sv2) : MaEnd F fs K w sv ov s1 w2 :=
  ⟨sv2, outv2, h2, g.ma (SvNew.refl _ _) (g2.mono fun _ _ e => e.s), (SvNew.refl w sv).trans n2 g.size⟩

set_option maxRecDepth 100000 in
set_option maxHeartbeats 2000000 in
theorem maOuterCall (F : Nat → Prop) (fs : List Fx) (K : Mx) (k : Nat) (hcall : MaCall F fs K k) (w : World) (sv outv ov lv : Value) (s s1 : St) (x n lo : Nat) (vs : List Nat) (A A2 : Option Addr) (na ca nl c2 : Nat)
    (hM : MaAt F fs K w sv outv ov s) (hlv : OwnW w lo lv vs) (hvs : ∀ v ∈ vs, v < 4294967296) (hx : x < s.own.length) (hR : Runs fs k (.call n vs) s s1 0) :
    Calls Tryz.prog 94 #[.pointer (some ⟨K.x, 0, none⟩), .agg #[.int .i64 10, .int .i64 (x : Int), .int .i64 (n : Int), .slice A na ca, .slice A2 nl c2, .slice none 0 0], lv, ov] w fun e w' => e = .returned (.int .i64 0) ∧ MaEnd F fs K w sv ov { s1 with own := s.own.set x s1.told } w' := by
  have hown1 : s1.own = s.own := by cases hR; rfl
  obtain ⟨Ao, co, rfl, -⟩ := hM.own.cell
  obtain ⟨lvA, lvc, rfl, -⟩ := hlv.cell
  have V1 := VB.new w 77 #[.int .i64 10, .int .i64 (x : Int), .int .i64 (n : Int), .slice A na ca, .slice A2 nl c2, .slice none 0 0]
  have b1 := B.alloc (B.refl w) (.cells #[.int .i64 10, .int .i64 (x : Int), .int .i64 (n : Int), .slice A na ca, .slice A2 nl c2, .slice none 0 0] 77)
  have M1 := hM.below b1
  have G1 := Lib.hid ((GrowS.refl (MaS K sv (.slice Ao s.own.length co)) w).below b1)
  have C := Lib.hid (hcall _ sv outv _ _ s s1 0 n lo vs M1 (hlv.below b1) hvs hR)
  have hsz1 : (w.alloc (.cells #[.int .i64 10, .int .i64 (x : Int), .int .i64 (n : Int), .slice A na ca, .slice A2 nl c2, .slice none 0 0] 77)).heap.size = w.heap.size + 1 := by simp
  have hxl := hM.lox
  replace hown1 := Lib.hid hown1
  replace M1 := Lib.hid M1
  replace hR := Lib.hid hR
  clear hM hlv b1
  go_enter Tryz.func94, Tryz.ntmps94
  go_wp2_with fail
  generalize w.alloc (.cells #[.int .i64 10, .int .i64 (x : Int), .int .i64 (n : Int), .slice A na ca, .slice A2 nl c2, .slice none 0 0] 77) = w1 at V1 M1 C G1 hsz1 ⊢
  refine C.out.mono ?_
  rintro _ w2 ⟨rfl, sv2, outv2, M2, G2, N2⟩
  have V2 : VB w2 w.heap.size 77 #[.int .i64 10, .int .i64 (x : Int), .int .i64 (n : Int), .slice A na ca, .slice A2 nl c2, .slice none 0 0] := by
    refine (G2.block _ (by omega) (fun e => ?_)).trans V1
    rcases e with e | e | e | e
    · exact vb_ne M1.out.vb V1 (by decide) e.symm
    · exact vb_ne M1.out.mem.vb V1 (by decide) e.symm
    · exact row_ne V1 M1.out.g (by decide) (by rw [e]; rfl)
    · exact row_ne V1 M1.out.mem.own (by decide) e
  have y1 := V2.cell 1
  simp at y1
  have M2' := M2.ownIs s.own hown1.out
  obtain ⟨Ao', co', hA, hoc⟩ := M2'.own.cell
  simp only [Value.slice.injEq, true_and] at hA
  obtain ⟨rfl, rfl⟩ := hA
  obtain ⟨go, rfl, hgo1, hgo2, oc, of_⟩ := hoc x hx
  have hxI : (x : Int) < (s.own.length : Int) := by omega
  have x15 := M2.vb.cell 15
  have xl := M2.vb.lt
  simp [Mx.cells] at x15
  have E3 := MaC.out_s G1.out M2 G2 N2
  have M3 := Lib.hid (MaAt.setOwn (s := { s1 with own := s.own }) M2' x s1.told M2.ok.told)
  have G3 := Lib.hid ((G1.out.ma (SvNew.refl _ _) (G2.mono fun _ _ e => e.s)).set (b := go) (i := x) (.inr (.inr (.inr (.inr rfl)))) (.int .u32 (s1.told : Int)))
  have N3 := Lib.hid ((SvNew.refl w sv).trans N2 G1.out.size)
  clear hoc C M1 G1 G2 N2 E3 M2 M2' V1 V2
  go_wp2_with fail
  go_region
  all_goals go_wp2_with fail
  all_goals go_returns
  all_goals exact ⟨rfl, sv2, outv2, M3.out.below (below_drew (B.refl _)), G3.out.drew, N3.out⟩

end Go.Proofs.YtgohnekaolgblaaGreat
