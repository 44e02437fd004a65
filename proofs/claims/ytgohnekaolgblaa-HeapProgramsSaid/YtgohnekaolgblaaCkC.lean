/- All expressions of things: contract (gimletref28.all). -/
import Derived.Test.YtgohnekaolgblaaCkB
namespace Go.Proofs.Ytgohnekaolgblaa
open Go.RowKit

theorem ExL.keepB {S : Nat → Prop} {w w' : World} {ts : List Ex} {v : Value} {B : Nat} (h : ExL S w ts v) (hb : Below B w w') (hSB : ∀ b, S b → b < B) : ExL S w' ts v :=
  ExL.keep hb.size (fun _ _ h => h) (fun b o _ _ hS hc => (hb.cell (p := ⟨b, o, none⟩) (hSB b hS)).trans hc) h
theorem LoL.keepB {S : Nat → Prop} {w w' : World} {ts : List Lo} {v : Value} {B : Nat} (h : LoL S w ts v) (hb : Below B w w') (hSB : ∀ b, S b → b < B) : LoL S w' ts v :=
  LoL.keep hb.size (fun _ _ h => h) (fun b o _ _ hS hc => (hb.cell (p := ⟨b, o, none⟩) (hSB b hS)).trans hc) h

theorem LoL.inS {S : Nat → Prop} {w : World} {l : List Lo} {b off cap : Nat} (h : LoL S w l (.slice (some ⟨b, off, none⟩) l.length cap)) (hne : 0 < l.length) : S b := by
  obtain ⟨A, c, e, -, -, h3⟩ := h
  simp only [Value.slice.injEq, true_and] at e
  obtain ⟨rfl, -⟩ := e
  obtain ⟨b', off', e, -, hS, -⟩ := h3 (by intro e; subst e; simp at hne)
  simp only [Option.some.injEq, Addr.mk.injEq, and_true] at e
  obtain ⟨rfl, rfl⟩ := e
  exact hS
theorem ExL.inS {S : Nat → Prop} {w : World} {l : List Ex} {b off cap : Nat} (h : ExL S w l (.slice (some ⟨b, off, none⟩) l.length cap)) (hne : 0 < l.length) : S b := by
  obtain ⟨A, c, e, -, -, h3⟩ := h
  simp only [Value.slice.injEq, true_and] at e
  obtain ⟨rfl, -⟩ := e
  obtain ⟨b', off', e, -, hS, -⟩ := h3 (by intro e; subst e; simp at hne)
  simp only [Option.some.injEq, Addr.mk.injEq, and_true] at e
  obtain ⟨rfl, rfl⟩ := e
  exact hS

set_option maxHeartbeats 2000000 in
theorem rAll (l : List Lo) : ∀ (S : Nat → Prop) (w : World) (v : Value), LoL S w l v → (∀ b, S b → b < w.heap.size) → (Lo.alls l).length ≤ 500000 → Lo.sizes l ≤ 1000000 →
    Calls Try.prog 59 #[v] w fun e w' => ∃ u, e = .returned u ∧ OwnX S w.heap.size w' u (Lo.alls l) ∧ Below w.heap.size w w' := by
  refine Lo.ind' (P := fun l => ∀ (S : Nat → Prop) (w : World) (v : Value), LoL S w l v → (∀ b, S b → b < w.heap.size) → (Lo.alls l).length ≤ 500000 → Lo.sizes l ≤ 1000000 →
    Calls Try.prog 59 #[v] w fun e w' => ∃ u, e = .returned u ∧ OwnX S w.heap.size w' u (Lo.alls l) ∧ Below w.heap.size w w') ?_ l
  intro l ih S w v hv hSw hle hsz
  obtain ⟨A, cap, rfl⟩ := hv.slice
  have hll : l.length ≤ 1000000 := Nat.le_trans (Lo.len_le l) hsz
  replace ih := Lib.hid ih
  replace hv := Lib.hid hv
  replace hle := Lib.hid hle
  replace hsz := Lib.hid hsz
  replace hSw := Lib.hid hSw
  obtain ⟨r, hr⟩ : ∃ r, r = Lo.alls l := ⟨_, rfl⟩
  rw [← hr]
  replace hr := Lib.hid hr
  go_enter Try.func59, Try.ntmps59
  go_wp2_with fail
  go_loopw [3, 4] (fun nn q wr => ∃ (i : Nat) (t : List Ex) (B : Nat), q = .int .i64 (i : Int) ∧ B = w.heap.size ∧ i ≤ l.length ∧ t = Lo.alls (l.take i) ∧ OwnX S B wr nn t ∧ Below B w wr)
    (fun _ q _ => l.length - (intOf q).toNat)
  case atStart => exact ⟨0, [], _, rfl, rfl, by omega, by simp [Lo.alls], OwnX.nil _ _ _, Below.refl _ _⟩
  case round =>
    obtain ⟨i, t, B, rfl, hB, hi, ht, hown, hbel⟩ := hrel
    by_cases hil : i < l.length
    · have hSB : ∀ b, S b → b < B := hB ▸ hSw.out
      obtain ⟨b, off, A1, k1, A2, k2, rfl, hb, d0, d1, d2, d3, d4, d5, ha, hl⟩ := LoL.elem (hv.out.keepB hbel hSB) i hil
      have h1 := Lo.alls_take l i hil
      have h2 := Lo.alls_le l (i + 1)
      have h3 := Lo.sizes_take l i hil
      have h4 := Lo.sizes_le l (i + 1)
      have hSb : b < B := hSB b (hv.out.inS (by omega))
      have hBr : B ≤ wr.heap.size := by have := hbel.size; omega
      rw [h1, List.length_append, List.length_append] at h2
      have g1 := hle.out
      have g2 := hsz.out
      have hn1 : t.length + l[i].a.length ≤ 1000000 := by rw [ht]; omega
      have hn2 : (t ++ l[i].a).length + (Lo.alls l[i].l).length ≤ 1000000 := by rw [ht, List.length_append]; omega
      have hc := fun (w' : World) (vv : Value) (hl' : LoL S w' l[i].l vv) (hS' : ∀ b, S b → b < w'.heap.size) => ih.out l[i] (List.getElem_mem hil) S w' vv hl' hS' (by omega) (by omega)
      have ht' := Lib.hid (show t ++ l[i].a ++ Lo.alls l[i].l = Lo.alls (l.take (i + 1)) by rw [h1, ht])
      clear h1 h2 h3 h4 g1 g2 ht d0 d1 d2
      have hown := Lib.hid hown
      have hbel := Lib.hid hbel
      have hc := Lib.hid hc
      have ha := Lib.hid ha
      have hl := Lib.hid hl
      have hSB := Lib.hid hSB
      have hB := Lib.hid hB
      go_wp2_with (at_builtin; refine app_ex rfl (.tmp 12) (.tmp 17) rfl rfl rfl hown.out ha.out.src hSB.out hBr hn1 ?_; intro u1 w1 o1 b1; replace o1 := Lib.hid o1; have e4 := (b1.cell (p := ⟨b, off + i * 6 + 4, none⟩) hSb).trans d4; have e5 := (b1.cell (p := ⟨b, off + i * 6 + 5, none⟩) hSb).trans d5; clear d3 d4 d5)
      have hB1 : B ≤ w1.heap.size := by have := b1.size; omega
      have hl1 := hl.out.keepB b1 hSB.out
      have hS1 : ∀ b, S b → b < w1.heap.size := fun b hb => Nat.lt_of_lt_of_le (hSB.out b hb) hB1
      have hbel1 := Lib.hid (hbel.out.trans b1)
      refine (hc.out w1 _ hl1 hS1).mono ?_
      rintro _ w2 ⟨u2, rfl, o2, b2⟩
      have hB2 : B ≤ w2.heap.size := by have := b2.size; omega
      have o1' := Lib.hid (o1.out.keep b2 (Nat.le_refl _))
      have hbel2 := Lib.hid (hbel1.out.trans (Below.mono b2 hB1))
      have x5 := (b2.cell (p := ⟨b, off + i * 6 + 5, none⟩) (Nat.lt_of_lt_of_le hSb hB1)).trans e5
      replace o2 := Lib.hid o2
      clear b2 o1 e4 e5 hl1 hS1 hn1 hl ha hown hbel b1 hbel1 hc
      go_wp2_with (at_builtin; refine app_ex rfl (.tmp 19) (.tmp 25) rfl rfl rfl o1'.out o2.out.src hSB.out hB2 hn2 ?_; intro u3 w3 o3 b3; replace o3 := Lib.hid o3; have y5 := (b3.cell (p := ⟨b, off + i * 6 + 5, none⟩) hSb).trans x5; clear x5)
      have hbel3 := Lib.hid (hbel2.out.trans b3)
      clear b3 hbel2 o1' o2
      go_loopw [3, 5] (fun nn q' wr => nn = u3 ∧ q' = .int .i64 0 ∧ wr = w3)
        (fun _ _ _ => 0)
      case atStart => exact ⟨by congr 1, rfl, rfl⟩
      case round =>
        obtain ⟨rfl, rfl, rfl⟩ := hrel
        go_wp2_with fail
        go_roundw
        case measure => simp only [intOf]; omega
        case rel => exact ⟨i + 1, _, B, rfl, hB.out, by omega, ht'.out, o3.out, hbel3.out⟩
    · have hrn : r = t := by rw [hr.out, ht, List.take_of_length_le (by omega)]
      replace hrn := Lib.hid hrn
      replace hown := Lib.hid hown
      replace hbel := Lib.hid hbel
      clear ht
      go_wp2_with fail
      go_returns
      exact ⟨_, rfl, by rw [hrn.out, ← hB]; exact hown.out, hB ▸ hbel.out⟩

end Go.Proofs.Ytgohnekaolgblaa
