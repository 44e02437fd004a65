/- All expressions of things: contract (gimletref28.all); append of lists of expressions. -/
import Derived.Test.YtgohnekaolgblaaCkA
import Derived.Test.YtgohnekaolgblaaTyA
namespace Go.Proofs.Ytgohnekaolgblaa
open Go.RowKit

abbrev Ex.flat (vs : List (Value × Value × Value)) : List Value := vs.flatMap fun v => [v.1, v.2.1, v.2.2]
theorem Ex.flat_length (vs : List (Value × Value × Value)) : (Ex.flat vs).length = vs.length * 3 := by
  induction vs with
  | nil => rfl
  | cons v vs ih => simp only [Ex.flat, List.flatMap_cons, List.length_append, List.length_cons, List.length_nil] at ih ⊢; omega
theorem Ex.ats_cells {S : Nat → Prop} {w : World} {b : Nat} : ∀ {l : List Ex} {off : Nat}, Ex.ats S w l b off → ∃ vs, ExV S w l vs ∧ (∀ u ∈ Ex.flat vs, u.oneCell' = true) ∧ ∀ (j : Nat) u, (Ex.flat vs)[j]? = some u → w.cell? ⟨b, off + j, none⟩ = some u
  | [], off, _ => ⟨[], trivial, by simp, by simp⟩
  | t :: l, off, h => by
    rw [Ex.ats] at h
    obtain ⟨⟨v0, v1, v2, c0, c1, c2, ha⟩, hl⟩ := h
    obtain ⟨vs, h1, h2, h3⟩ := Ex.ats_cells hl
    refine ⟨(v0, v1, v2) :: vs, ExV.cons ha h1, ?_, ?_⟩
    · obtain ⟨k, n, l'⟩ := t
      obtain ⟨A, c, e⟩ := Ex.agg ha
      simp only [Value.agg.injEq, Array.mk.injEq, List.cons.injEq, and_true] at e
      obtain ⟨rfl, rfl, rfl⟩ := e
      intro u hu
      simp only [Ex.flat, List.flatMap_cons, List.cons_append, List.nil_append, List.mem_cons] at hu
      rcases hu with rfl | rfl | rfl | hu
      · rfl
      · rfl
      · rfl
      · exact h2 u hu
    · intro j u hj
      simp only [Ex.flat, List.flatMap_cons, List.cons_append, List.nil_append] at hj
      match j, hj with
      | 0, hj => simp at hj; subst hj; exact c0
      | 1, hj => simp at hj; subst hj; exact c1
      | 2, hj => simp at hj; subst hj; exact c2
      | j + 3, hj =>
        have := h3 j u (by simpa using hj)
        rw [show off + (j + 3) = off + 3 + j by omega]; exact this
theorem ExV.append {S : Nat → Prop} {w : World} : ∀ {l l' : List Ex} {vs vs' : List (Value × Value × Value)}, ExV S w l vs → ExV S w l' vs' → ExV S w (l ++ l') (vs ++ vs')
  | [], _, [], _, _, h' => h'
  | _ :: _, _, _ :: _, _, h, h' => ⟨h.1, ExV.append h.2 h'⟩
theorem ExV.imp {S S' : Nat → Prop} {w w' : World} (h : ∀ t v, Ex.at S w t v → Ex.at S' w' t v) : ∀ {l : List Ex} {vs : List (Value × Value × Value)}, ExV S w l vs → ExV S' w' l vs
  | [], [], _ => trivial
  | _ :: _, _ :: _, k => ⟨h _ _ k.1, ExV.imp h k.2⟩
theorem Ex.ats_of_cells {S : Nat → Prop} {w : World} {b : Nat} : ∀ {l : List Ex} {off : Nat} {vs : List (Value × Value × Value)}, ExV S w l vs → (∀ (j : Nat) u, (Ex.flat vs)[j]? = some u → w.cell? ⟨b, off + j, none⟩ = some u) → Ex.ats S w l b off
  | [], _, [], _, _ => by rw [Ex.ats]; trivial
  | t :: l, off, v :: vs, h, hc => by
    rw [Ex.ats]
    refine ⟨⟨v.1, v.2.1, v.2.2, hc 0 _ (by simp [Ex.flat]), hc 1 _ (by simp [Ex.flat]), hc 2 _ (by simp [Ex.flat]), h.1⟩, Ex.ats_of_cells h.2 fun j u hj => ?_⟩
    rw [show off + 3 + j = off + (j + 3) by omega]
    exact hc (j + 3) u (by simpa [Ex.flat] using hj)

/-- A slice of the call's own that holds expressions whose parts lie in S. -/
def OwnX (S : Nat → Prop) (B : Nat) (w : World) (v : Value) (ts : List Ex) : Prop := ∃ vs, ExV S w ts vs ∧ (∀ u ∈ Ex.flat vs, u.oneCell' = true) ∧ w.ownsRow B 126 3 v ts.length (Ex.flat vs)
/-- A slice that is read. -/
def SrcX (S : Nat → Prop) (w : World) (u : Value) (ys : List Ex) : Prop := ∃ A cap vs, u = .slice A ys.length cap ∧ ExV S w ys vs ∧ (∀ u ∈ Ex.flat vs, u.oneCell' = true) ∧ (A = none → ys = []) ∧ ∀ ad, A = some ad → ∀ (j : Nat) u, (Ex.flat vs)[j]? = some u → w.cell? (ad.add j) = some u
theorem OwnX.nil (S : Nat → Prop) (B : Nat) (w : World) : OwnX S B w (.slice none 0 0) [] := ⟨[], trivial, by simp, World.ownsRow_nil _ _ _ _⟩
theorem ExL.src {S : Nat → Prop} {w : World} {u : Value} {ys : List Ex} (h : ExL S w ys u) : SrcX S w u ys := by
  obtain ⟨A, cap, rfl, h1, h2, h3⟩ := h
  by_cases hne : ys = []
  · subst hne
    exact ⟨A, cap, [], rfl, trivial, by simp, fun _ => rfl, fun ad _ j u hj => by simp at hj⟩
  · obtain ⟨b, off, rfl, hb, hS, ha⟩ := h3 hne
    obtain ⟨vs, v1, v2, v3⟩ := Ex.ats_cells ha
    refine ⟨_, cap, vs, rfl, v1, v2, fun e => (by cases e), fun ad e j u hj => ?_⟩
    simp only [Option.some.injEq] at e
    subst e
    rw [Addr.add_lit]; exact v3 j u hj
theorem OwnX.src {S : Nat → Prop} {B : Nat} {w : World} {v : Value} {ts : List Ex} (h : OwnX S B w v ts) : SrcX S w v ts := by
  obtain ⟨vs, h1, h2, h3⟩ := h
  have hc := fun g hg => World.ownsRow.cells h3 (g := g) hg
  obtain ⟨hl, ⟨rfl, hn⟩ | ⟨g, cap, cur, rfl, -⟩⟩ := h3
  · exact ⟨none, 0, vs, by rw [hn], h1, h2, fun _ => List.eq_nil_of_length_eq_zero hn, fun ad e => by cases e⟩
  · exact ⟨_, cap, vs, rfl, h1, h2, fun e => (by cases e), fun ad e j u hj => by simp only [Option.some.injEq] at e; subst e; exact hc g rfl j u hj⟩
theorem OwnX.keep {S : Nat → Prop} {B C : Nat} {w w' : World} {v : Value} {ts : List Ex} (h : OwnX S B w v ts) (hb : Below C w w') (hC : w.heap.size ≤ C) : OwnX S B w' v ts := by
  obtain ⟨vs, h1, h2, h3, h4⟩ := h
  refine ⟨vs, h1.imp fun t v k => Ex.at_keep hb.size (fun _ _ h => h) (fun b o u hlt _ hc => (hb.cell (p := ⟨b, o, none⟩) (by simp only; omega)).trans hc) t v k, h2, h3, ?_⟩
  rcases h4 with h4 | ⟨g, cap, cur, hv, hg, hh, r⟩
  · exact .inl h4
  · have hlt : g < w.heap.size := by
      by_cases hlt : g < w.heap.size
      · exact hlt
      · rw [Array.getElem?_eq_none (by omega)] at hh; cases hh
    exact .inr ⟨g, cap, cur, hv, hg, by rw [hb.block g (by omega)]; exact hh, r⟩
theorem OwnX.exl {S : Nat → Prop} {B : Nat} {w : World} {v : Value} {ts : List Ex} (h : OwnX S B w v ts) : ExL (fun _ => True) w ts v := by
  obtain ⟨vs, h1, h2, h3⟩ := h
  have hc := fun g hg => World.ownsRow.cells h3 (g := g) hg
  have hlt := World.ownsRow.lt h3
  obtain ⟨hl, ⟨rfl, hn⟩ | ⟨g, cap, cur, rfl, hB, hh, h4, h5, -⟩⟩ := h3
  · obtain rfl := List.eq_nil_of_length_eq_zero hn
    exact ExL.nil _ _
  · refine ⟨_, cap, rfl, h4, h5, fun _ => ⟨g, 0, rfl, (hlt g rfl).2, trivial, Ex.ats_of_cells (h1.imp fun t v k => k.mono fun _ _ _ => trivial) fun j u hj => ?_⟩⟩
    have := hc g rfl j u hj
    rw [Addr.add_lit] at this
    exact this

theorem run_ex_nil {P : Program} {w : World} {T ty E : TypeId} {i : TypeInfo} {z : Nat} (hT : P.underlying T = some (.slice E)) (hi : P.info? E = some i)
    {B : Nat} {v : Value} {n : Nat} {xs : List Value} (h : w.ownsRow B E z v n xs) (c : Nat) : (Builtin.append_ #[T, T] ty #[v, .slice none 0 c]).run P w = .ok v w := by
  rcases h.2 with ⟨rfl, hn⟩ | ⟨g, cap, cur, rfl, _, _, hnc, _⟩
  · simp [Builtin.append_, run_underlying hT, sizeOf, typeInfo, hi, Builtin.lenOf, Builtin.firstCells]
  · simp [Builtin.append_, run_underlying hT, sizeOf, typeInfo, hi, Builtin.lenOf, Builtin.firstCells, hnc, storeCells]
theorem app_ex {ops : Array Oper} {rest : List Oper} {o : Oper} {a : Act} {Q : Exit → Act → World → Prop} (hgd : o.guard = none) (s x : Operand)
    (ho : o.op = .call { callee := .builtin .append, args := #[s, x], argTypes := #[90, 90] })
    {S : Nat → Prop} {B : Nat} {w : World} {v u : Value} {ts ys : List Ex} (hs : a.eval s = v) (hx : a.eval x = u) (hown : OwnX S B w v ts) (hu : SrcX S w u ys)
    (hSB : ∀ b, S b → b < B) (hB : B ≤ w.heap.size) (hlen : ts.length + ys.length ≤ 1000000)
    (h : ∀ v' w', OwnX S B w' v' (ts ++ ys) → Below B w w' → wpList Try.prog ops Q rest (a.put o.dst v') w') : wpList Try.prog ops Q (o :: rest) a w := by
  obtain ⟨i, hi, hz, hsz, hby⟩ := info_parts3 (show (Try.prog.info? 126).map (fun i => (i.zero, i.size, i.bytes)) = some (some (.agg #[.int .i64 0, .int .i64 0, .slice none 0 0]), 3, 40) by kernel_rfl)
  obtain ⟨vs, v1, v2, v3⟩ := hown
  obtain ⟨A, cap, us, rfl, u1, u2, u3, u4⟩ := hu
  cases A with
  | none =>
    obtain rfl := u3 rfl
    refine wpList_plain hgd fun K hK => ?_
    have hrun := run_ex_nil (P := Try.prog) (w := w) (ty := o.type) Try.underlying90 hi v3 cap
    simp only [List.length_nil] at hx
    unfold Oper.wp execOp
    simp only [ho, resolve, invoke, builtin, Sem.run_bind, Sem.run_pure, Result.andThen_ok, List.map_toArray, List.map_cons, List.map_nil, hs, hx, hrun]
    exact hK _ _ <| h v w ⟨vs, by simpa using v1, v2, by simpa using v3⟩ (Below.refl _ _)
  | some ad =>
    obtain ⟨n1, -⟩ := u1.get
    refine wpList_append_own w hgd s x 90 ho B 126 i _ 3 40 Try.underlying90 hi hz hsz hby rfl (by decide) v ts.length _ hs v3 ad ys.length cap (Ex.flat us) hx ((Ex.flat_length us).trans (by omega)) (u4 ad rfl) u2 (by unfold maxLen; omega) (by omega) hB fun v' w' k1 k2 _ => ?_
    have hb : Below B w w' := ⟨k2.os, k2.tape, k2.output, k2.size, fun k hk => k2.block k (by omega) (fun e => by have := (World.ownsRow.lt v3 k e.symm).1; omega)⟩
    refine h v' w' ⟨vs ++ us, ExV.append ?_ ?_, ?_, by rw [List.length_append]; unfold Ex.flat; rw [List.flatMap_append]; exact k1⟩ hb
    · exact v1.imp fun t v k => Ex.at_keep hb.size (fun _ _ h => h) (fun b o u _ hS hc => (hb.cell (p := ⟨b, o, none⟩) (hSB b hS)).trans hc) t v k
    · exact u1.imp fun t v k => Ex.at_keep hb.size (fun _ _ h => h) (fun b o u _ hS hc => (hb.cell (p := ⟨b, o, none⟩) (hSB b hS)).trans hc) t v k
    · intro u hu
      unfold Ex.flat at hu
      rw [List.flatMap_append, List.mem_append] at hu
      rcases hu with hu | hu
      · exact v2 u hu
      · exact u2 u hu

mutual
/-- All expressions of things. -/
def Lo.all : Lo → List Ex | .mk _ _ _ a l => a ++ Lo.alls l
def Lo.alls : List Lo → List Ex | [] => [] | t :: l => t.all ++ Lo.alls l
end
theorem Lo.alls_append : ∀ a b : List Lo, Lo.alls (a ++ b) = Lo.alls a ++ Lo.alls b
  | [], b => by simp [Lo.alls]
  | t :: a, b => by simp [Lo.alls, Lo.alls_append a b]
theorem Lo.alls_take (l : List Lo) (i : Nat) (hi : i < l.length) : Lo.alls (l.take (i + 1)) = Lo.alls (l.take i) ++ l[i].a ++ Lo.alls l[i].l := by
  rw [take_step l i hi, Lo.alls_append]; generalize l[i] = t; obtain ⟨k, x, n, a, l'⟩ := t; simp [Lo.alls, Lo.all, Lo.l, Lo.a]
theorem Lo.alls_le (l : List Lo) (i : Nat) : (Lo.alls (l.take i)).length ≤ (Lo.alls l).length := by
  have h := Lo.alls_append (l.take i) (l.drop i); rw [List.take_append_drop] at h; rw [h, List.length_append]; omega

end Go.Proofs.Ytgohnekaolgblaa
