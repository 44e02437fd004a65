/- append of two lists of things; the fields of a plan: one law an operation (printed by wip/gen_tya.py). -/
import Derived.Test.YtgohnekaolgblaaLfBytes
import Derived.ArgAppend
import Derived.LoadGo2
namespace Go.Proofs.Ytgohnekaolgblaa
open Go.RowKit

theorem info_parts3 {P : Program} {T : TypeId} {z : Option Value} {s b : Nat} (h : (P.info? T).map (fun i => (i.zero, i.size, i.bytes)) = some (z, s, b)) : ∃ i, P.info? T = some i ∧ i.zero = z ∧ i.size = s ∧ i.bytes = b := by
  cases hi : P.info? T with
  | none => rw [hi] at h; cases h
  | some i => rw [hi] at h; simp only [Option.map_some, Option.some.injEq, Prod.mk.injEq] at h; exact ⟨i, rfl, h.1, h.2.1, h.2.2⟩

/-- A list that fills its room. -/
def AV.lolx (t : List Lo) : AV := ⟨fun F _ w v => LoL F w t v ∧ ∃ A, v = .slice A t.length t.length, fun h _ k => ⟨h.lol k.1, k.2⟩⟩

/-- The cells of a list of things. -/
theorem Lo.ats_cells {S : Nat → Prop} {w : World} {b : Nat} : ∀ {l : List Lo} {off : Nat}, Lo.ats S w l b off → ∃ vs : List (Value × Value × Value × Value × Value × Value), LoV S w l vs ∧ (∀ u ∈ (vs.flatMap fun v => [v.1, v.2.1, v.2.2.1, v.2.2.2.1, v.2.2.2.2.1, v.2.2.2.2.2]), u.oneCell' = true) ∧
    ∀ (j : Nat) u, (vs.flatMap fun v => [v.1, v.2.1, v.2.2.1, v.2.2.2.1, v.2.2.2.2.1, v.2.2.2.2.2])[j]? = some u → w.cell? ⟨b, off + j, none⟩ = some u
  | [], off, _ => ⟨[], trivial, by simp, by simp⟩
  | t :: l, off, h => by
    rw [Lo.ats] at h
    obtain ⟨⟨v0, v1, v2, v3, v4, v5, c0, c1, c2, c3, c4, c5, ha⟩, hl⟩ := h
    obtain ⟨vs, h1, h2, h3⟩ := Lo.ats_cells hl
    refine ⟨(v0, v1, v2, v3, v4, v5) :: vs, LoV.cons ha h1, ?_, ?_⟩
    · obtain ⟨k, x, n, a, l'⟩ := t
      obtain ⟨A, c, A', c', e⟩ := Lo.agg ha
      simp only [Value.agg.injEq, Array.mk.injEq, List.cons.injEq, and_true] at e
      obtain ⟨rfl, rfl, rfl, rfl, rfl, rfl⟩ := e
      intro u hu
      simp only [List.flatMap_cons, List.cons_append, List.nil_append, List.mem_cons] at hu
      rcases hu with rfl | rfl | rfl | rfl | rfl | rfl | hu
      · rfl
      · rfl
      · rfl
      · rfl
      · rfl
      · rfl
      · exact h2 u hu
    · intro j u hj
      simp only [List.flatMap_cons, List.cons_append, List.nil_append] at hj
      match j, hj with
      | 0, hj => simp at hj; subst hj; exact c0
      | 1, hj => simp at hj; subst hj; exact c1
      | 2, hj => simp at hj; subst hj; exact c2
      | 3, hj => simp at hj; subst hj; exact c3
      | 4, hj => simp at hj; subst hj; exact c4
      | 5, hj => simp at hj; subst hj; exact c5
      | j + 6, hj =>
        have := h3 j u (by simpa using hj)
        rw [show off + (j + 6) = off + 6 + j by omega]; exact this
theorem LoV.append {S : Nat → Prop} {w : World} : ∀ {l l' : List Lo} {vs vs' : List (Value × Value × Value × Value × Value × Value)}, LoV S w l vs → LoV S w l' vs' → LoV S w (l ++ l') (vs ++ vs')
  | [], _, [], _, _, h' => h'
  | _ :: _, _, _ :: _, _, h, h' => ⟨h.1, LoV.append h.2 h'⟩
theorem flat6_length (vs : List (Value × Value × Value × Value × Value × Value)) : (vs.flatMap fun v => [v.1, v.2.1, v.2.2.1, v.2.2.2.1, v.2.2.2.2.1, v.2.2.2.2.2]).length = vs.length * 6 := by
  induction vs with
  | nil => rfl
  | cons v vs ih => simp only [List.flatMap_cons, List.length_append, ih, List.length_cons, List.length_nil]; omega
theorem Lo.ats_of_cells {S : Nat → Prop} {w : World} {b : Nat} : ∀ {l : List Lo} {off : Nat} {vs : List (Value × Value × Value × Value × Value × Value)}, LoV S w l vs →
    (∀ (j : Nat) u, (vs.flatMap fun v => [v.1, v.2.1, v.2.2.1, v.2.2.2.1, v.2.2.2.2.1, v.2.2.2.2.2])[j]? = some u → w.cell? ⟨b, off + j, none⟩ = some u) → Lo.ats S w l b off
  | [], _, [], _, _ => by rw [Lo.ats]; trivial
  | t :: l, off, v :: vs, h, hc => by
    rw [Lo.ats]
    refine ⟨⟨v.1, v.2.1, v.2.2.1, v.2.2.2.1, v.2.2.2.2.1, v.2.2.2.2.2, hc 0 _ (by simp), hc 1 _ (by simp), hc 2 _ (by simp), hc 3 _ (by simp), hc 4 _ (by simp), hc 5 _ (by simp), h.1⟩, Lo.ats_of_cells h.2 fun j u hj => ?_⟩
    rw [show off + 6 + j = off + (j + 6) by omega]
    exact hc (j + 6) u (by simpa using hj)

theorem st_append {c : Cx} (hP : c.P = Try.prog) (hN : ∀ b, c.w0.heap.size ≤ b → c.S b) {Q : Exit → Act → World → Prop} {o : Oper} {d x y : Nat} {l1 l2 : List Lo} (hx : c.ty x = AV.lolx l1) (hy : c.ty y = AV.lol l2) (hd : o.dst = some d) (hdn : d < c.n)
    (ho : o.op = .call { callee := .builtin .append, args := #[.tmp x, .tmp y], argTypes := #[39, 39] }) (hty : c.ty d = AV.lol (l1 ++ l2)) (h1 : 0 < l1.length) (h2 : 0 < l2.length) (h3 : (l1.length + l2.length) * 96 ≤ 1000000) : StepOk c Q o [x, y] [] [] := by
  refine step_make hN fun F V Dt Dv a w h ht => ?_
  have hxx := h.tmp x (ht _ (by simp)); rw [hx] at hxx
  have hyy := h.tmp y (ht _ (by simp)); rw [hy] at hyy
  obtain ⟨⟨A1, c1, e1, _, _, k1⟩, A1', e1'⟩ := hxx
  obtain ⟨A2, c2, e2, _, _, k2⟩ := hyy
  rw [e1] at e1'
  simp only [Value.slice.injEq] at e1'
  obtain ⟨-, -, rfl⟩ := e1'
  obtain ⟨b1, o1, rfl, hb1, hF1, ha1⟩ := k1 (by intro e; subst e; simp at h1)
  obtain ⟨b2, o2, rfl, hb2, hF2, ha2⟩ := k2 (by intro e; subst e; simp at h2)
  obtain ⟨vs1, v1, -, r1⟩ := Lo.ats_cells ha1
  obtain ⟨vs2, v2, -, r2⟩ := Lo.ats_cells ha2
  obtain ⟨n1, -⟩ := v1.get
  obtain ⟨n2, -⟩ := v2.get
  obtain ⟨i, hi, hz, hs, hby⟩ := info_parts3 (show (Try.prog.info? 123).map (fun i => (i.zero, i.size, i.bytes)) = some (some (.agg #[.int .i64 0, .int .i64 0, .int .i64 0, .slice none 0 0, .slice none 0 0, .slice none 0 0]), 6, 96) by kernel_rfl)
  have hsum : l1.length + l2.length ≤ 1000000 := by omega
  obtain ⟨v', w', hr, hown, hg⟩ := run_append_arg_grows (P := Try.prog) w 39 o.type 123 i _ 6 96 Try.underlying39 hi hz hs hby rfl (by decide) ⟨b1, o1, none⟩ l1.length l1.length _ ((flat6_length vs1).trans (by omega)) (fun j u hj => by rw [Addr.add_lit]; exact r1 j u hj)
    ⟨b2, o2, none⟩ l2.length c2 _ ((flat6_length vs2).trans (by omega)) (fun j u hj => by rw [Addr.add_lit]; exact r2 j u hj) (by omega) (by unfold maxLen; omega) (by omega)
  have hb : Below w.heap.size w w' := ⟨hg.os, hg.tape, hg.output, hg.size, fun k hk => hg.block k hk (by simp)⟩
  have e1 : a.eval (.tmp x) = .slice (some ⟨b1, o1, none⟩) l1.length l1.length := e1
  have e2 : a.eval (.tmp y) = .slice (some ⟨b2, o2, none⟩) l2.length c2 := e2
  refine ⟨v', w', ?_, hb, fun d' hd' => ?_⟩
  · rw [hP]
    unfold execOp
    simp only [ho, resolve, invoke, builtin, Sem.run_bind, Sem.run_pure, Result.andThen_ok, List.map_toArray, List.map_cons, List.map_nil, e1, e2, hr]
  · rw [hd] at hd'; simp only [Option.some.injEq] at hd'; subst hd'
    refine ⟨hdn, ?_⟩
    rw [hty]
    have hcell := fun g hg => World.ownsRow.cells hown (g := g) hg
    have hlt := World.ownsRow.lt hown
    obtain ⟨-, ⟨-, h0⟩ | ⟨g, cap, cur, rfl, hgb, -, hnc, hcm, -, -⟩⟩ := hown
    · omega
    refine ⟨_, cap, by rw [List.length_append], by rw [List.length_append]; exact hnc, hcm, fun _ => ⟨g, 0, rfl, (hlt g rfl).2, .inr ⟨hgb, (hlt g rfl).2⟩, ?_⟩⟩
    have hgrow : Grow F V w (grownTo F w w') V w' := ⟨hb.size, fun _ _ h => .inl h, fun b hlt _ => hb.block b hlt, fun _ _ h => h⟩
    have up : ∀ {l vs}, LoV F w l vs → LoV (grownTo F w w') w' l vs := by
      intro l
      induction l with
      | nil => intro vs hv; cases vs with
        | nil => trivial
        | cons _ _ => exact hv.elim
      | cons t l ih => intro vs hv; cases vs with
        | nil => exact hv.elim
        | cons v vs => exact ⟨hgrow.lo hv.1, ih hv.2⟩
    refine Lo.ats_of_cells (vs := vs1 ++ vs2) (LoV.append (up v1) (up v2)) fun j u hj => ?_
    have := hcell g rfl j u (by rw [List.flatMap_append] at hj; exact hj)
    rw [Addr.add_lit] at this
    exact this


theorem st_los1x {c : Cx} (hP : c.P = Try.prog) (hN : ∀ b, c.w0.heap.size ≤ b → c.S b) {Q : Exit → Act → World → Prop} {o : Oper} {d : Nat} {x0 : Nat} {s0 : Lo} (h0 : c.ty x0 = AV.lo s0) (hd : o.dst = some d) (hdn : d < c.n)
    (ho : o.op = .buildSlice 39 1 #[(0, .tmp x0)]) (hty : c.ty d = AV.lolx [s0]) : StepOk c Q o [x0] [] [] := by
  refine st_list hN hd hdn fun F V a w h => ?_
  have k0 : Lo.at F w s0 (a.eval (.tmp x0)) := by have := h x0 (by simp); rw [h0] at this; exact this
  generalize a.eval = ev at *
  obtain ⟨p0, y0, q0, r0, l0⟩ := s0; obtain ⟨A0, c0, B0, d0, e0⟩ := Lo.agg k0; rw [e0] at k0
  have hnew : ∀ o, LoV (grownTo F w (w.alloc o)) w [.mk p0 y0 q0 r0 l0] [(.int .i64 p0, .int .i64 y0, .int .i64 q0, .slice A0 r0.length c0, .slice B0 l0.length d0, .slice none 0 0)] := fun o => 
    LoV.cons (k0.mono fun _ _ h => .inl h) (LoV.nil _ _)
  refine ⟨#[.int .i64 p0, .int .i64 y0, .int .i64 q0, .slice A0 r0.length c0, .slice B0 l0.length d0, .slice none 0 0], 123, 1, ?_, ?_⟩
  · rw [hP]; unfold execOp; simp only [ho, List.map_toArray, List.map_cons, List.map_nil, e0]; clear hnew k0; go_simp
  · rw [hty]; exact ⟨LoL.of _ (hnew _) _ _ rfl (by simp [maxLen]) _ rfl (.inr (by simp)), _, rfl⟩


theorem st_boxPlan {c : Cx} (hP : c.P = Try.prog) {Q : Exit → Act → World → Prop} {o : Oper} {d s x : Nat} {p0 p1 p2 p3 p4 : Int} (hd : o.dst = some d) (hdn : d < c.n) (ho : o.op = .box 32 (.tmp s)) (hty : c.ty d = AV.ptr x 0) (hl : c.len x = 5) (hs : c.ty s = AV.raw (.agg #[.int .u32 p0, .int .u32 p1, .int .u32 p2, .int .u32 p3, .int .u32 p4])) (hc : c.con x = AV.raw (.agg #[.int .u32 p0, .int .u32 p1, .int .u32 p2, .int .u32 p3, .int .u32 p4])) : StepOk c Q o [s] [] [2 * x, 2 * x + 1] := by
  refine step_new (x := x) true hd hdn hty fun F V Dt Dv a w h ht => ?_
  have hss := h.tmp s (ht _ (by simp)); rw [hs] at hss
  refine ⟨#[.int .u32 p0, .int .u32 p1, .int .u32 p2, .int .u32 p3, .int .u32 p4], 32, ?_, by simp [hl], fun _ => by rw [hc]; exact rfl⟩
  have he : a.eval (.tmp s) = .agg #[.int .u32 p0, .int .u32 p1, .int .u32 p2, .int .u32 p3, .int .u32 p4] := hss
  clear h hss
  rw [hP]; unfold execOp; simp only [ho]; generalize a.eval = ev at *; rw [he]; go_simp
theorem st_convU {c : Cx} (hP : c.P = Try.prog) {Q : Exit → Act → World → Prop} {o : Oper} {d x : Nat} {n : Int} (hx : c.ty x = AV.raw (.int .u32 n)) (hd : o.dst = some d) (hdn : d < c.n) (ho : o.op = .convert 22 3 (.tmp x)) (hn : 0 ≤ n ∧ n < 4294967296) (hty : c.ty d = AV.i n) : StepOk c Q o [x] [] [] := by
  refine st_raw hx hd hdn hty fun a w e => ?_
  have hw : IntKind.i64.wrap n = n := by simp [IntKind.wrap, IntKind.signed, IntKind.bits]; omega
  rw [hP]; unfold execOp; simp only [ho]; generalize a.eval = ev at *; rw [e]; go_simp
theorem st_fieldPlan0 {c : Cx} (hP : c.P = Try.prog) {Q : Exit → Act → World → Prop} {o : Oper} {d p x : Nat} (hp : c.ty p = AV.ptr x 0) (hd : o.dst = some d) (hdn : d < c.n) (ho : o.op = .fieldAddr 32 (.tmp p) 0) (hty : c.ty d = AV.ptr x 0) : StepOk c Q o [p] [] [] := by
  refine st_field hp hd hdn hty fun a w g e => ?_
  rw [hP]; unfold execOp; simp only [ho]; generalize a.eval = ev at *; rw [e]; go_simp
theorem st_loadPlan0 {c : Cx} (hP : c.P = Try.prog) {Q : Exit → Act → World → Prop} {o : Oper} {d p x : Nat} {p0 p1 p2 p3 p4 : Int} (hp : c.ty p = AV.ptr x 0) (hd : o.dst = some d) (hdn : d < c.n) (ho : o.op = .load 22 (.tmp p)) (hc : c.con x = AV.raw (.agg #[.int .u32 p0, .int .u32 p1, .int .u32 p2, .int .u32 p3, .int .u32 p4])) (hty : c.ty d = AV.raw (.int .u32 p0)) : StepOk c Q o [p] [2 * x + 1] [] := by
  refine st_load hp hd hdn fun F V a w g cs T e hb hs hcon => ?_
  rw [hc] at hcon
  have hcs : cs = #[.int .u32 p0, .int .u32 p1, .int .u32 p2, .int .u32 p3, .int .u32 p4] := by
    have : (Value.agg cs) = .agg #[.int .u32 p0, .int .u32 p1, .int .u32 p2, .int .u32 p3, .int .u32 p4] := hcon
    simpa using this
  subst hcs
  have hv : VB w g T #[.int .u32 p0, .int .u32 p1, .int .u32 p2, .int .u32 p3, .int .u32 p4] := hb
  have h0 : w.cell? ⟨g, 0, none⟩ = some (.int .u32 p0) := hv.cell 0
  refine ⟨_, ?_, by rw [hty]; exact rfl⟩
  clear hb hcon hs
  rw [hP]; unfold execOp; simp only [ho]; generalize a.eval = ev at *; rw [e]; go_simp
theorem st_fieldPlan1 {c : Cx} (hP : c.P = Try.prog) {Q : Exit → Act → World → Prop} {o : Oper} {d p x : Nat} (hp : c.ty p = AV.ptr x 0) (hd : o.dst = some d) (hdn : d < c.n) (ho : o.op = .fieldAddr 32 (.tmp p) 1) (hty : c.ty d = AV.ptr x 1) : StepOk c Q o [p] [] [] := by
  refine st_field hp hd hdn hty fun a w g e => ?_
  rw [hP]; unfold execOp; simp only [ho]; generalize a.eval = ev at *; rw [e]; go_simp
theorem st_loadPlan1 {c : Cx} (hP : c.P = Try.prog) {Q : Exit → Act → World → Prop} {o : Oper} {d p x : Nat} {p0 p1 p2 p3 p4 : Int} (hp : c.ty p = AV.ptr x 1) (hd : o.dst = some d) (hdn : d < c.n) (ho : o.op = .load 22 (.tmp p)) (hc : c.con x = AV.raw (.agg #[.int .u32 p0, .int .u32 p1, .int .u32 p2, .int .u32 p3, .int .u32 p4])) (hty : c.ty d = AV.raw (.int .u32 p1)) : StepOk c Q o [p] [2 * x + 1] [] := by
  refine st_load hp hd hdn fun F V a w g cs T e hb hs hcon => ?_
  rw [hc] at hcon
  have hcs : cs = #[.int .u32 p0, .int .u32 p1, .int .u32 p2, .int .u32 p3, .int .u32 p4] := by
    have : (Value.agg cs) = .agg #[.int .u32 p0, .int .u32 p1, .int .u32 p2, .int .u32 p3, .int .u32 p4] := hcon
    simpa using this
  subst hcs
  have hv : VB w g T #[.int .u32 p0, .int .u32 p1, .int .u32 p2, .int .u32 p3, .int .u32 p4] := hb
  have h0 : w.cell? ⟨g, 1, none⟩ = some (.int .u32 p1) := hv.cell 1
  refine ⟨_, ?_, by rw [hty]; exact rfl⟩
  clear hb hcon hs
  rw [hP]; unfold execOp; simp only [ho]; generalize a.eval = ev at *; rw [e]; go_simp
theorem st_fieldPlan2 {c : Cx} (hP : c.P = Try.prog) {Q : Exit → Act → World → Prop} {o : Oper} {d p x : Nat} (hp : c.ty p = AV.ptr x 0) (hd : o.dst = some d) (hdn : d < c.n) (ho : o.op = .fieldAddr 32 (.tmp p) 2) (hty : c.ty d = AV.ptr x 2) : StepOk c Q o [p] [] [] := by
  refine st_field hp hd hdn hty fun a w g e => ?_
  rw [hP]; unfold execOp; simp only [ho]; generalize a.eval = ev at *; rw [e]; go_simp
theorem st_loadPlan2 {c : Cx} (hP : c.P = Try.prog) {Q : Exit → Act → World → Prop} {o : Oper} {d p x : Nat} {p0 p1 p2 p3 p4 : Int} (hp : c.ty p = AV.ptr x 2) (hd : o.dst = some d) (hdn : d < c.n) (ho : o.op = .load 22 (.tmp p)) (hc : c.con x = AV.raw (.agg #[.int .u32 p0, .int .u32 p1, .int .u32 p2, .int .u32 p3, .int .u32 p4])) (hty : c.ty d = AV.raw (.int .u32 p2)) : StepOk c Q o [p] [2 * x + 1] [] := by
  refine st_load hp hd hdn fun F V a w g cs T e hb hs hcon => ?_
  rw [hc] at hcon
  have hcs : cs = #[.int .u32 p0, .int .u32 p1, .int .u32 p2, .int .u32 p3, .int .u32 p4] := by
    have : (Value.agg cs) = .agg #[.int .u32 p0, .int .u32 p1, .int .u32 p2, .int .u32 p3, .int .u32 p4] := hcon
    simpa using this
  subst hcs
  have hv : VB w g T #[.int .u32 p0, .int .u32 p1, .int .u32 p2, .int .u32 p3, .int .u32 p4] := hb
  have h0 : w.cell? ⟨g, 2, none⟩ = some (.int .u32 p2) := hv.cell 2
  refine ⟨_, ?_, by rw [hty]; exact rfl⟩
  clear hb hcon hs
  rw [hP]; unfold execOp; simp only [ho]; generalize a.eval = ev at *; rw [e]; go_simp
theorem st_fieldPlan3 {c : Cx} (hP : c.P = Try.prog) {Q : Exit → Act → World → Prop} {o : Oper} {d p x : Nat} (hp : c.ty p = AV.ptr x 0) (hd : o.dst = some d) (hdn : d < c.n) (ho : o.op = .fieldAddr 32 (.tmp p) 3) (hty : c.ty d = AV.ptr x 3) : StepOk c Q o [p] [] [] := by
  refine st_field hp hd hdn hty fun a w g e => ?_
  rw [hP]; unfold execOp; simp only [ho]; generalize a.eval = ev at *; rw [e]; go_simp
theorem st_loadPlan3 {c : Cx} (hP : c.P = Try.prog) {Q : Exit → Act → World → Prop} {o : Oper} {d p x : Nat} {p0 p1 p2 p3 p4 : Int} (hp : c.ty p = AV.ptr x 3) (hd : o.dst = some d) (hdn : d < c.n) (ho : o.op = .load 22 (.tmp p)) (hc : c.con x = AV.raw (.agg #[.int .u32 p0, .int .u32 p1, .int .u32 p2, .int .u32 p3, .int .u32 p4])) (hty : c.ty d = AV.raw (.int .u32 p3)) : StepOk c Q o [p] [2 * x + 1] [] := by
  refine st_load hp hd hdn fun F V a w g cs T e hb hs hcon => ?_
  rw [hc] at hcon
  have hcs : cs = #[.int .u32 p0, .int .u32 p1, .int .u32 p2, .int .u32 p3, .int .u32 p4] := by
    have : (Value.agg cs) = .agg #[.int .u32 p0, .int .u32 p1, .int .u32 p2, .int .u32 p3, .int .u32 p4] := hcon
    simpa using this
  subst hcs
  have hv : VB w g T #[.int .u32 p0, .int .u32 p1, .int .u32 p2, .int .u32 p3, .int .u32 p4] := hb
  have h0 : w.cell? ⟨g, 3, none⟩ = some (.int .u32 p3) := hv.cell 3
  refine ⟨_, ?_, by rw [hty]; exact rfl⟩
  clear hb hcon hs
  rw [hP]; unfold execOp; simp only [ho]; generalize a.eval = ev at *; rw [e]; go_simp
theorem st_fieldPlan4 {c : Cx} (hP : c.P = Try.prog) {Q : Exit → Act → World → Prop} {o : Oper} {d p x : Nat} (hp : c.ty p = AV.ptr x 0) (hd : o.dst = some d) (hdn : d < c.n) (ho : o.op = .fieldAddr 32 (.tmp p) 4) (hty : c.ty d = AV.ptr x 4) : StepOk c Q o [p] [] [] := by
  refine st_field hp hd hdn hty fun a w g e => ?_
  rw [hP]; unfold execOp; simp only [ho]; generalize a.eval = ev at *; rw [e]; go_simp
theorem st_loadPlan4 {c : Cx} (hP : c.P = Try.prog) {Q : Exit → Act → World → Prop} {o : Oper} {d p x : Nat} {p0 p1 p2 p3 p4 : Int} (hp : c.ty p = AV.ptr x 4) (hd : o.dst = some d) (hdn : d < c.n) (ho : o.op = .load 22 (.tmp p)) (hc : c.con x = AV.raw (.agg #[.int .u32 p0, .int .u32 p1, .int .u32 p2, .int .u32 p3, .int .u32 p4])) (hty : c.ty d = AV.raw (.int .u32 p4)) : StepOk c Q o [p] [2 * x + 1] [] := by
  refine st_load hp hd hdn fun F V a w g cs T e hb hs hcon => ?_
  rw [hc] at hcon
  have hcs : cs = #[.int .u32 p0, .int .u32 p1, .int .u32 p2, .int .u32 p3, .int .u32 p4] := by
    have : (Value.agg cs) = .agg #[.int .u32 p0, .int .u32 p1, .int .u32 p2, .int .u32 p3, .int .u32 p4] := hcon
    simpa using this
  subst hcs
  have hv : VB w g T #[.int .u32 p0, .int .u32 p1, .int .u32 p2, .int .u32 p3, .int .u32 p4] := hb
  have h0 : w.cell? ⟨g, 4, none⟩ = some (.int .u32 p4) := hv.cell 4
  refine ⟨_, ?_, by rw [hty]; exact rfl⟩
  clear hb hcon hs
  rw [hP]; unfold execOp; simp only [ho]; generalize a.eval = ev at *; rw [e]; go_simp

end Go.Proofs.Ytgohnekaolgblaa
