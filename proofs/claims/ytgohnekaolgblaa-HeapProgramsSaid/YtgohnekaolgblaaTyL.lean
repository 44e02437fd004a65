/- The kinds of slots of heap's makers of programs, and one law an operation (printed by wip/gen_lotyp.py). -/
import Derived.Test.YtgohnekaolgblaaLoB
import Derived.Test.YtgohnekaolgblaaTyp
namespace Go.Proofs.Ytgohnekaolgblaa
open Go.RowKit

theorem Grow.ex {F F' : Nat → Prop} {V V' : Nat → Option Nat} {w w' : World} (h : Grow F V w F' V' w') {t : Ex} {v : Value} (k : Ex.at F w t v) : Ex.at F' w' t v := Ex.at_keep h.size h.mem h.cell t v k
theorem Grow.exl {F F' : Nat → Prop} {V V' : Nat → Option Nat} {w w' : World} (h : Grow F V w F' V' w') {t : List Ex} {v : Value} (k : ExL F w t v) : ExL F' w' t v := ExL.keep h.size h.mem h.cell k
theorem Grow.lo {F F' : Nat → Prop} {V V' : Nat → Option Nat} {w w' : World} (h : Grow F V w F' V' w') {t : Lo} {v : Value} (k : Lo.at F w t v) : Lo.at F' w' t v := Lo.at_keep h.size h.mem h.cell t v k
theorem Grow.lol {F F' : Nat → Prop} {V V' : Nat → Option Nat} {w w' : World} (h : Grow F V w F' V' w') {t : List Lo} {v : Value} (k : LoL F w t v) : LoL F' w' t v := LoL.keep h.size h.mem h.cell k
theorem FnAt.keep {F F' : Nat → Prop} {V V' : Nat → Option Nat} {w w' : World} (h : Grow F V w F' V' w') {p n : Int} {l : List Lo} {v : Value} (k : FnAt F w p n l v) : FnAt F' w' p n l v := let ⟨u, e, k⟩ := k; ⟨u, e, h.lol k⟩
def AV.ex (t : Ex) : AV := ⟨fun F _ w v => Ex.at F w t v, fun h _ k => h.ex k⟩
def AV.exl (t : List Ex) : AV := ⟨fun F _ w v => ExL F w t v, fun h _ k => h.exl k⟩
def AV.lo (t : Lo) : AV := ⟨fun F _ w v => Lo.at F w t v, fun h _ k => h.lo k⟩
def AV.lol (t : List Lo) : AV := ⟨fun F _ w v => LoL F w t v, fun h _ k => h.lol k⟩
def AV.fn (p n : Int) (l : List Lo) : AV := ⟨fun F _ w v => FnAt F w p n l v, fun h _ k => k.keep h⟩
abbrev AV.i (n : Int) : AV := AV.raw (.int .i64 n)

/-- The set for a call's contract, and back. -/
abbrev withNew (F : Nat → Prop) (w : World) : Nat → Prop := fun b => F b ∨ w.heap.size ≤ b
abbrev grownTo (F : Nat → Prop) (w w' : World) : Nat → Prop := fun b => F b ∨ (w.heap.size ≤ b ∧ b < w'.heap.size)
theorem New.withNew (F : Nat → Prop) (w : World) : New (withNew F w) w := fun _ hb => .inr hb
theorem Ex.at.inn {F : Nat → Prop} {w : World} {t : Ex} {v : Value} (h : Ex.at F w t v) : Ex.at (withNew F w) w t v := h.mono fun _ _ h => .inl h
theorem ExL.inn {F : Nat → Prop} {w : World} {t : List Ex} {v : Value} (h : ExL F w t v) : ExL (withNew F w) w t v := h.mono fun _ _ h => .inl h
theorem Lo.at.inn {F : Nat → Prop} {w : World} {t : Lo} {v : Value} (h : Lo.at F w t v) : Lo.at (withNew F w) w t v := h.mono fun _ _ h => .inl h
theorem LoL.inn {F : Nat → Prop} {w : World} {t : List Lo} {v : Value} (h : LoL F w t v) : LoL (withNew F w) w t v := h.mono fun _ _ h => .inl h
theorem Ex.at.outt {F : Nat → Prop} {w w' : World} {t : Ex} {v : Value} (h : Ex.at (withNew F w) w' t v) : Ex.at (grownTo F w w') w' t v := h.mono fun _ hb h => h.imp id fun h => ⟨h, hb⟩
theorem ExL.outt {F : Nat → Prop} {w w' : World} {t : List Ex} {v : Value} (h : ExL (withNew F w) w' t v) : ExL (grownTo F w w') w' t v := h.mono fun _ hb h => h.imp id fun h => ⟨h, hb⟩
theorem Lo.at.outt {F : Nat → Prop} {w w' : World} {t : Lo} {v : Value} (h : Lo.at (withNew F w) w' t v) : Lo.at (grownTo F w w') w' t v := h.mono fun _ hb h => h.imp id fun h => ⟨h, hb⟩
theorem LoL.outt {F : Nat → Prop} {w w' : World} {t : List Lo} {v : Value} (h : LoL (withNew F w) w' t v) : LoL (grownTo F w w') w' t v := h.mono fun _ hb h => h.imp id fun h => ⟨h, hb⟩

/-- A call of a function that is known. -/
theorem run_call {P : Program} {o : Oper} {a : Act} {w : World} {f : Nat} {args : Array Operand} {tys : Array TypeId} {fn : Func} (hf : P.funcs[f]? = some fn) (hn : (fn.name == "runtime.NumGoroutine") = false) (hb : fn.body.isNone = false)
    (ho : o.op = .call { callee := .value (.func f), args := args, argTypes := tys }) : (execOp a.eval o).run P w = .ok (.enter f (args.map a.eval)) w := by
  unfold execOp
  simp only [ho, resolve]
  have he : a.eval (.func f) = .func (.func f) #[] #[] := rfl
  have h1 : fn.name ≠ "runtime.NumGoroutine" := by simpa using hn
  have h2 : ¬ fn.body = none := by intro h; simp [h] at hb
  rw [he]
  simp [Deferred.ofValue, invoke, callFunc, hf, h1, h2, go_sem]

theorem st_call {c : Cx} {Q : Exit → Act → World → Prop} {o : Oper} {ut : List Nat} {d f : Nat} {args : Array Operand} {tys : Array TypeId} {fn : Func} (hN : ∀ b, c.w0.heap.size ≤ b → c.S b)
    (hf : c.P.funcs[f]? = some fn) (hn : (fn.name == "runtime.NumGoroutine") = false) (hb : fn.body.isNone = false) (hd : o.dst = some d) (hdn : d < c.n)
    (ho : o.op = .call { callee := .value (.func f), args := args, argTypes := tys })
    (hcall : ∀ F V Dt Dv a w, TS c F V Dt Dv a w → (∀ t ∈ ut, Dt t) → Calls c.P f (args.map a.eval) w fun e w' => ∃ v, e = .returned v ∧ (c.ty d).den (grownTo F w w') V w' v ∧ Below w.heap.size w w') : StepOk c Q o ut [] [] := by
  refine step_call hN fun F V Dt Dv a w h ht _ => ⟨f, args.map a.eval, run_call hf hn hb ho, (hcall F V Dt Dv a w h ht).mono ?_⟩
  rintro e w' ⟨v, rfl, h1, h2⟩
  exact ⟨v, rfl, h2, fun d' hd' => by rw [hd] at hd'; simp only [Option.some.injEq] at hd'; subst hd'; exact ⟨hdn, h1⟩⟩

theorem mk_num {c : Cx} (hP : c.P = Try.prog) (hN : ∀ b, c.w0.heap.size ≤ b → c.S b) {Q : Exit → Act → World → Prop} {o : Oper} {d : Nat} {tys : Array TypeId} {n0 : Int} (hd : o.dst = some d) (hdn : d < c.n)
    (ho : o.op = .call { callee := .value (.func 90), args := #[.const (.int .i64 n0)], argTypes := tys }) (hty : c.ty d = AV.ex (.mk 1 n0 [])) : StepOk c Q o [] [] [] := by
  refine st_call hN (by rw [hP]; exact Try.func90) (by kernel_rfl) (by kernel_rfl) hd hdn ho fun F V Dt Dv a w h ht => ?_
  have e : (#[.const (.int .i64 n0)] : Array Operand).map a.eval = #[.int .i64 n0] := by simp [Act.eval]
  rw [e, hP, hty]
  refine (loNum (withNew F w) n0 w (New.withNew F w) ).mono ?_
  rintro _ w' ⟨v, rfl, hv, hb⟩
  exact ⟨v, rfl, hv.outt, hb⟩

theorem mk_local {c : Cx} (hP : c.P = Try.prog) (hN : ∀ b, c.w0.heap.size ≤ b → c.S b) {Q : Exit → Act → World → Prop} {o : Oper} {d : Nat} {tys : Array TypeId} {n0 : Int} (hd : o.dst = some d) (hdn : d < c.n)
    (ho : o.op = .call { callee := .value (.func 86), args := #[.const (.int .i64 n0)], argTypes := tys }) (hty : c.ty d = AV.ex (.mk 2 n0 [])) : StepOk c Q o [] [] [] := by
  refine st_call hN (by rw [hP]; exact Try.func86) (by kernel_rfl) (by kernel_rfl) hd hdn ho fun F V Dt Dv a w h ht => ?_
  have e : (#[.const (.int .i64 n0)] : Array Operand).map a.eval = #[.int .i64 n0] := by simp [Act.eval]
  rw [e, hP, hty]
  refine (loLocal (withNew F w) n0 w (New.withNew F w) ).mono ?_
  rintro _ w' ⟨v, rfl, hv, hb⟩
  exact ⟨v, rfl, hv.outt, hb⟩

theorem mk_global {c : Cx} (hP : c.P = Try.prog) (hN : ∀ b, c.w0.heap.size ≤ b → c.S b) {Q : Exit → Act → World → Prop} {o : Oper} {d : Nat} {tys : Array TypeId} {n0 : Int} (hd : o.dst = some d) (hdn : d < c.n)
    (ho : o.op = .call { callee := .value (.func 93), args := #[.const (.int .i64 n0)], argTypes := tys }) (hty : c.ty d = AV.ex (.mk 3 n0 [])) : StepOk c Q o [] [] [] := by
  refine st_call hN (by rw [hP]; exact Try.func93) (by kernel_rfl) (by kernel_rfl) hd hdn ho fun F V Dt Dv a w h ht => ?_
  have e : (#[.const (.int .i64 n0)] : Array Operand).map a.eval = #[.int .i64 n0] := by simp [Act.eval]
  rw [e, hP, hty]
  refine (loGlobal (withNew F w) n0 w (New.withNew F w) ).mono ?_
  rintro _ w' ⟨v, rfl, hv, hb⟩
  exact ⟨v, rfl, hv.outt, hb⟩

theorem mk_load {c : Cx} (hP : c.P = Try.prog) (hN : ∀ b, c.w0.heap.size ≤ b → c.S b) {Q : Exit → Act → World → Prop} {o : Oper} {d : Nat} {tys : Array TypeId} {s0 : Ex} {x0 : Nat} (hx0 : c.ty x0 = AV.ex s0) (hd : o.dst = some d) (hdn : d < c.n)
    (ho : o.op = .call { callee := .value (.func 85), args := #[.tmp x0], argTypes := tys }) (hty : c.ty d = AV.ex (.mk 4 0 [s0])) : StepOk c Q o [x0] [] [] := by
  refine st_call hN (by rw [hP]; exact Try.func85) (by kernel_rfl) (by kernel_rfl) hd hdn ho fun F V Dt Dv a w h ht => ?_
  have k0 : Ex.at F w s0 (a.tmps.getD x0 undef) := by have := h.tmp x0 (ht _ (by simp)); rw [hx0] at this; exact this
  have e : (#[.tmp x0] : Array Operand).map a.eval = #[a.tmps.getD x0 undef] := by simp [Act.eval]
  rw [e, hP, hty]
  refine (loLoad (withNew F w) s0 _ w (New.withNew F w) k0.inn).mono ?_
  rintro _ w' ⟨v, rfl, hv, hb⟩
  exact ⟨v, rfl, hv.outt, hb⟩

theorem mk_not {c : Cx} (hP : c.P = Try.prog) (hN : ∀ b, c.w0.heap.size ≤ b → c.S b) {Q : Exit → Act → World → Prop} {o : Oper} {d : Nat} {tys : Array TypeId} {s0 : Ex} {x0 : Nat} (hx0 : c.ty x0 = AV.ex s0) (hd : o.dst = some d) (hdn : d < c.n)
    (ho : o.op = .call { callee := .value (.func 99), args := #[.tmp x0], argTypes := tys }) (hty : c.ty d = AV.ex (.mk 6 69 [s0])) : StepOk c Q o [x0] [] [] := by
  refine st_call hN (by rw [hP]; exact Try.func99) (by kernel_rfl) (by kernel_rfl) hd hdn ho fun F V Dt Dv a w h ht => ?_
  have k0 : Ex.at F w s0 (a.tmps.getD x0 undef) := by have := h.tmp x0 (ht _ (by simp)); rw [hx0] at this; exact this
  have e : (#[.tmp x0] : Array Operand).map a.eval = #[a.tmps.getD x0 undef] := by simp [Act.eval]
  rw [e, hP, hty]
  refine (loNot (withNew F w) s0 _ w (New.withNew F w) k0.inn).mono ?_
  rintro _ w' ⟨v, rfl, hv, hb⟩
  exact ⟨v, rfl, hv.outt, hb⟩

theorem mk_two {c : Cx} (hP : c.P = Try.prog) (hN : ∀ b, c.w0.heap.size ≤ b → c.S b) {Q : Exit → Act → World → Prop} {o : Oper} {d : Nat} {tys : Array TypeId} {n0 : Int} {s1 : Ex} {x1 : Nat} {s2 : Ex} {x2 : Nat} (hx1 : c.ty x1 = AV.ex s1) (hx2 : c.ty x2 = AV.ex s2) (hd : o.dst = some d) (hdn : d < c.n)
    (ho : o.op = .call { callee := .value (.func 92), args := #[.const (.int .i64 n0), .tmp x1, .tmp x2], argTypes := tys }) (hty : c.ty d = AV.ex (.mk 7 n0 [s1, s2])) : StepOk c Q o [x1, x2] [] [] := by
  refine st_call hN (by rw [hP]; exact Try.func92) (by kernel_rfl) (by kernel_rfl) hd hdn ho fun F V Dt Dv a w h ht => ?_
  have k1 : Ex.at F w s1 (a.tmps.getD x1 undef) := by have := h.tmp x1 (ht _ (by simp)); rw [hx1] at this; exact this
  have k2 : Ex.at F w s2 (a.tmps.getD x2 undef) := by have := h.tmp x2 (ht _ (by simp)); rw [hx2] at this; exact this
  have e : (#[.const (.int .i64 n0), .tmp x1, .tmp x2] : Array Operand).map a.eval = #[.int .i64 n0, a.tmps.getD x1 undef, a.tmps.getD x2 undef] := by simp [Act.eval]
  rw [e, hP, hty]
  refine (loTwo (withNew F w) n0 s1 _ s2 _ w (New.withNew F w) k1.inn k2.inn).mono ?_
  rintro _ w' ⟨v, rfl, hv, hb⟩
  exact ⟨v, rfl, hv.outt, hb⟩

theorem mk_add {c : Cx} (hP : c.P = Try.prog) (hN : ∀ b, c.w0.heap.size ≤ b → c.S b) {Q : Exit → Act → World → Prop} {o : Oper} {d : Nat} {tys : Array TypeId} {s0 : Ex} {x0 : Nat} {s1 : Ex} {x1 : Nat} (hx0 : c.ty x0 = AV.ex s0) (hx1 : c.ty x1 = AV.ex s1) (hd : o.dst = some d) (hdn : d < c.n)
    (ho : o.op = .call { callee := .value (.func 89), args := #[.tmp x0, .tmp x1], argTypes := tys }) (hty : c.ty d = AV.ex (.mk 7 106 [s0, s1])) : StepOk c Q o [x0, x1] [] [] := by
  refine st_call hN (by rw [hP]; exact Try.func89) (by kernel_rfl) (by kernel_rfl) hd hdn ho fun F V Dt Dv a w h ht => ?_
  have k0 : Ex.at F w s0 (a.tmps.getD x0 undef) := by have := h.tmp x0 (ht _ (by simp)); rw [hx0] at this; exact this
  have k1 : Ex.at F w s1 (a.tmps.getD x1 undef) := by have := h.tmp x1 (ht _ (by simp)); rw [hx1] at this; exact this
  have e : (#[.tmp x0, .tmp x1] : Array Operand).map a.eval = #[a.tmps.getD x0 undef, a.tmps.getD x1 undef] := by simp [Act.eval]
  rw [e, hP, hty]
  refine (loAdd (withNew F w) s0 _ s1 _ w (New.withNew F w) k0.inn k1.inn).mono ?_
  rintro _ w' ⟨v, rfl, hv, hb⟩
  exact ⟨v, rfl, hv.outt, hb⟩

theorem mk_set {c : Cx} (hP : c.P = Try.prog) (hN : ∀ b, c.w0.heap.size ≤ b → c.S b) {Q : Exit → Act → World → Prop} {o : Oper} {d : Nat} {tys : Array TypeId} {n0 : Int} {s1 : Ex} {x1 : Nat} (hx1 : c.ty x1 = AV.ex s1) (hd : o.dst = some d) (hdn : d < c.n)
    (ho : o.op = .call { callee := .value (.func 88), args := #[.const (.int .i64 n0), .tmp x1], argTypes := tys }) (hty : c.ty d = AV.lo (.mk 1 n0 0 [s1] [])) : StepOk c Q o [x1] [] [] := by
  refine st_call hN (by rw [hP]; exact Try.func88) (by kernel_rfl) (by kernel_rfl) hd hdn ho fun F V Dt Dv a w h ht => ?_
  have k1 : Ex.at F w s1 (a.tmps.getD x1 undef) := by have := h.tmp x1 (ht _ (by simp)); rw [hx1] at this; exact this
  have e : (#[.const (.int .i64 n0), .tmp x1] : Array Operand).map a.eval = #[.int .i64 n0, a.tmps.getD x1 undef] := by simp [Act.eval]
  rw [e, hP, hty]
  refine (loSet (withNew F w) n0 s1 _ w (New.withNew F w) k1.inn).mono ?_
  rintro _ w' ⟨v, rfl, hv, hb⟩
  exact ⟨v, rfl, hv.outt, hb⟩

theorem mk_put {c : Cx} (hP : c.P = Try.prog) (hN : ∀ b, c.w0.heap.size ≤ b → c.S b) {Q : Exit → Act → World → Prop} {o : Oper} {d : Nat} {tys : Array TypeId} {n0 : Int} {s1 : Ex} {x1 : Nat} (hx1 : c.ty x1 = AV.ex s1) (hd : o.dst = some d) (hdn : d < c.n)
    (ho : o.op = .call { callee := .value (.func 95), args := #[.const (.int .i64 n0), .tmp x1], argTypes := tys }) (hty : c.ty d = AV.lo (.mk 2 n0 0 [s1] [])) : StepOk c Q o [x1] [] [] := by
  refine st_call hN (by rw [hP]; exact Try.func95) (by kernel_rfl) (by kernel_rfl) hd hdn ho fun F V Dt Dv a w h ht => ?_
  have k1 : Ex.at F w s1 (a.tmps.getD x1 undef) := by have := h.tmp x1 (ht _ (by simp)); rw [hx1] at this; exact this
  have e : (#[.const (.int .i64 n0), .tmp x1] : Array Operand).map a.eval = #[.int .i64 n0, a.tmps.getD x1 undef] := by simp [Act.eval]
  rw [e, hP, hty]
  refine (loPut (withNew F w) n0 s1 _ w (New.withNew F w) k1.inn).mono ?_
  rintro _ w' ⟨v, rfl, hv, hb⟩
  exact ⟨v, rfl, hv.outt, hb⟩

theorem mk_store {c : Cx} (hP : c.P = Try.prog) (hN : ∀ b, c.w0.heap.size ≤ b → c.S b) {Q : Exit → Act → World → Prop} {o : Oper} {d : Nat} {tys : Array TypeId} {s0 : Ex} {x0 : Nat} {s1 : Ex} {x1 : Nat} (hx0 : c.ty x0 = AV.ex s0) (hx1 : c.ty x1 = AV.ex s1) (hd : o.dst = some d) (hdn : d < c.n)
    (ho : o.op = .call { callee := .value (.func 87), args := #[.tmp x0, .tmp x1], argTypes := tys }) (hty : c.ty d = AV.lo (.mk 3 0 0 [s0, s1] [])) : StepOk c Q o [x0, x1] [] [] := by
  refine st_call hN (by rw [hP]; exact Try.func87) (by kernel_rfl) (by kernel_rfl) hd hdn ho fun F V Dt Dv a w h ht => ?_
  have k0 : Ex.at F w s0 (a.tmps.getD x0 undef) := by have := h.tmp x0 (ht _ (by simp)); rw [hx0] at this; exact this
  have k1 : Ex.at F w s1 (a.tmps.getD x1 undef) := by have := h.tmp x1 (ht _ (by simp)); rw [hx1] at this; exact this
  have e : (#[.tmp x0, .tmp x1] : Array Operand).map a.eval = #[a.tmps.getD x0 undef, a.tmps.getD x1 undef] := by simp [Act.eval]
  rw [e, hP, hty]
  refine (loStore (withNew F w) s0 _ s1 _ w (New.withNew F w) k0.inn k1.inn).mono ?_
  rintro _ w' ⟨v, rfl, hv, hb⟩
  exact ⟨v, rfl, hv.outt, hb⟩

theorem mk_tell {c : Cx} (hP : c.P = Try.prog) (hN : ∀ b, c.w0.heap.size ≤ b → c.S b) {Q : Exit → Act → World → Prop} {o : Oper} {d : Nat} {tys : Array TypeId} {s0 : Ex} {x0 : Nat} (hx0 : c.ty x0 = AV.ex s0) (hd : o.dst = some d) (hdn : d < c.n)
    (ho : o.op = .call { callee := .value (.func 98), args := #[.tmp x0], argTypes := tys }) (hty : c.ty d = AV.lo (.mk 9 0 0 [s0] [])) : StepOk c Q o [x0] [] [] := by
  refine st_call hN (by rw [hP]; exact Try.func98) (by kernel_rfl) (by kernel_rfl) hd hdn ho fun F V Dt Dv a w h ht => ?_
  have k0 : Ex.at F w s0 (a.tmps.getD x0 undef) := by have := h.tmp x0 (ht _ (by simp)); rw [hx0] at this; exact this
  have e : (#[.tmp x0] : Array Operand).map a.eval = #[a.tmps.getD x0 undef] := by simp [Act.eval]
  rw [e, hP, hty]
  refine (loTell (withNew F w) s0 _ w (New.withNew F w) k0.inn).mono ?_
  rintro _ w' ⟨v, rfl, hv, hb⟩
  exact ⟨v, rfl, hv.outt, hb⟩

theorem mk_when {c : Cx} (hP : c.P = Try.prog) (hN : ∀ b, c.w0.heap.size ≤ b → c.S b) {Q : Exit → Act → World → Prop} {o : Oper} {d : Nat} {tys : Array TypeId} {s0 : Ex} {x0 : Nat} {s1 : List Lo} {x1 : Nat} (hx0 : c.ty x0 = AV.ex s0) (hx1 : c.ty x1 = AV.lol s1) (hd : o.dst = some d) (hdn : d < c.n)
    (ho : o.op = .call { callee := .value (.func 91), args := #[.tmp x0, .tmp x1], argTypes := tys }) (hty : c.ty d = AV.lo (.mk 5 0 0 [s0] s1)) : StepOk c Q o [x0, x1] [] [] := by
  refine st_call hN (by rw [hP]; exact Try.func91) (by kernel_rfl) (by kernel_rfl) hd hdn ho fun F V Dt Dv a w h ht => ?_
  have k0 : Ex.at F w s0 (a.tmps.getD x0 undef) := by have := h.tmp x0 (ht _ (by simp)); rw [hx0] at this; exact this
  have k1 : LoL F w s1 (a.tmps.getD x1 undef) := by have := h.tmp x1 (ht _ (by simp)); rw [hx1] at this; exact this
  have e : (#[.tmp x0, .tmp x1] : Array Operand).map a.eval = #[a.tmps.getD x0 undef, a.tmps.getD x1 undef] := by simp [Act.eval]
  rw [e, hP, hty]
  refine (loWhen (withNew F w) s0 _ s1 _ w (New.withNew F w) k0.inn k1.inn).mono ?_
  rintro _ w' ⟨v, rfl, hv, hb⟩
  exact ⟨v, rfl, hv.outt, hb⟩

theorem mk_loop {c : Cx} (hP : c.P = Try.prog) (hN : ∀ b, c.w0.heap.size ≤ b → c.S b) {Q : Exit → Act → World → Prop} {o : Oper} {d : Nat} {tys : Array TypeId} {s0 : List Lo} {x0 : Nat} (hx0 : c.ty x0 = AV.lol s0) (hd : o.dst = some d) (hdn : d < c.n)
    (ho : o.op = .call { callee := .value (.func 96), args := #[.tmp x0], argTypes := tys }) (hty : c.ty d = AV.lo (.mk 6 0 0 [] s0)) : StepOk c Q o [x0] [] [] := by
  refine st_call hN (by rw [hP]; exact Try.func96) (by kernel_rfl) (by kernel_rfl) hd hdn ho fun F V Dt Dv a w h ht => ?_
  have k0 : LoL F w s0 (a.tmps.getD x0 undef) := by have := h.tmp x0 (ht _ (by simp)); rw [hx0] at this; exact this
  have e : (#[.tmp x0] : Array Operand).map a.eval = #[a.tmps.getD x0 undef] := by simp [Act.eval]
  rw [e, hP, hty]
  refine (loLoop (withNew F w) s0 _ w (New.withNew F w) k0.inn).mono ?_
  rintro _ w' ⟨v, rfl, hv, hb⟩
  exact ⟨v, rfl, hv.outt, hb⟩

theorem mk_leave {c : Cx} (hP : c.P = Try.prog) (hN : ∀ b, c.w0.heap.size ≤ b → c.S b) {Q : Exit → Act → World → Prop} {o : Oper} {d : Nat} {tys : Array TypeId} (hd : o.dst = some d) (hdn : d < c.n)
    (ho : o.op = .call { callee := .value (.func 94), args := #[], argTypes := tys }) (hty : c.ty d = AV.lo (.mk 7 0 0 [] [])) : StepOk c Q o [] [] [] := by
  refine st_call hN (by rw [hP]; exact Try.func94) (by kernel_rfl) (by kernel_rfl) hd hdn ho fun F V Dt Dv a w h ht => ?_
  have e : (#[] : Array Operand).map a.eval = #[] := by simp
  rw [e, hP, hty]
  refine (loLeave (withNew F w)  w (New.withNew F w) ).mono ?_
  rintro _ w' ⟨v, rfl, hv, hb⟩
  exact ⟨v, rfl, hv.outt, hb⟩

theorem mk_call {c : Cx} (hP : c.P = Try.prog) (hN : ∀ b, c.w0.heap.size ≤ b → c.S b) {Q : Exit → Act → World → Prop} {o : Oper} {d : Nat} {tys : Array TypeId} {n0 : Int} {n1 : Int} {s2 : List Ex} {x2 : Nat} (hx2 : c.ty x2 = AV.exl s2) (hd : o.dst = some d) (hdn : d < c.n)
    (ho : o.op = .call { callee := .value (.func 84), args := #[.const (.int .i64 n0), .const (.int .i64 n1), .tmp x2], argTypes := tys }) (hty : c.ty d = AV.lo (.mk 10 n0 n1 s2 [])) : StepOk c Q o [x2] [] [] := by
  refine st_call hN (by rw [hP]; exact Try.func84) (by kernel_rfl) (by kernel_rfl) hd hdn ho fun F V Dt Dv a w h ht => ?_
  have k2 : ExL F w s2 (a.tmps.getD x2 undef) := by have := h.tmp x2 (ht _ (by simp)); rw [hx2] at this; exact this
  have e : (#[.const (.int .i64 n0), .const (.int .i64 n1), .tmp x2] : Array Operand).map a.eval = #[.int .i64 n0, .int .i64 n1, a.tmps.getD x2 undef] := by simp [Act.eval]
  rw [e, hP, hty]
  refine (loCall (withNew F w) n0 n1 s2 _ w (New.withNew F w) k2.inn).mono ?_
  rintro _ w' ⟨v, rfl, hv, hb⟩
  exact ⟨v, rfl, hv.outt, hb⟩

theorem mk_numJ {c : Cx} (hP : c.P = Try.prog) (hN : ∀ b, c.w0.heap.size ≤ b → c.S b) {Q : Exit → Act → World → Prop} {o : Oper} {d : Nat} {tys : Array TypeId} {n0 : Int} {x0 : Nat} (hx0 : c.ty x0 = AV.i n0) (hd : o.dst = some d) (hdn : d < c.n)
    (ho : o.op = .call { callee := .value (.func 90), args := #[.tmp x0], argTypes := tys }) (hty : c.ty d = AV.ex (.mk 1 n0 [])) : StepOk c Q o [x0] [] [] := by
  refine st_call hN (by rw [hP]; exact Try.func90) (by kernel_rfl) (by kernel_rfl) hd hdn ho fun F V Dt Dv a w h ht => ?_
  have k0 : a.tmps.getD x0 undef = .int .i64 n0 := by have := h.tmp x0 (ht _ (by simp)); rw [hx0] at this; exact this
  have e : (#[.tmp x0] : Array Operand).map a.eval = #[.int .i64 n0] := by simp [Act.eval, k0]
  rw [e, hP, hty]
  refine (loNum (withNew F w) n0 w (New.withNew F w) ).mono ?_
  rintro _ w' ⟨v, rfl, hv, hb⟩
  exact ⟨v, rfl, hv.outt, hb⟩

theorem mk_callN {c : Cx} (hP : c.P = Try.prog) (hN : ∀ b, c.w0.heap.size ≤ b → c.S b) {Q : Exit → Act → World → Prop} {o : Oper} {d : Nat} {tys : Array TypeId} {n0 : Int} {n1 : Int} (hd : o.dst = some d) (hdn : d < c.n)
    (ho : o.op = .call { callee := .value (.func 84), args := #[.const (.int .i64 n0), .const (.int .i64 n1), .const (.slice none 0 0)], argTypes := tys }) (hty : c.ty d = AV.lo (.mk 10 n0 n1 [] [])) : StepOk c Q o [] [] [] := by
  refine st_call hN (by rw [hP]; exact Try.func84) (by kernel_rfl) (by kernel_rfl) hd hdn ho fun F V Dt Dv a w h ht => ?_
  have e : (#[.const (.int .i64 n0), .const (.int .i64 n1), .const (.slice none 0 0)] : Array Operand).map a.eval = #[.int .i64 n0, .int .i64 n1, .slice none 0 0] := by simp [Act.eval]
  rw [e, hP, hty]
  refine (loCall (withNew F w) n0 n1 [] _ w (New.withNew F w) (ExL.nil _ _)).mono ?_
  rintro _ w' ⟨v, rfl, hv, hb⟩
  exact ⟨v, rfl, hv.outt, hb⟩


/-- Plain values. -/
theorem st_same {c : Cx} {Q : Exit → Act → World → Prop} {o : Oper} {d x : Nat} (hd : o.dst = some d) (hdn : d < c.n) (ho : o.op = .move (.tmp x) ∨ o.op = .assign (.tmp x)) (hty : c.ty d = c.ty x) : StepOk c Q o [x] [] [] := by
  refine step_read fun F V Dt Dv a w h ht _ => ⟨a.tmps.getD x undef, ?_, fun d' hd' => ?_⟩
  · rcases ho with ho | ho <;> simp [execOp, ho, Act.eval, go_sem]
  · rw [hd] at hd'; simp only [Option.some.injEq] at hd'; subst hd'
    exact ⟨hdn, by rw [hty]; exact h.tmp x (ht _ (by simp))⟩
theorem st_const {c : Cx} {Q : Exit → Act → World → Prop} {o : Oper} {d : Nat} {v : Value} (hd : o.dst = some d) (hdn : d < c.n) (ho : o.op = .move (.const v) ∨ o.op = .assign (.const v)) (hty : c.ty d = AV.raw v) : StepOk c Q o [] [] [] := by
  refine step_read fun F V Dt Dv a w h ht _ => ⟨v, ?_, fun d' hd' => ?_⟩
  · rcases ho with ho | ho <;> simp [execOp, ho, Act.eval, go_sem]
  · rw [hd] at hd'; simp only [Option.some.injEq] at hd'; subst hd'
    exact ⟨hdn, by rw [hty]; exact rfl⟩
/-- A value is made out of values that are known whole. -/
theorem st_raw {c : Cx} {Q : Exit → Act → World → Prop} {o : Oper} {d x : Nat} {u v : Value} (hx : c.ty x = AV.raw u) (hd : o.dst = some d) (hdn : d < c.n) (hty : c.ty d = AV.raw v)
    (hrun : ∀ (a : Act) (w : World), a.eval (.tmp x) = u → (execOp a.eval o).run c.P w = .ok (.value v) w) : StepOk c Q o [x] [] [] := by
  refine step_read fun F V Dt Dv a w h ht _ => ⟨v, ?_, fun d' hd' => ?_⟩
  · refine hrun a w ?_
    have := h.tmp x (ht _ (by simp)); rw [hx] at this; exact this
  · rw [hd] at hd'; simp only [Option.some.injEq] at hd'; subst hd'
    exact ⟨hdn, by rw [hty]; exact rfl⟩
theorem st_field {c : Cx} {Q : Exit → Act → World → Prop} {o : Oper} {d p x f : Nat} (hp : c.ty p = AV.ptr x 0) (hd : o.dst = some d) (hdn : d < c.n) (hty : c.ty d = AV.ptr x f)
    (hrun : ∀ (a : Act) (w : World) (g : Nat), a.eval (.tmp p) = .pointer (some ⟨g, 0, none⟩) → (execOp a.eval o).run c.P w = .ok (.value (.pointer (some ⟨g, f, none⟩))) w) : StepOk c Q o [p] [] [] := by
  refine step_read fun F V Dt Dv a w h ht _ => ?_
  have := h.tmp p (ht _ (by simp)); rw [hp] at this
  obtain ⟨g, hg, e⟩ := this
  refine ⟨_, hrun a w g e, fun d' hd' => ?_⟩
  rw [hd] at hd'; simp only [Option.some.injEq] at hd'; subst hd'
  exact ⟨hdn, by rw [hty]; exact ⟨g, hg, rfl⟩⟩
/-- A variable is read. -/
theorem st_load {c : Cx} {Q : Exit → Act → World → Prop} {o : Oper} {d p x f : Nat} (hp : c.ty p = AV.ptr x f) (hd : o.dst = some d) (hdn : d < c.n)
    (hrun : ∀ F V (a : Act) (w : World) (g : Nat) (cs : Array Value) (T : TypeId), a.eval (.tmp p) = .pointer (some ⟨g, f, none⟩) → w.heap[g]? = some (.cells cs T (0, 0)) → cs.size = c.len x → (c.con x).den F V w (.agg cs) →
      ∃ v, (execOp a.eval o).run c.P w = .ok (.value v) w ∧ (c.ty d).den F V w v) : StepOk c Q o [p] [2 * x + 1] [] := by
  refine step_read fun F V Dt Dv a w h ht hv => ?_
  have hpp := h.tmp p (ht _ (by simp)); rw [hp] at hpp
  obtain ⟨g, hg, e⟩ := hpp
  obtain ⟨h1, h2, h3, cs, T, h4, h5, h6⟩ := h.vars x g hg
  obtain ⟨v, hr, hv⟩ := hrun F V a w g cs T e h4 h5 (h6 (hv _ (by simp)))
  refine ⟨v, hr, fun d' hd' => ?_⟩
  rw [hd] at hd'; simp only [Option.some.injEq] at hd'; subst hd'
  exact ⟨hdn, hv⟩
/-- A variable of three cells is read whole. -/
theorem st_load3 {c : Cx} {Q : Exit → Act → World → Prop} {o : Oper} {d p x : Nat} (hp : c.ty p = AV.ptr x 0) (hd : o.dst = some d) (hdn : d < c.n) (hl : c.len x = 3) (hty : c.ty d = c.con x)
    (hrun : ∀ (a : Act) (w : World) (g : Nat) (u0 u1 u2 : Value), a.eval (.tmp p) = .pointer (some ⟨g, 0, none⟩) → w.cell? ⟨g, 0, none⟩ = some u0 → w.cell? ⟨g, 1, none⟩ = some u1 → w.cell? ⟨g, 2, none⟩ = some u2 → (execOp a.eval o).run c.P w = .ok (.value (.agg #[u0, u1, u2])) w) :
    StepOk c Q o [p] [2 * x + 1] [] := by
  refine st_load hp hd hdn fun F V a w g cs T he hb hs hc => ?_
  rw [hl] at hs
  obtain ⟨l⟩ := cs
  match l, hs, hb, hc with
  | [u0, u1, u2], _, hb, hc =>
    have hv : VB w g T #[u0, u1, u2] := hb
    exact ⟨_, hrun a w g u0 u1 u2 he hv.c3.1 hv.c3.2.1 hv.c3.2.2, by rw [hty]; exact hc⟩
/-- A variable of three cells is stored. -/
theorem st_store3 {c : Cx} {Q : Exit → Act → World → Prop} {o : Oper} {p s x : Nat} (hp : c.ty p = AV.ptr x 0) (hd : o.dst = none) (hl : c.len x = 3) (hty : c.ty s = c.con x) (hagg : ∀ F V w v, (c.con x).den F V w v → ∃ k n A l c, v = .agg #[.int .i64 k, .int .i64 n, .slice A l c])
    (hrun : ∀ (a : Act) (w : World) (g : Nat) (k n : Int) (A : Option Addr) (l cp : Nat) (v0 v1 v2 : Value), a.eval (.tmp p) = .pointer (some ⟨g, 0, none⟩) → a.eval (.tmp s) = .agg #[.int .i64 k, .int .i64 n, .slice A l cp] → w.cell? ⟨g, 0, none⟩ = some v0 → w.cell? ⟨g, 1, none⟩ = some v1 → w.cell? ⟨g, 2, none⟩ = some v2 →
      w.frozen? ⟨g, 0, none⟩ = false → w.frozen? ⟨g, 1, none⟩ = false → w.frozen? ⟨g, 2, none⟩ = false → (execOp a.eval o).run c.P w = .ok .skip (((w.setCell ⟨g, 0, none⟩ (.int .i64 k)).setCell ⟨g, 1, none⟩ (.int .i64 n)).setCell ⟨g, 2, none⟩ (.slice A l cp))) :
    StepOk c Q o [p, s] [] [2 * x + 1] := by
  refine step_store hd fun F V Dt Dv a w h ht _ => ?_
  have hpp := h.tmp p (ht _ (by simp)); rw [hp] at hpp
  obtain ⟨g, hg, e⟩ := hpp
  have hss := h.tmp s (ht _ (by simp)); rw [hty] at hss
  obtain ⟨k, n, A, l', cp, hu⟩ := hagg _ _ _ _ hss
  refine ⟨g, hg, fun cs T hb hs => ?_⟩
  rw [hl] at hs
  obtain ⟨l⟩ := cs
  match l, hs, hb with
  | [v0, v1, v2], _, hb =>
    have hv : VB w g T #[v0, v1, v2] := hb
    refine ⟨#[.int .i64 k, .int .i64 n, .slice A l' cp], _, hrun a w g k n A l' cp v0 v1 v2 e hu hv.c3.1 hv.c3.2.1 hv.c3.2.2 (hv.free 0) (hv.free 1) (hv.free 2), rfl, rfl, rfl, by simp [World.setCell], hv.set3 _ _ _, fun b hb => ?_, by simp [hl], by rw [← hu]; exact hss⟩
    rw [Below.heap_setCell _ _ _ _ hb, Below.heap_setCell _ _ _ _ hb, Below.heap_setCell _ _ _ _ hb]
theorem ex_agg3 (t : Ex) : ∀ (F : Nat → Prop) (V : Nat → Option Nat) (w : World) (v : Value), (AV.ex t).den F V w v → ∃ k n A l c, v = .agg #[.int .i64 k, .int .i64 n, .slice A l c] := fun F V w v h => by
  obtain ⟨k, n, l⟩ := t
  obtain ⟨A, c, rfl⟩ := Ex.agg h
  exact ⟨_, _, _, _, _, rfl⟩
theorem fn_agg3 (p n : Int) (l : List Lo) : ∀ (F : Nat → Prop) (V : Nat → Option Nat) (w : World) (v : Value), (AV.fn p n l).den F V w v → ∃ k n A l c, v = .agg #[.int .i64 k, .int .i64 n, .slice A l c] := fun F V w v h => by
  obtain ⟨u, rfl, A, c, rfl, _⟩ := h
  exact ⟨_, _, _, _, _, rfl⟩
/-- A list of values in a new block. -/
theorem st_list {c : Cx} {Q : Exit → Act → World → Prop} {o : Oper} {d : Nat} {ut : List Nat} (hN : ∀ b, c.w0.heap.size ≤ b → c.S b) (hd : o.dst = some d) (hdn : d < c.n)
    (hrun : ∀ F V (a : Act) (w : World), (∀ t ∈ ut, (c.ty t).den F V w (a.tmps.getD t undef)) → ∃ cells T n, (execOp a.eval o).run c.P w = .ok (.value (.slice (some ⟨w.heap.size, 0, none⟩) n n)) (w.alloc (.cells cells T)) ∧ (c.ty d).den (grownTo F w (w.alloc (.cells cells T))) V (w.alloc (.cells cells T)) (.slice (some ⟨w.heap.size, 0, none⟩) n n)) : StepOk c Q o ut [] [] := by
  refine step_make hN fun F V Dt Dv a w h ht => ?_
  obtain ⟨cells, T, n, hr, hden⟩ := hrun F V a w fun t hu => h.tmp t (ht t hu)
  refine ⟨_, _, hr, B.alloc (B.refl w) _, fun d' hd' => ?_⟩
  rw [hd] at hd'; simp only [Option.some.injEq] at hd'; subst hd'
  exact ⟨hdn, hden⟩

theorem st_exs1 {c : Cx} (hP : c.P = Try.prog) (hN : ∀ b, c.w0.heap.size ≤ b → c.S b) {Q : Exit → Act → World → Prop} {o : Oper} {d : Nat} {x0 : Nat} {s0 : Ex} (h0 : c.ty x0 = AV.ex s0) (hd : o.dst = some d) (hdn : d < c.n)
    (ho : o.op = .buildSlice 90 1 #[(0, .tmp x0)]) (hty : c.ty d = AV.exl [s0]) : StepOk c Q o [x0] [] [] := by
  refine st_list hN hd hdn fun F V a w h => ?_
  have k0 : Ex.at F w s0 (a.eval (.tmp x0)) := by have := h x0 (by simp); rw [h0] at this; exact this
  generalize a.eval = ev at *
  obtain ⟨p0, q0, l0⟩ := s0; obtain ⟨A0, c0, e0⟩ := Ex.agg k0; rw [e0] at k0
  have hnew : ∀ o, ExV (grownTo F w (w.alloc o)) w [.mk p0 q0 l0] [(.int .i64 p0, .int .i64 q0, .slice A0 l0.length c0)] := fun o => 
    ExV.cons (k0.mono fun _ _ h => .inl h) (ExV.nil _ _)
  refine ⟨#[.int .i64 p0, .int .i64 q0, .slice A0 l0.length c0], 126, 1, ?_, ?_⟩
  · rw [hP]; unfold execOp; simp only [ho, List.map_toArray, List.map_cons, List.map_nil, e0]; clear hnew k0; go_simp
  · rw [hty]; exact ExL.of _ (hnew _) _ _ rfl (by simp [maxLen]) _ rfl (.inr (by simp))

theorem st_exs2 {c : Cx} (hP : c.P = Try.prog) (hN : ∀ b, c.w0.heap.size ≤ b → c.S b) {Q : Exit → Act → World → Prop} {o : Oper} {d : Nat} {x0 : Nat} {s0 : Ex} (h0 : c.ty x0 = AV.ex s0) {x1 : Nat} {s1 : Ex} (h1 : c.ty x1 = AV.ex s1) (hd : o.dst = some d) (hdn : d < c.n)
    (ho : o.op = .buildSlice 90 2 #[(0, .tmp x0), (1, .tmp x1)]) (hty : c.ty d = AV.exl [s0, s1]) : StepOk c Q o [x0, x1] [] [] := by
  refine st_list hN hd hdn fun F V a w h => ?_
  have k0 : Ex.at F w s0 (a.eval (.tmp x0)) := by have := h x0 (by simp); rw [h0] at this; exact this
  have k1 : Ex.at F w s1 (a.eval (.tmp x1)) := by have := h x1 (by simp); rw [h1] at this; exact this
  generalize a.eval = ev at *
  obtain ⟨p0, q0, l0⟩ := s0; obtain ⟨A0, c0, e0⟩ := Ex.agg k0; rw [e0] at k0
  obtain ⟨p1, q1, l1⟩ := s1; obtain ⟨A1, c1, e1⟩ := Ex.agg k1; rw [e1] at k1
  have hnew : ∀ o, ExV (grownTo F w (w.alloc o)) w [.mk p0 q0 l0, .mk p1 q1 l1] [(.int .i64 p0, .int .i64 q0, .slice A0 l0.length c0), (.int .i64 p1, .int .i64 q1, .slice A1 l1.length c1)] := fun o => 
    ExV.cons (k0.mono fun _ _ h => .inl h) (ExV.cons (k1.mono fun _ _ h => .inl h) (ExV.nil _ _))
  refine ⟨#[.int .i64 p0, .int .i64 q0, .slice A0 l0.length c0, .int .i64 p1, .int .i64 q1, .slice A1 l1.length c1], 126, 2, ?_, ?_⟩
  · rw [hP]; unfold execOp; simp only [ho, List.map_toArray, List.map_cons, List.map_nil, e0, e1]; clear hnew k0 k1; go_simp
  · rw [hty]; exact ExL.of _ (hnew _) _ _ rfl (by simp [maxLen]) _ rfl (.inr (by simp))

theorem st_los1 {c : Cx} (hP : c.P = Try.prog) (hN : ∀ b, c.w0.heap.size ≤ b → c.S b) {Q : Exit → Act → World → Prop} {o : Oper} {d : Nat} {x0 : Nat} {s0 : Lo} (h0 : c.ty x0 = AV.lo s0) (hd : o.dst = some d) (hdn : d < c.n)
    (ho : o.op = .buildSlice 39 1 #[(0, .tmp x0)]) (hty : c.ty d = AV.lol [s0]) : StepOk c Q o [x0] [] [] := by
  refine st_list hN hd hdn fun F V a w h => ?_
  have k0 : Lo.at F w s0 (a.eval (.tmp x0)) := by have := h x0 (by simp); rw [h0] at this; exact this
  generalize a.eval = ev at *
  obtain ⟨p0, y0, q0, r0, l0⟩ := s0; obtain ⟨A0, c0, B0, d0, e0⟩ := Lo.agg k0; rw [e0] at k0
  have hnew : ∀ o, LoV (grownTo F w (w.alloc o)) w [.mk p0 y0 q0 r0 l0] [(.int .i64 p0, .int .i64 y0, .int .i64 q0, .slice A0 r0.length c0, .slice B0 l0.length d0, .slice none 0 0)] := fun o => 
    LoV.cons (k0.mono fun _ _ h => .inl h) (LoV.nil _ _)
  refine ⟨#[.int .i64 p0, .int .i64 y0, .int .i64 q0, .slice A0 r0.length c0, .slice B0 l0.length d0, .slice none 0 0], 123, 1, ?_, ?_⟩
  · rw [hP]; unfold execOp; simp only [ho, List.map_toArray, List.map_cons, List.map_nil, e0]; clear hnew k0; go_simp
  · rw [hty]; exact LoL.of _ (hnew _) _ _ rfl (by simp [maxLen]) _ rfl (.inr (by simp))

theorem st_los2 {c : Cx} (hP : c.P = Try.prog) (hN : ∀ b, c.w0.heap.size ≤ b → c.S b) {Q : Exit → Act → World → Prop} {o : Oper} {d : Nat} {x0 : Nat} {s0 : Lo} (h0 : c.ty x0 = AV.lo s0) {x1 : Nat} {s1 : Lo} (h1 : c.ty x1 = AV.lo s1) (hd : o.dst = some d) (hdn : d < c.n)
    (ho : o.op = .buildSlice 39 2 #[(0, .tmp x0), (1, .tmp x1)]) (hty : c.ty d = AV.lol [s0, s1]) : StepOk c Q o [x0, x1] [] [] := by
  refine st_list hN hd hdn fun F V a w h => ?_
  have k0 : Lo.at F w s0 (a.eval (.tmp x0)) := by have := h x0 (by simp); rw [h0] at this; exact this
  have k1 : Lo.at F w s1 (a.eval (.tmp x1)) := by have := h x1 (by simp); rw [h1] at this; exact this
  generalize a.eval = ev at *
  obtain ⟨p0, y0, q0, r0, l0⟩ := s0; obtain ⟨A0, c0, B0, d0, e0⟩ := Lo.agg k0; rw [e0] at k0
  obtain ⟨p1, y1, q1, r1, l1⟩ := s1; obtain ⟨A1, c1, B1, d1, e1⟩ := Lo.agg k1; rw [e1] at k1
  have hnew : ∀ o, LoV (grownTo F w (w.alloc o)) w [.mk p0 y0 q0 r0 l0, .mk p1 y1 q1 r1 l1] [(.int .i64 p0, .int .i64 y0, .int .i64 q0, .slice A0 r0.length c0, .slice B0 l0.length d0, .slice none 0 0), (.int .i64 p1, .int .i64 y1, .int .i64 q1, .slice A1 r1.length c1, .slice B1 l1.length d1, .slice none 0 0)] := fun o => 
    LoV.cons (k0.mono fun _ _ h => .inl h) (LoV.cons (k1.mono fun _ _ h => .inl h) (LoV.nil _ _))
  refine ⟨#[.int .i64 p0, .int .i64 y0, .int .i64 q0, .slice A0 r0.length c0, .slice B0 l0.length d0, .slice none 0 0, .int .i64 p1, .int .i64 y1, .int .i64 q1, .slice A1 r1.length c1, .slice B1 l1.length d1, .slice none 0 0], 123, 2, ?_, ?_⟩
  · rw [hP]; unfold execOp; simp only [ho, List.map_toArray, List.map_cons, List.map_nil, e0, e1]; clear hnew k0 k1; go_simp
  · rw [hty]; exact LoL.of _ (hnew _) _ _ rfl (by simp [maxLen]) _ rfl (.inr (by simp))

theorem st_los3 {c : Cx} (hP : c.P = Try.prog) (hN : ∀ b, c.w0.heap.size ≤ b → c.S b) {Q : Exit → Act → World → Prop} {o : Oper} {d : Nat} {x0 : Nat} {s0 : Lo} (h0 : c.ty x0 = AV.lo s0) {x1 : Nat} {s1 : Lo} (h1 : c.ty x1 = AV.lo s1) {x2 : Nat} {s2 : Lo} (h2 : c.ty x2 = AV.lo s2) (hd : o.dst = some d) (hdn : d < c.n)
    (ho : o.op = .buildSlice 39 3 #[(0, .tmp x0), (1, .tmp x1), (2, .tmp x2)]) (hty : c.ty d = AV.lol [s0, s1, s2]) : StepOk c Q o [x0, x1, x2] [] [] := by
  refine st_list hN hd hdn fun F V a w h => ?_
  have k0 : Lo.at F w s0 (a.eval (.tmp x0)) := by have := h x0 (by simp); rw [h0] at this; exact this
  have k1 : Lo.at F w s1 (a.eval (.tmp x1)) := by have := h x1 (by simp); rw [h1] at this; exact this
  have k2 : Lo.at F w s2 (a.eval (.tmp x2)) := by have := h x2 (by simp); rw [h2] at this; exact this
  generalize a.eval = ev at *
  obtain ⟨p0, y0, q0, r0, l0⟩ := s0; obtain ⟨A0, c0, B0, d0, e0⟩ := Lo.agg k0; rw [e0] at k0
  obtain ⟨p1, y1, q1, r1, l1⟩ := s1; obtain ⟨A1, c1, B1, d1, e1⟩ := Lo.agg k1; rw [e1] at k1
  obtain ⟨p2, y2, q2, r2, l2⟩ := s2; obtain ⟨A2, c2, B2, d2, e2⟩ := Lo.agg k2; rw [e2] at k2
  have hnew : ∀ o, LoV (grownTo F w (w.alloc o)) w [.mk p0 y0 q0 r0 l0, .mk p1 y1 q1 r1 l1, .mk p2 y2 q2 r2 l2] [(.int .i64 p0, .int .i64 y0, .int .i64 q0, .slice A0 r0.length c0, .slice B0 l0.length d0, .slice none 0 0), (.int .i64 p1, .int .i64 y1, .int .i64 q1, .slice A1 r1.length c1, .slice B1 l1.length d1, .slice none 0 0), (.int .i64 p2, .int .i64 y2, .int .i64 q2, .slice A2 r2.length c2, .slice B2 l2.length d2, .slice none 0 0)] := fun o => 
    LoV.cons (k0.mono fun _ _ h => .inl h) (LoV.cons (k1.mono fun _ _ h => .inl h) (LoV.cons (k2.mono fun _ _ h => .inl h) (LoV.nil _ _)))
  refine ⟨#[.int .i64 p0, .int .i64 y0, .int .i64 q0, .slice A0 r0.length c0, .slice B0 l0.length d0, .slice none 0 0, .int .i64 p1, .int .i64 y1, .int .i64 q1, .slice A1 r1.length c1, .slice B1 l1.length d1, .slice none 0 0, .int .i64 p2, .int .i64 y2, .int .i64 q2, .slice A2 r2.length c2, .slice B2 l2.length d2, .slice none 0 0], 123, 3, ?_, ?_⟩
  · rw [hP]; unfold execOp; simp only [ho, List.map_toArray, List.map_cons, List.map_nil, e0, e1, e2]; clear hnew k0 k1 k2; go_simp
  · rw [hty]; exact LoL.of _ (hnew _) _ _ rfl (by simp [maxLen]) _ rfl (.inr (by simp))

theorem st_los4 {c : Cx} (hP : c.P = Try.prog) (hN : ∀ b, c.w0.heap.size ≤ b → c.S b) {Q : Exit → Act → World → Prop} {o : Oper} {d : Nat} {x0 : Nat} {s0 : Lo} (h0 : c.ty x0 = AV.lo s0) {x1 : Nat} {s1 : Lo} (h1 : c.ty x1 = AV.lo s1) {x2 : Nat} {s2 : Lo} (h2 : c.ty x2 = AV.lo s2) {x3 : Nat} {s3 : Lo} (h3 : c.ty x3 = AV.lo s3) (hd : o.dst = some d) (hdn : d < c.n)
    (ho : o.op = .buildSlice 39 4 #[(0, .tmp x0), (1, .tmp x1), (2, .tmp x2), (3, .tmp x3)]) (hty : c.ty d = AV.lol [s0, s1, s2, s3]) : StepOk c Q o [x0, x1, x2, x3] [] [] := by
  refine st_list hN hd hdn fun F V a w h => ?_
  have k0 : Lo.at F w s0 (a.eval (.tmp x0)) := by have := h x0 (by simp); rw [h0] at this; exact this
  have k1 : Lo.at F w s1 (a.eval (.tmp x1)) := by have := h x1 (by simp); rw [h1] at this; exact this
  have k2 : Lo.at F w s2 (a.eval (.tmp x2)) := by have := h x2 (by simp); rw [h2] at this; exact this
  have k3 : Lo.at F w s3 (a.eval (.tmp x3)) := by have := h x3 (by simp); rw [h3] at this; exact this
  generalize a.eval = ev at *
  obtain ⟨p0, y0, q0, r0, l0⟩ := s0; obtain ⟨A0, c0, B0, d0, e0⟩ := Lo.agg k0; rw [e0] at k0
  obtain ⟨p1, y1, q1, r1, l1⟩ := s1; obtain ⟨A1, c1, B1, d1, e1⟩ := Lo.agg k1; rw [e1] at k1
  obtain ⟨p2, y2, q2, r2, l2⟩ := s2; obtain ⟨A2, c2, B2, d2, e2⟩ := Lo.agg k2; rw [e2] at k2
  obtain ⟨p3, y3, q3, r3, l3⟩ := s3; obtain ⟨A3, c3, B3, d3, e3⟩ := Lo.agg k3; rw [e3] at k3
  have hnew : ∀ o, LoV (grownTo F w (w.alloc o)) w [.mk p0 y0 q0 r0 l0, .mk p1 y1 q1 r1 l1, .mk p2 y2 q2 r2 l2, .mk p3 y3 q3 r3 l3] [(.int .i64 p0, .int .i64 y0, .int .i64 q0, .slice A0 r0.length c0, .slice B0 l0.length d0, .slice none 0 0), (.int .i64 p1, .int .i64 y1, .int .i64 q1, .slice A1 r1.length c1, .slice B1 l1.length d1, .slice none 0 0), (.int .i64 p2, .int .i64 y2, .int .i64 q2, .slice A2 r2.length c2, .slice B2 l2.length d2, .slice none 0 0), (.int .i64 p3, .int .i64 y3, .int .i64 q3, .slice A3 r3.length c3, .slice B3 l3.length d3, .slice none 0 0)] := fun o => 
    LoV.cons (k0.mono fun _ _ h => .inl h) (LoV.cons (k1.mono fun _ _ h => .inl h) (LoV.cons (k2.mono fun _ _ h => .inl h) (LoV.cons (k3.mono fun _ _ h => .inl h) (LoV.nil _ _))))
  refine ⟨#[.int .i64 p0, .int .i64 y0, .int .i64 q0, .slice A0 r0.length c0, .slice B0 l0.length d0, .slice none 0 0, .int .i64 p1, .int .i64 y1, .int .i64 q1, .slice A1 r1.length c1, .slice B1 l1.length d1, .slice none 0 0, .int .i64 p2, .int .i64 y2, .int .i64 q2, .slice A2 r2.length c2, .slice B2 l2.length d2, .slice none 0 0, .int .i64 p3, .int .i64 y3, .int .i64 q3, .slice A3 r3.length c3, .slice B3 l3.length d3, .slice none 0 0], 123, 4, ?_, ?_⟩
  · rw [hP]; unfold execOp; simp only [ho, List.map_toArray, List.map_cons, List.map_nil, e0, e1, e2, e3]; clear hnew k0 k1 k2 k3; go_simp
  · rw [hty]; exact LoL.of _ (hnew _) _ _ rfl (by simp [maxLen]) _ rfl (.inr (by simp))

theorem st_los6 {c : Cx} (hP : c.P = Try.prog) (hN : ∀ b, c.w0.heap.size ≤ b → c.S b) {Q : Exit → Act → World → Prop} {o : Oper} {d : Nat} {x0 : Nat} {s0 : Lo} (h0 : c.ty x0 = AV.lo s0) {x1 : Nat} {s1 : Lo} (h1 : c.ty x1 = AV.lo s1) {x2 : Nat} {s2 : Lo} (h2 : c.ty x2 = AV.lo s2) {x3 : Nat} {s3 : Lo} (h3 : c.ty x3 = AV.lo s3) {x4 : Nat} {s4 : Lo} (h4 : c.ty x4 = AV.lo s4) {x5 : Nat} {s5 : Lo} (h5 : c.ty x5 = AV.lo s5) (hd : o.dst = some d) (hdn : d < c.n)
    (ho : o.op = .buildSlice 39 6 #[(0, .tmp x0), (1, .tmp x1), (2, .tmp x2), (3, .tmp x3), (4, .tmp x4), (5, .tmp x5)]) (hty : c.ty d = AV.lol [s0, s1, s2, s3, s4, s5]) : StepOk c Q o [x0, x1, x2, x3, x4, x5] [] [] := by
  refine st_list hN hd hdn fun F V a w h => ?_
  have k0 : Lo.at F w s0 (a.eval (.tmp x0)) := by have := h x0 (by simp); rw [h0] at this; exact this
  have k1 : Lo.at F w s1 (a.eval (.tmp x1)) := by have := h x1 (by simp); rw [h1] at this; exact this
  have k2 : Lo.at F w s2 (a.eval (.tmp x2)) := by have := h x2 (by simp); rw [h2] at this; exact this
  have k3 : Lo.at F w s3 (a.eval (.tmp x3)) := by have := h x3 (by simp); rw [h3] at this; exact this
  have k4 : Lo.at F w s4 (a.eval (.tmp x4)) := by have := h x4 (by simp); rw [h4] at this; exact this
  have k5 : Lo.at F w s5 (a.eval (.tmp x5)) := by have := h x5 (by simp); rw [h5] at this; exact this
  generalize a.eval = ev at *
  obtain ⟨p0, y0, q0, r0, l0⟩ := s0; obtain ⟨A0, c0, B0, d0, e0⟩ := Lo.agg k0; rw [e0] at k0
  obtain ⟨p1, y1, q1, r1, l1⟩ := s1; obtain ⟨A1, c1, B1, d1, e1⟩ := Lo.agg k1; rw [e1] at k1
  obtain ⟨p2, y2, q2, r2, l2⟩ := s2; obtain ⟨A2, c2, B2, d2, e2⟩ := Lo.agg k2; rw [e2] at k2
  obtain ⟨p3, y3, q3, r3, l3⟩ := s3; obtain ⟨A3, c3, B3, d3, e3⟩ := Lo.agg k3; rw [e3] at k3
  obtain ⟨p4, y4, q4, r4, l4⟩ := s4; obtain ⟨A4, c4, B4, d4, e4⟩ := Lo.agg k4; rw [e4] at k4
  obtain ⟨p5, y5, q5, r5, l5⟩ := s5; obtain ⟨A5, c5, B5, d5, e5⟩ := Lo.agg k5; rw [e5] at k5
  have hnew : ∀ o, LoV (grownTo F w (w.alloc o)) w [.mk p0 y0 q0 r0 l0, .mk p1 y1 q1 r1 l1, .mk p2 y2 q2 r2 l2, .mk p3 y3 q3 r3 l3, .mk p4 y4 q4 r4 l4, .mk p5 y5 q5 r5 l5] [(.int .i64 p0, .int .i64 y0, .int .i64 q0, .slice A0 r0.length c0, .slice B0 l0.length d0, .slice none 0 0), (.int .i64 p1, .int .i64 y1, .int .i64 q1, .slice A1 r1.length c1, .slice B1 l1.length d1, .slice none 0 0), (.int .i64 p2, .int .i64 y2, .int .i64 q2, .slice A2 r2.length c2, .slice B2 l2.length d2, .slice none 0 0), (.int .i64 p3, .int .i64 y3, .int .i64 q3, .slice A3 r3.length c3, .slice B3 l3.length d3, .slice none 0 0), (.int .i64 p4, .int .i64 y4, .int .i64 q4, .slice A4 r4.length c4, .slice B4 l4.length d4, .slice none 0 0), (.int .i64 p5, .int .i64 y5, .int .i64 q5, .slice A5 r5.length c5, .slice B5 l5.length d5, .slice none 0 0)] := fun o => 
    LoV.cons (k0.mono fun _ _ h => .inl h) (LoV.cons (k1.mono fun _ _ h => .inl h) (LoV.cons (k2.mono fun _ _ h => .inl h) (LoV.cons (k3.mono fun _ _ h => .inl h) (LoV.cons (k4.mono fun _ _ h => .inl h) (LoV.cons (k5.mono fun _ _ h => .inl h) (LoV.nil _ _))))))
  refine ⟨#[.int .i64 p0, .int .i64 y0, .int .i64 q0, .slice A0 r0.length c0, .slice B0 l0.length d0, .slice none 0 0, .int .i64 p1, .int .i64 y1, .int .i64 q1, .slice A1 r1.length c1, .slice B1 l1.length d1, .slice none 0 0, .int .i64 p2, .int .i64 y2, .int .i64 q2, .slice A2 r2.length c2, .slice B2 l2.length d2, .slice none 0 0, .int .i64 p3, .int .i64 y3, .int .i64 q3, .slice A3 r3.length c3, .slice B3 l3.length d3, .slice none 0 0, .int .i64 p4, .int .i64 y4, .int .i64 q4, .slice A4 r4.length c4, .slice B4 l4.length d4, .slice none 0 0, .int .i64 p5, .int .i64 y5, .int .i64 q5, .slice A5 r5.length c5, .slice B5 l5.length d5, .slice none 0 0], 123, 6, ?_, ?_⟩
  · rw [hP]; unfold execOp; simp only [ho, List.map_toArray, List.map_cons, List.map_nil, e0, e1, e2, e3, e4, e5]; clear hnew k0 k1 k2 k3 k4 k5; go_simp
  · rw [hty]; exact LoL.of _ (hnew _) _ _ rfl (by simp [maxLen]) _ rfl (.inr (by simp))

theorem st_los9 {c : Cx} (hP : c.P = Try.prog) (hN : ∀ b, c.w0.heap.size ≤ b → c.S b) {Q : Exit → Act → World → Prop} {o : Oper} {d : Nat} {x0 : Nat} {s0 : Lo} (h0 : c.ty x0 = AV.lo s0) {x1 : Nat} {s1 : Lo} (h1 : c.ty x1 = AV.lo s1) {x2 : Nat} {s2 : Lo} (h2 : c.ty x2 = AV.lo s2) {x3 : Nat} {s3 : Lo} (h3 : c.ty x3 = AV.lo s3) {x4 : Nat} {s4 : Lo} (h4 : c.ty x4 = AV.lo s4) {x5 : Nat} {s5 : Lo} (h5 : c.ty x5 = AV.lo s5) {x6 : Nat} {s6 : Lo} (h6 : c.ty x6 = AV.lo s6) {x7 : Nat} {s7 : Lo} (h7 : c.ty x7 = AV.lo s7) {x8 : Nat} {s8 : Lo} (h8 : c.ty x8 = AV.lo s8) (hd : o.dst = some d) (hdn : d < c.n)
    (ho : o.op = .buildSlice 39 9 #[(0, .tmp x0), (1, .tmp x1), (2, .tmp x2), (3, .tmp x3), (4, .tmp x4), (5, .tmp x5), (6, .tmp x6), (7, .tmp x7), (8, .tmp x8)]) (hty : c.ty d = AV.lol [s0, s1, s2, s3, s4, s5, s6, s7, s8]) : StepOk c Q o [x0, x1, x2, x3, x4, x5, x6, x7, x8] [] [] := by
  refine st_list hN hd hdn fun F V a w h => ?_
  have k0 : Lo.at F w s0 (a.eval (.tmp x0)) := by have := h x0 (by simp); rw [h0] at this; exact this
  have k1 : Lo.at F w s1 (a.eval (.tmp x1)) := by have := h x1 (by simp); rw [h1] at this; exact this
  have k2 : Lo.at F w s2 (a.eval (.tmp x2)) := by have := h x2 (by simp); rw [h2] at this; exact this
  have k3 : Lo.at F w s3 (a.eval (.tmp x3)) := by have := h x3 (by simp); rw [h3] at this; exact this
  have k4 : Lo.at F w s4 (a.eval (.tmp x4)) := by have := h x4 (by simp); rw [h4] at this; exact this
  have k5 : Lo.at F w s5 (a.eval (.tmp x5)) := by have := h x5 (by simp); rw [h5] at this; exact this
  have k6 : Lo.at F w s6 (a.eval (.tmp x6)) := by have := h x6 (by simp); rw [h6] at this; exact this
  have k7 : Lo.at F w s7 (a.eval (.tmp x7)) := by have := h x7 (by simp); rw [h7] at this; exact this
  have k8 : Lo.at F w s8 (a.eval (.tmp x8)) := by have := h x8 (by simp); rw [h8] at this; exact this
  generalize a.eval = ev at *
  obtain ⟨p0, y0, q0, r0, l0⟩ := s0; obtain ⟨A0, c0, B0, d0, e0⟩ := Lo.agg k0; rw [e0] at k0
  obtain ⟨p1, y1, q1, r1, l1⟩ := s1; obtain ⟨A1, c1, B1, d1, e1⟩ := Lo.agg k1; rw [e1] at k1
  obtain ⟨p2, y2, q2, r2, l2⟩ := s2; obtain ⟨A2, c2, B2, d2, e2⟩ := Lo.agg k2; rw [e2] at k2
  obtain ⟨p3, y3, q3, r3, l3⟩ := s3; obtain ⟨A3, c3, B3, d3, e3⟩ := Lo.agg k3; rw [e3] at k3
  obtain ⟨p4, y4, q4, r4, l4⟩ := s4; obtain ⟨A4, c4, B4, d4, e4⟩ := Lo.agg k4; rw [e4] at k4
  obtain ⟨p5, y5, q5, r5, l5⟩ := s5; obtain ⟨A5, c5, B5, d5, e5⟩ := Lo.agg k5; rw [e5] at k5
  obtain ⟨p6, y6, q6, r6, l6⟩ := s6; obtain ⟨A6, c6, B6, d6, e6⟩ := Lo.agg k6; rw [e6] at k6
  obtain ⟨p7, y7, q7, r7, l7⟩ := s7; obtain ⟨A7, c7, B7, d7, e7⟩ := Lo.agg k7; rw [e7] at k7
  obtain ⟨p8, y8, q8, r8, l8⟩ := s8; obtain ⟨A8, c8, B8, d8, e8⟩ := Lo.agg k8; rw [e8] at k8
  have hnew : ∀ o, LoV (grownTo F w (w.alloc o)) w [.mk p0 y0 q0 r0 l0, .mk p1 y1 q1 r1 l1, .mk p2 y2 q2 r2 l2, .mk p3 y3 q3 r3 l3, .mk p4 y4 q4 r4 l4, .mk p5 y5 q5 r5 l5, .mk p6 y6 q6 r6 l6, .mk p7 y7 q7 r7 l7, .mk p8 y8 q8 r8 l8] [(.int .i64 p0, .int .i64 y0, .int .i64 q0, .slice A0 r0.length c0, .slice B0 l0.length d0, .slice none 0 0), (.int .i64 p1, .int .i64 y1, .int .i64 q1, .slice A1 r1.length c1, .slice B1 l1.length d1, .slice none 0 0), (.int .i64 p2, .int .i64 y2, .int .i64 q2, .slice A2 r2.length c2, .slice B2 l2.length d2, .slice none 0 0), (.int .i64 p3, .int .i64 y3, .int .i64 q3, .slice A3 r3.length c3, .slice B3 l3.length d3, .slice none 0 0), (.int .i64 p4, .int .i64 y4, .int .i64 q4, .slice A4 r4.length c4, .slice B4 l4.length d4, .slice none 0 0), (.int .i64 p5, .int .i64 y5, .int .i64 q5, .slice A5 r5.length c5, .slice B5 l5.length d5, .slice none 0 0), (.int .i64 p6, .int .i64 y6, .int .i64 q6, .slice A6 r6.length c6, .slice B6 l6.length d6, .slice none 0 0), (.int .i64 p7, .int .i64 y7, .int .i64 q7, .slice A7 r7.length c7, .slice B7 l7.length d7, .slice none 0 0), (.int .i64 p8, .int .i64 y8, .int .i64 q8, .slice A8 r8.length c8, .slice B8 l8.length d8, .slice none 0 0)] := fun o => 
    LoV.cons (k0.mono fun _ _ h => .inl h) (LoV.cons (k1.mono fun _ _ h => .inl h) (LoV.cons (k2.mono fun _ _ h => .inl h) (LoV.cons (k3.mono fun _ _ h => .inl h) (LoV.cons (k4.mono fun _ _ h => .inl h) (LoV.cons (k5.mono fun _ _ h => .inl h) (LoV.cons (k6.mono fun _ _ h => .inl h) (LoV.cons (k7.mono fun _ _ h => .inl h) (LoV.cons (k8.mono fun _ _ h => .inl h) (LoV.nil _ _)))))))))
  refine ⟨#[.int .i64 p0, .int .i64 y0, .int .i64 q0, .slice A0 r0.length c0, .slice B0 l0.length d0, .slice none 0 0, .int .i64 p1, .int .i64 y1, .int .i64 q1, .slice A1 r1.length c1, .slice B1 l1.length d1, .slice none 0 0, .int .i64 p2, .int .i64 y2, .int .i64 q2, .slice A2 r2.length c2, .slice B2 l2.length d2, .slice none 0 0, .int .i64 p3, .int .i64 y3, .int .i64 q3, .slice A3 r3.length c3, .slice B3 l3.length d3, .slice none 0 0, .int .i64 p4, .int .i64 y4, .int .i64 q4, .slice A4 r4.length c4, .slice B4 l4.length d4, .slice none 0 0, .int .i64 p5, .int .i64 y5, .int .i64 q5, .slice A5 r5.length c5, .slice B5 l5.length d5, .slice none 0 0, .int .i64 p6, .int .i64 y6, .int .i64 q6, .slice A6 r6.length c6, .slice B6 l6.length d6, .slice none 0 0, .int .i64 p7, .int .i64 y7, .int .i64 q7, .slice A7 r7.length c7, .slice B7 l7.length d7, .slice none 0 0, .int .i64 p8, .int .i64 y8, .int .i64 q8, .slice A8 r8.length c8, .slice B8 l8.length d8, .slice none 0 0], 123, 9, ?_, ?_⟩
  · rw [hP]; unfold execOp; simp only [ho, List.map_toArray, List.map_cons, List.map_nil, e0, e1, e2, e3, e4, e5, e6, e7, e8]; clear hnew k0 k1 k2 k3 k4 k5 k6 k7 k8; go_simp
  · rw [hty]; exact LoL.of _ (hnew _) _ _ rfl (by simp [maxLen]) _ rfl (.inr (by simp))

theorem st_los10 {c : Cx} (hP : c.P = Try.prog) (hN : ∀ b, c.w0.heap.size ≤ b → c.S b) {Q : Exit → Act → World → Prop} {o : Oper} {d : Nat} {x0 : Nat} {s0 : Lo} (h0 : c.ty x0 = AV.lo s0) {x1 : Nat} {s1 : Lo} (h1 : c.ty x1 = AV.lo s1) {x2 : Nat} {s2 : Lo} (h2 : c.ty x2 = AV.lo s2) {x3 : Nat} {s3 : Lo} (h3 : c.ty x3 = AV.lo s3) {x4 : Nat} {s4 : Lo} (h4 : c.ty x4 = AV.lo s4) {x5 : Nat} {s5 : Lo} (h5 : c.ty x5 = AV.lo s5) {x6 : Nat} {s6 : Lo} (h6 : c.ty x6 = AV.lo s6) {x7 : Nat} {s7 : Lo} (h7 : c.ty x7 = AV.lo s7) {x8 : Nat} {s8 : Lo} (h8 : c.ty x8 = AV.lo s8) {x9 : Nat} {s9 : Lo} (h9 : c.ty x9 = AV.lo s9) (hd : o.dst = some d) (hdn : d < c.n)
    (ho : o.op = .buildSlice 39 10 #[(0, .tmp x0), (1, .tmp x1), (2, .tmp x2), (3, .tmp x3), (4, .tmp x4), (5, .tmp x5), (6, .tmp x6), (7, .tmp x7), (8, .tmp x8), (9, .tmp x9)]) (hty : c.ty d = AV.lol [s0, s1, s2, s3, s4, s5, s6, s7, s8, s9]) : StepOk c Q o [x0, x1, x2, x3, x4, x5, x6, x7, x8, x9] [] [] := by
  refine st_list hN hd hdn fun F V a w h => ?_
  have k0 : Lo.at F w s0 (a.eval (.tmp x0)) := by have := h x0 (by simp); rw [h0] at this; exact this
  have k1 : Lo.at F w s1 (a.eval (.tmp x1)) := by have := h x1 (by simp); rw [h1] at this; exact this
  have k2 : Lo.at F w s2 (a.eval (.tmp x2)) := by have := h x2 (by simp); rw [h2] at this; exact this
  have k3 : Lo.at F w s3 (a.eval (.tmp x3)) := by have := h x3 (by simp); rw [h3] at this; exact this
  have k4 : Lo.at F w s4 (a.eval (.tmp x4)) := by have := h x4 (by simp); rw [h4] at this; exact this
  have k5 : Lo.at F w s5 (a.eval (.tmp x5)) := by have := h x5 (by simp); rw [h5] at this; exact this
  have k6 : Lo.at F w s6 (a.eval (.tmp x6)) := by have := h x6 (by simp); rw [h6] at this; exact this
  have k7 : Lo.at F w s7 (a.eval (.tmp x7)) := by have := h x7 (by simp); rw [h7] at this; exact this
  have k8 : Lo.at F w s8 (a.eval (.tmp x8)) := by have := h x8 (by simp); rw [h8] at this; exact this
  have k9 : Lo.at F w s9 (a.eval (.tmp x9)) := by have := h x9 (by simp); rw [h9] at this; exact this
  generalize a.eval = ev at *
  obtain ⟨p0, y0, q0, r0, l0⟩ := s0; obtain ⟨A0, c0, B0, d0, e0⟩ := Lo.agg k0; rw [e0] at k0
  obtain ⟨p1, y1, q1, r1, l1⟩ := s1; obtain ⟨A1, c1, B1, d1, e1⟩ := Lo.agg k1; rw [e1] at k1
  obtain ⟨p2, y2, q2, r2, l2⟩ := s2; obtain ⟨A2, c2, B2, d2, e2⟩ := Lo.agg k2; rw [e2] at k2
  obtain ⟨p3, y3, q3, r3, l3⟩ := s3; obtain ⟨A3, c3, B3, d3, e3⟩ := Lo.agg k3; rw [e3] at k3
  obtain ⟨p4, y4, q4, r4, l4⟩ := s4; obtain ⟨A4, c4, B4, d4, e4⟩ := Lo.agg k4; rw [e4] at k4
  obtain ⟨p5, y5, q5, r5, l5⟩ := s5; obtain ⟨A5, c5, B5, d5, e5⟩ := Lo.agg k5; rw [e5] at k5
  obtain ⟨p6, y6, q6, r6, l6⟩ := s6; obtain ⟨A6, c6, B6, d6, e6⟩ := Lo.agg k6; rw [e6] at k6
  obtain ⟨p7, y7, q7, r7, l7⟩ := s7; obtain ⟨A7, c7, B7, d7, e7⟩ := Lo.agg k7; rw [e7] at k7
  obtain ⟨p8, y8, q8, r8, l8⟩ := s8; obtain ⟨A8, c8, B8, d8, e8⟩ := Lo.agg k8; rw [e8] at k8
  obtain ⟨p9, y9, q9, r9, l9⟩ := s9; obtain ⟨A9, c9, B9, d9, e9⟩ := Lo.agg k9; rw [e9] at k9
  have hnew : ∀ o, LoV (grownTo F w (w.alloc o)) w [.mk p0 y0 q0 r0 l0, .mk p1 y1 q1 r1 l1, .mk p2 y2 q2 r2 l2, .mk p3 y3 q3 r3 l3, .mk p4 y4 q4 r4 l4, .mk p5 y5 q5 r5 l5, .mk p6 y6 q6 r6 l6, .mk p7 y7 q7 r7 l7, .mk p8 y8 q8 r8 l8, .mk p9 y9 q9 r9 l9] [(.int .i64 p0, .int .i64 y0, .int .i64 q0, .slice A0 r0.length c0, .slice B0 l0.length d0, .slice none 0 0), (.int .i64 p1, .int .i64 y1, .int .i64 q1, .slice A1 r1.length c1, .slice B1 l1.length d1, .slice none 0 0), (.int .i64 p2, .int .i64 y2, .int .i64 q2, .slice A2 r2.length c2, .slice B2 l2.length d2, .slice none 0 0), (.int .i64 p3, .int .i64 y3, .int .i64 q3, .slice A3 r3.length c3, .slice B3 l3.length d3, .slice none 0 0), (.int .i64 p4, .int .i64 y4, .int .i64 q4, .slice A4 r4.length c4, .slice B4 l4.length d4, .slice none 0 0), (.int .i64 p5, .int .i64 y5, .int .i64 q5, .slice A5 r5.length c5, .slice B5 l5.length d5, .slice none 0 0), (.int .i64 p6, .int .i64 y6, .int .i64 q6, .slice A6 r6.length c6, .slice B6 l6.length d6, .slice none 0 0), (.int .i64 p7, .int .i64 y7, .int .i64 q7, .slice A7 r7.length c7, .slice B7 l7.length d7, .slice none 0 0), (.int .i64 p8, .int .i64 y8, .int .i64 q8, .slice A8 r8.length c8, .slice B8 l8.length d8, .slice none 0 0), (.int .i64 p9, .int .i64 y9, .int .i64 q9, .slice A9 r9.length c9, .slice B9 l9.length d9, .slice none 0 0)] := fun o => 
    LoV.cons (k0.mono fun _ _ h => .inl h) (LoV.cons (k1.mono fun _ _ h => .inl h) (LoV.cons (k2.mono fun _ _ h => .inl h) (LoV.cons (k3.mono fun _ _ h => .inl h) (LoV.cons (k4.mono fun _ _ h => .inl h) (LoV.cons (k5.mono fun _ _ h => .inl h) (LoV.cons (k6.mono fun _ _ h => .inl h) (LoV.cons (k7.mono fun _ _ h => .inl h) (LoV.cons (k8.mono fun _ _ h => .inl h) (LoV.cons (k9.mono fun _ _ h => .inl h) (LoV.nil _ _))))))))))
  refine ⟨#[.int .i64 p0, .int .i64 y0, .int .i64 q0, .slice A0 r0.length c0, .slice B0 l0.length d0, .slice none 0 0, .int .i64 p1, .int .i64 y1, .int .i64 q1, .slice A1 r1.length c1, .slice B1 l1.length d1, .slice none 0 0, .int .i64 p2, .int .i64 y2, .int .i64 q2, .slice A2 r2.length c2, .slice B2 l2.length d2, .slice none 0 0, .int .i64 p3, .int .i64 y3, .int .i64 q3, .slice A3 r3.length c3, .slice B3 l3.length d3, .slice none 0 0, .int .i64 p4, .int .i64 y4, .int .i64 q4, .slice A4 r4.length c4, .slice B4 l4.length d4, .slice none 0 0, .int .i64 p5, .int .i64 y5, .int .i64 q5, .slice A5 r5.length c5, .slice B5 l5.length d5, .slice none 0 0, .int .i64 p6, .int .i64 y6, .int .i64 q6, .slice A6 r6.length c6, .slice B6 l6.length d6, .slice none 0 0, .int .i64 p7, .int .i64 y7, .int .i64 q7, .slice A7 r7.length c7, .slice B7 l7.length d7, .slice none 0 0, .int .i64 p8, .int .i64 y8, .int .i64 q8, .slice A8 r8.length c8, .slice B8 l8.length d8, .slice none 0 0, .int .i64 p9, .int .i64 y9, .int .i64 q9, .slice A9 r9.length c9, .slice B9 l9.length d9, .slice none 0 0], 123, 10, ?_, ?_⟩
  · rw [hP]; unfold execOp; simp only [ho, List.map_toArray, List.map_cons, List.map_nil, e0, e1, e2, e3, e4, e5, e6, e7, e8, e9]; clear hnew k0 k1 k2 k3 k4 k5 k6 k7 k8 k9; go_simp
  · rw [hty]; exact LoL.of _ (hnew _) _ _ rfl (by simp [maxLen]) _ rfl (.inr (by simp))


/-- An expression, a function, out of a list. -/
theorem st_buildEx {c : Cx} (hP : c.P = Try.prog) {Q : Exit → Act → World → Prop} {o : Oper} {d x : Nat} {k n : Int} {l : List Ex} (hx : c.ty x = AV.exl l) (hd : o.dst = some d) (hdn : d < c.n)
    (ho : o.op = .build 126 #[(0, .const (.int .i64 k)), (1, .const (.int .i64 n)), (2, .tmp x)]) (hty : c.ty d = AV.ex (.mk k n l)) : StepOk c Q o [x] [] [] := by
  refine step_read fun F V Dt Dv a w h ht _ => ?_
  have hxx : ExL F w l (a.eval (.tmp x)) := by have := h.tmp x (ht _ (by simp)); rw [hx] at this; exact this
  have hk : a.eval (.const (.int .i64 k)) = .int .i64 k := rfl
  have hn : a.eval (.const (.int .i64 n)) = .int .i64 n := rfl
  clear h ht
  generalize a.eval = ev at *
  obtain ⟨A, cap, e, hr⟩ := id hxx
  refine ⟨.agg #[.int .i64 k, .int .i64 n, ev (.tmp x)], ?_, fun d' hd' => ?_⟩
  · rw [hP]; unfold execOp; simp only [ho, List.map_toArray, List.map_cons, List.map_nil, hk, hn, e]; clear hr hxx; go_simp
  · rw [hd] at hd'; simp only [Option.some.injEq] at hd'; subst hd'
    exact ⟨hdn, by rw [hty]; exact Ex.at_mk.2 ⟨_, rfl, hxx⟩⟩

theorem st_buildFn {c : Cx} (hP : c.P = Try.prog) {Q : Exit → Act → World → Prop} {o : Oper} {d x : Nat} {p n : Int} {l : List Lo} (hx : c.ty x = AV.lol l) (hd : o.dst = some d) (hdn : d < c.n)
    (ho : o.op = .build 41 #[(0, .const (.int .i64 p)), (1, .const (.int .i64 n)), (2, .tmp x)]) (hty : c.ty d = AV.fn p n l) : StepOk c Q o [x] [] [] := by
  refine step_read fun F V Dt Dv a w h ht _ => ?_
  have hxx : LoL F w l (a.eval (.tmp x)) := by have := h.tmp x (ht _ (by simp)); rw [hx] at this; exact this
  have hk : ∀ m, a.eval (.const (.int .i64 m)) = .int .i64 m := fun _ => rfl
  clear h ht
  generalize a.eval = ev at *
  obtain ⟨A, cap, e, hr⟩ := id hxx
  refine ⟨.agg #[.int .i64 p, .int .i64 n, ev (.tmp x)], ?_, fun d' hd' => ?_⟩
  · rw [hP]; unfold execOp; simp only [ho, List.map_toArray, List.map_cons, List.map_nil, hk, e]; clear hr hxx; go_simp
  · rw [hd] at hd'; simp only [Option.some.injEq] at hd'; subst hd'
    exact ⟨hdn, by rw [hty]; exact ⟨_, rfl, hxx⟩⟩

theorem st_buildFn0 {c : Cx} (hP : c.P = Try.prog) {Q : Exit → Act → World → Prop} {o : Oper} {d x : Nat} {n : Int} {l : List Lo} (hx : c.ty x = AV.lol l) (hd : o.dst = some d) (hdn : d < c.n)
    (ho : o.op = .build 41 #[(1, .const (.int .i64 n)), (2, .tmp x)]) (hty : c.ty d = AV.fn 0 n l) : StepOk c Q o [x] [] [] := by
  refine step_read fun F V Dt Dv a w h ht _ => ?_
  have hxx : LoL F w l (a.eval (.tmp x)) := by have := h.tmp x (ht _ (by simp)); rw [hx] at this; exact this
  have hk : ∀ m, a.eval (.const (.int .i64 m)) = .int .i64 m := fun _ => rfl
  clear h ht
  generalize a.eval = ev at *
  obtain ⟨A, cap, e, hr⟩ := id hxx
  refine ⟨.agg #[.int .i64 0, .int .i64 n, ev (.tmp x)], ?_, fun d' hd' => ?_⟩
  · rw [hP]; unfold execOp; simp only [ho, List.map_toArray, List.map_cons, List.map_nil, hk, e]; clear hr hxx; go_simp
  · rw [hd] at hd'; simp only [Option.some.injEq] at hd'; subst hd'
    exact ⟨hdn, by rw [hty]; exact ⟨_, rfl, hxx⟩⟩

/-- A variable of three cells: laid, read, stored. -/
theorem st_allocEx {c : Cx} (hP : c.P = Try.prog) {Q : Exit → Act → World → Prop} {o : Oper} {d x : Nat} (hd : o.dst = some d) (hdn : d < c.n) (ho : o.op = .alloc 126) (hty : c.ty d = AV.ptr x 0) (hl : c.len x = 3) : StepOk c Q o [] [] [2 * x] := by
  refine step_new (x := x) false hd hdn hty fun F V Dt Dv a w h _ => ⟨#[.int .i64 0, .int .i64 0, .slice none 0 0], 126, ?_, by simp [hl], by simp⟩
  rw [hP]; unfold execOp; simp only [ho]; clear h; go_simp
theorem st_storeEx {c : Cx} (hP : c.P = Try.prog) {Q : Exit → Act → World → Prop} {o : Oper} {p s x : Nat} (hp : c.ty p = AV.ptr x 0) (hd : o.dst = none) (ho : o.op = .store 126 (.tmp p) (.tmp s)) (hl : c.len x = 3) (hty : c.ty s = c.con x) (hagg : ∀ F V w v, (c.con x).den F V w v → ∃ k n A l c, v = .agg #[.int .i64 k, .int .i64 n, .slice A l c]) : StepOk c Q o [p, s] [] [2 * x + 1] := by
  refine st_store3 hp hd hl hty hagg fun a w g k n A l cp v0 v1 v2 e1 e2 c0 c1 c2 f0 f1 f2 => ?_
  rw [hP]; unfold execOp; simp only [ho]; generalize a.eval = ev at *; rw [e1, e2]; go_simp

/-- A variable of three cells: laid, read, stored. -/
theorem st_allocFn {c : Cx} (hP : c.P = Try.prog) {Q : Exit → Act → World → Prop} {o : Oper} {d x : Nat} (hd : o.dst = some d) (hdn : d < c.n) (ho : o.op = .alloc 41) (hty : c.ty d = AV.ptr x 0) (hl : c.len x = 3) : StepOk c Q o [] [] [2 * x] := by
  refine step_new (x := x) false hd hdn hty fun F V Dt Dv a w h _ => ⟨#[.int .i64 0, .int .i64 0, .slice none 0 0], 41, ?_, by simp [hl], by simp⟩
  rw [hP]; unfold execOp; simp only [ho]; clear h; go_simp
theorem st_storeFn {c : Cx} (hP : c.P = Try.prog) {Q : Exit → Act → World → Prop} {o : Oper} {p s x : Nat} (hp : c.ty p = AV.ptr x 0) (hd : o.dst = none) (ho : o.op = .store 41 (.tmp p) (.tmp s)) (hl : c.len x = 3) (hty : c.ty s = c.con x) (hagg : ∀ F V w v, (c.con x).den F V w v → ∃ k n A l c, v = .agg #[.int .i64 k, .int .i64 n, .slice A l c]) : StepOk c Q o [p, s] [] [2 * x + 1] := by
  refine st_store3 hp hd hl hty hagg fun a w g k n A l cp v0 v1 v2 e1 e2 c0 c1 c2 f0 f1 f2 => ?_
  rw [hP]; unfold execOp; simp only [ho]; generalize a.eval = ev at *; rw [e1, e2]; go_simp

theorem st_loadEx {c : Cx} (hP : c.P = Try.prog) {Q : Exit → Act → World → Prop} {o : Oper} {d p x : Nat} (hp : c.ty p = AV.ptr x 0) (hd : o.dst = some d) (hdn : d < c.n) (ho : o.op = .load 126 (.tmp p)) (hl : c.len x = 3) (hty : c.ty d = c.con x) : StepOk c Q o [p] [2 * x + 1] [] := by
  refine st_load3 hp hd hdn hl hty fun a w g u0 u1 u2 e1 c0 c1 c2 => ?_
  rw [hP]; unfold execOp; simp only [ho]; generalize a.eval = ev at *; rw [e1]; go_simp
theorem st_boxEx {c : Cx} (hP : c.P = Try.prog) {Q : Exit → Act → World → Prop} {o : Oper} {d s x : Nat} (hd : o.dst = some d) (hdn : d < c.n) (ho : o.op = .box 126 (.tmp s)) (hty : c.ty d = AV.ptr x 0) (hl : c.len x = 3) {t : Ex} (hs : c.ty s = AV.ex t) (hc : c.con x = AV.ex t) : StepOk c Q o [s] [] [2 * x, 2 * x + 1] := by
  refine step_new (x := x) true hd hdn hty fun F V Dt Dv a w h ht => ?_
  have hss := h.tmp s (ht _ (by simp)); rw [hs] at hss
  obtain ⟨k, n, A, l, cp, hu⟩ := ex_agg3 _ _ _ _ _ hss
  refine ⟨#[.int .i64 k, .int .i64 n, .slice A l cp], 126, ?_, by simp [hl], fun _ => by rw [hc, ← hu]; exact hss⟩
  have he : a.eval (.tmp s) = .agg #[.int .i64 k, .int .i64 n, .slice A l cp] := hu
  clear h hss hu
  rw [hP]; unfold execOp; simp only [ho]; generalize a.eval = ev at *; rw [he]; go_simp

/-- The start. -/
theorem typed_start {c : Cx} {Dt : Nat → Prop} {a : Act} {w : World} (hw : c.w0 = w) (hs : a.tmps.size = c.n) (hd : a.defers = []) (ht : ∀ t, Dt t → (c.ty t).den (fun b => c.S b ∧ b < w.heap.size) (fun _ => none) w (a.tmps.getD t undef)) : Typed c Dt (· ∈ ([] : List Nat)) a w := by
  subst hw
  exact ⟨_, _, Below.refl _ _, fun b hb => ⟨hb.2, hb.1⟩, fun x g hx => (by cases hx), fun x y g hx => (by cases hx), fun x hx => (by cases hx), ht, hs, hd⟩
/-- The result's variable at the end. -/
theorem typed_end3 {c : Cx} {Dt Dv : Nat → Prop} {a : Act} {w : World} (h : Typed c Dt Dv a w) {p x : Nat} (hp : c.ty p = AV.ptr x 0) (ht : Dt p) (hv : Dv (2 * x + 1)) (hl : c.len x = 3) :
    ∃ F V g u0 u1 u2, a.tmps.getD p undef = .pointer (some ⟨g, 0, none⟩) ∧ w.cell? ⟨g, 0, none⟩ = some u0 ∧ w.cell? ⟨g, 1, none⟩ = some u1 ∧ w.cell? ⟨g, 2, none⟩ = some u2 ∧ (c.con x).den F V w (.agg #[u0, u1, u2]) ∧ (∀ b, F b → c.S b) ∧ Below c.w0.heap.size c.w0 w ∧ a.defers = [] ∧ p < a.tmps.size := by
  obtain ⟨F, V, h⟩ := h
  have hpp := h.tmp p ht; rw [hp] at hpp
  obtain ⟨g, hg, e⟩ := hpp
  obtain ⟨h1, h2, h3, cs, T, h4, h5, h6⟩ := h.vars x g hg
  have h6 := h6 hv
  rw [hl] at h5
  obtain ⟨l⟩ := cs
  match l, h5, h4, h6 with
  | [u0, u1, u2], _, hb, hc =>
    have hv : VB w g T #[u0, u1, u2] := hb
    refine ⟨F, V, g, u0, u1, u2, e, hv.c3.1, hv.c3.2.1, hv.c3.2.2, hc, fun b hF => (h.own b hF).2, h.below, h.defers, ?_⟩
    rcases Nat.lt_or_ge p a.tmps.size with hlt | hge
    · exact hlt
    · have e2 : a.tmps.getD p undef = undef := by simp [Array.getD, Nat.not_lt.2 hge]
      rw [e2] at e; cases e

end Go.Proofs.Ytgohnekaolgblaa
