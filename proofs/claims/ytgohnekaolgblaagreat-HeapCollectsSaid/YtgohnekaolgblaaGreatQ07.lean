/- The kinds of slots of heap's makers of programs, and one law an operation (printed by wip/gen_lotyp.py). -/
import Derived.Test.YtgohnekaolgblaaGreatQ06
import Derived.ArgAppend
import Derived.LoadGo2
import Derived.Test.YtgohnekaolgblaaGreatQ05
import Derived.Maps.AppendAt
namespace Go.Proofs.YtgohnekaolgblaaGreat
open Go.RowKit

theorem Grow.ex {F F' : Nat → Prop} {V V' : Nat → Option Nat} {w w' : World} (h : Grow F V w F' V' w') {t : Ex} {v : Value} (k : Ex.at F w t v) : Ex.at F' w' t v := Ex.at_keep h.size h.mem h.cell t v k
theorem Grow.exl {F F' : Nat → Prop} {V V' : Nat → Option Nat} {w w' : World} (h : Grow F V w F' V' w') {t : List Ex} {v : Value} (k : ExL F w t v) : ExL F' w' t v := ExL.keep h.size h.mem h.cell k
theorem Grow.lo {F F' : Nat → Prop} {V V' : Nat → Option Nat} {w w' : World} (h : Grow F V w F' V' w') {t : Lo} {v : Value} (k : Lo.at F w t v) : Lo.at F' w' t v := Lo.at_keep h.size h.mem h.cell t v k
theorem Grow.lol {F F' : Nat → Prop} {V V' : Nat → Option Nat} {w w' : World} (h : Grow F V w F' V' w') {t : List Lo} {v : Value} (k : LoL F w t v) : LoL F' w' t v := LoL.keep h.size h.mem h.cell k
theorem FnAt.keep {F F' : Nat → Prop} {V V' : Nat → Option Nat} {w w' : World} (h : Grow F V w F' V' w') {p n : Int} {l : List Lo} {v : Value} (k : FnAt F w p n l v) : FnAt F' w' p n l v := let ⟨u, e, k⟩ := k; ⟨u, e, h.lol k⟩
def AV.ex (t : Ex) : AV := ⟨fun F _ w v => Ex.at F w t v, fun h _ k => h.ex k⟩
def AV.exl (t : List Ex) : AV := ⟨fun F _ w v => ExL F w t v, fun h _ k => h.exl k⟩
def AV.lo (t : Lo) : AV := ⟨fun F _ w v => Lo.at F w t v, fun h _ k => h.lo k⟩
def AV.lol (t : List Lo) : AV := ⟨fun F _ w v => LoL F w t v, fun h _ k => h.lol k⟩
def AV.fn (p n : Int) (l : List Lo) : AV := ⟨fun F _ w v => FnAt F w p n l v, fun h _ k => k.keep h⟩
abbrev AV.i (n : Int) : AV := AV.raw (.int .i64 n)

/-- The set for a call's contract, and back. -/
abbrev withNew (F : Nat → Prop) (w : World) : Nat → Prop := fun b => F b ∨ w.heap.size ≤ b
abbrev grownTo (F : Nat → Prop) (w w' : World) : Nat → Prop := fun b => F b ∨ (w.heap.size ≤ b ∧ b < w'.heap.size)
theorem New.withNew (F : Nat → Prop) (w : World) : New (withNew F w) w := fun _ hb => .inr hb
theorem Ex.at.inn {F : Nat → Prop} {w : World} {t : Ex} {v : Value} (h : Ex.at F w t v) : Ex.at (withNew F w) w t v := h.mono fun _ _ h => .inl h
theorem ExL.inn {F : Nat → Prop} {w : World} {t : List Ex} {v : Value} (h : ExL F w t v) : ExL (withNew F w) w t v := h.mono fun _ _ h => .inl h
theorem Lo.at.inn {F : Nat → Prop} {w : World} {t : Lo} {v : Value} (h : Lo.at F w t v) : Lo.at (withNew F w) w t v := h.mono fun _ _ h => .inl h
theorem LoL.inn {F : Nat → Prop} {w : World} {t : List Lo} {v : Value} (h : LoL F w t v) : LoL (withNew F w) w t v := h.mono fun _ _ h => .inl h
theorem Ex.at.outt {F : Nat → Prop} {w w' : World} {t : Ex} {v : Value} (h : Ex.at (withNew F w) w' t v) : Ex.at (grownTo F w w') w' t v := h.mono fun _ hb h => h.imp id fun h => ⟨h, hb⟩
theorem ExL.outt {F : Nat → Prop} {w w' : World} {t : List Ex} {v : Value} (h : ExL (withNew F w) w' t v) : ExL (grownTo F w w') w' t v := h.mono fun _ hb h => h.imp id fun h => ⟨h, hb⟩
theorem Lo.at.outt {F : Nat → Prop} {w w' : World} {t : Lo} {v : Value} (h : Lo.at (withNew F w) w' t v) : Lo.at (grownTo F w w') w' t v := h.mono fun _ hb h => h.imp id fun h => ⟨h, hb⟩
theorem LoL.outt {F : Nat → Prop} {w w' : World} {t : List Lo} {v : Value} (h : LoL (withNew F w) w' t v) : LoL (grownTo F w w') w' t v := h.mono fun _ hb h => h.imp id fun h => ⟨h, hb⟩

/-- A call of a function that is known. -/
theorem run_call {P : Program} {o : Oper} {a : Act} {w : World} {f : Nat} {args : Array Operand} {tys : Array TypeId} {fn : Func} (hf : P.funcs[f]? = some fn) (hn : (fn.name == "runtime.NumGoroutine") = false) (hb : fn.body.isNone = false)
    (ho : o.op = .call { callee := .value (.func f), args := args, argTypes := tys }) : (execOp a.eval o).run P w = .ok (.enter f (args.map a.eval)) w := by
  unfold execOp
  simp only [ho, resolve]
  have he : a.eval (.func f) = .func (.func f) #[] #[] := rfl
  have h1 : fn.name ≠ "runtime.NumGoroutine" := by simpa using hn
  have h2 : ¬ fn.body = none := by intro h; simp [h] at hb
  rw [he]
  simp [Deferred.ofValue, invoke, callFunc, hf, h1, h2, go_sem]

theorem st_call {c : Cx} {Q : Exit → Act → World → Prop} {o : Oper} {ut : List Nat} {d f : Nat} {args : Array Operand} {tys : Array TypeId} {fn : Func} (hN : ∀ b, c.w0.heap.size ≤ b → c.S b)
    (hf : c.P.funcs[f]? = some fn) (hn : (fn.name == "runtime.NumGoroutine") = false) (hb : fn.body.isNone = false) (hd : o.dst = some d) (hdn : d < c.n)
    (ho : o.op = .call { callee := .value (.func f), args := args, argTypes := tys })
    (hcall : ∀ F V Dt Dv a w, TS c F V Dt Dv a w → (∀ t ∈ ut, Dt t) → Calls c.P f (args.map a.eval) w fun e w' => ∃ v, e = .returned v ∧ (c.ty d).den (grownTo F w w') V w' v ∧ Below w.heap.size w w') : StepOk c Q o ut [] [] := by
  refine step_call hN fun F V Dt Dv a w h ht _ => ⟨f, args.map a.eval, run_call hf hn hb ho, (hcall F V Dt Dv a w h ht).mono ?_⟩
  rintro e w' ⟨v, rfl, h1, h2⟩
  exact ⟨v, rfl, h2, fun d' hd' => by rw [hd] at hd'; simp only [Option.some.injEq] at hd'; subst hd'; exact ⟨hdn, h1⟩⟩

theorem mk_num {c : Cx} (hP : c.P = Tryz.prog) (hN : ∀ b, c.w0.heap.size ≤ b → c.S b) {Q : Exit → Act → World → Prop} {o : Oper} {d : Nat} {tys : Array TypeId} {n0 : Int} (hd : o.dst = some d) (hdn : d < c.n)
    (ho : o.op = .call { callee := .value (.func 66), args := #[.const (.int .i64 n0)], argTypes := tys }) (hty : c.ty d = AV.ex (.mk 1 n0 [])) : StepOk c Q o [] [] [] := by
  refine st_call hN (by rw [hP]; exact Tryz.func66) (by kernel_rfl) (by kernel_rfl) hd hdn ho fun F V Dt Dv a w h ht => ?_
  have e : (#[.const (.int .i64 n0)] : Array Operand).map a.eval = #[.int .i64 n0] := by simp [Act.eval]
  rw [e, hP, hty]
  refine (loNum (withNew F w) n0 w (New.withNew F w) ).mono ?_
  rintro _ w' ⟨v, rfl, hv, hb⟩
  exact ⟨v, rfl, hv.outt, hb⟩

theorem mk_local {c : Cx} (hP : c.P = Tryz.prog) (hN : ∀ b, c.w0.heap.size ≤ b → c.S b) {Q : Exit → Act → World → Prop} {o : Oper} {d : Nat} {tys : Array TypeId} {n0 : Int} (hd : o.dst = some d) (hdn : d < c.n)
    (ho : o.op = .call { callee := .value (.func 62), args := #[.const (.int .i64 n0)], argTypes := tys }) (hty : c.ty d = AV.ex (.mk 2 n0 [])) : StepOk c Q o [] [] [] := by
  refine st_call hN (by rw [hP]; exact Tryz.func62) (by kernel_rfl) (by kernel_rfl) hd hdn ho fun F V Dt Dv a w h ht => ?_
  have e : (#[.const (.int .i64 n0)] : Array Operand).map a.eval = #[.int .i64 n0] := by simp [Act.eval]
  rw [e, hP, hty]
  refine (loLocal (withNew F w) n0 w (New.withNew F w) ).mono ?_
  rintro _ w' ⟨v, rfl, hv, hb⟩
  exact ⟨v, rfl, hv.outt, hb⟩

theorem mk_global {c : Cx} (hP : c.P = Tryz.prog) (hN : ∀ b, c.w0.heap.size ≤ b → c.S b) {Q : Exit → Act → World → Prop} {o : Oper} {d : Nat} {tys : Array TypeId} {n0 : Int} (hd : o.dst = some d) (hdn : d < c.n)
    (ho : o.op = .call { callee := .value (.func 69), args := #[.const (.int .i64 n0)], argTypes := tys }) (hty : c.ty d = AV.ex (.mk 3 n0 [])) : StepOk c Q o [] [] [] := by
  refine st_call hN (by rw [hP]; exact Tryz.func69) (by kernel_rfl) (by kernel_rfl) hd hdn ho fun F V Dt Dv a w h ht => ?_
  have e : (#[.const (.int .i64 n0)] : Array Operand).map a.eval = #[.int .i64 n0] := by simp [Act.eval]
  rw [e, hP, hty]
  refine (loGlobal (withNew F w) n0 w (New.withNew F w) ).mono ?_
  rintro _ w' ⟨v, rfl, hv, hb⟩
  exact ⟨v, rfl, hv.outt, hb⟩

theorem mk_load {c : Cx} (hP : c.P = Tryz.prog) (hN : ∀ b, c.w0.heap.size ≤ b → c.S b) {Q : Exit → Act → World → Prop} {o : Oper} {d : Nat} {tys : Array TypeId} {s0 : Ex} {x0 : Nat} (hx0 : c.ty x0 = AV.ex s0) (hd : o.dst = some d) (hdn : d < c.n)
    (ho : o.op = .call { callee := .value (.func 61), args := #[.tmp x0], argTypes := tys }) (hty : c.ty d = AV.ex (.mk 4 0 [s0])) : StepOk c Q o [x0] [] [] := by
  refine st_call hN (by rw [hP]; exact Tryz.func61) (by kernel_rfl) (by kernel_rfl) hd hdn ho fun F V Dt Dv a w h ht => ?_
  have k0 : Ex.at F w s0 (a.tmps.getD x0 undef) := by have := h.tmp x0 (ht _ (by simp)); rw [hx0] at this; exact this
  have e : (#[.tmp x0] : Array Operand).map a.eval = #[a.tmps.getD x0 undef] := by simp [Act.eval]
  rw [e, hP, hty]
  refine (loLoad (withNew F w) s0 _ w (New.withNew F w) k0.inn).mono ?_
  rintro _ w' ⟨v, rfl, hv, hb⟩
  exact ⟨v, rfl, hv.outt, hb⟩

theorem mk_not {c : Cx} (hP : c.P = Tryz.prog) (hN : ∀ b, c.w0.heap.size ≤ b → c.S b) {Q : Exit → Act → World → Prop} {o : Oper} {d : Nat} {tys : Array TypeId} {s0 : Ex} {x0 : Nat} (hx0 : c.ty x0 = AV.ex s0) (hd : o.dst = some d) (hdn : d < c.n)
    (ho : o.op = .call { callee := .value (.func 75), args := #[.tmp x0], argTypes := tys }) (hty : c.ty d = AV.ex (.mk 6 69 [s0])) : StepOk c Q o [x0] [] [] := by
  refine st_call hN (by rw [hP]; exact Tryz.func75) (by kernel_rfl) (by kernel_rfl) hd hdn ho fun F V Dt Dv a w h ht => ?_
  have k0 : Ex.at F w s0 (a.tmps.getD x0 undef) := by have := h.tmp x0 (ht _ (by simp)); rw [hx0] at this; exact this
  have e : (#[.tmp x0] : Array Operand).map a.eval = #[a.tmps.getD x0 undef] := by simp [Act.eval]
  rw [e, hP, hty]
  refine (loNot (withNew F w) s0 _ w (New.withNew F w) k0.inn).mono ?_
  rintro _ w' ⟨v, rfl, hv, hb⟩
  exact ⟨v, rfl, hv.outt, hb⟩

theorem mk_two {c : Cx} (hP : c.P = Tryz.prog) (hN : ∀ b, c.w0.heap.size ≤ b → c.S b) {Q : Exit → Act → World → Prop} {o : Oper} {d : Nat} {tys : Array TypeId} {n0 : Int} {s1 : Ex} {x1 : Nat} {s2 : Ex} {x2 : Nat} (hx1 : c.ty x1 = AV.ex s1) (hx2 : c.ty x2 = AV.ex s2) (hd : o.dst = some d) (hdn : d < c.n)
    (ho : o.op = .call { callee := .value (.func 68), args := #[.const (.int .i64 n0), .tmp x1, .tmp x2], argTypes := tys }) (hty : c.ty d = AV.ex (.mk 7 n0 [s1, s2])) : StepOk c Q o [x1, x2] [] [] := by
  refine st_call hN (by rw [hP]; exact Tryz.func68) (by kernel_rfl) (by kernel_rfl) hd hdn ho fun F V Dt Dv a w h ht => ?_
  have k1 : Ex.at F w s1 (a.tmps.getD x1 undef) := by have := h.tmp x1 (ht _ (by simp)); rw [hx1] at this; exact this
  have k2 : Ex.at F w s2 (a.tmps.getD x2 undef) := by have := h.tmp x2 (ht _ (by simp)); rw [hx2] at this; exact this
  have e : (#[.const (.int .i64 n0), .tmp x1, .tmp x2] : Array Operand).map a.eval = #[.int .i64 n0, a.tmps.getD x1 undef, a.tmps.getD x2 undef] := by simp [Act.eval]
  rw [e, hP, hty]
  refine (loTwo (withNew F w) n0 s1 _ s2 _ w (New.withNew F w) k1.inn k2.inn).mono ?_
  rintro _ w' ⟨v, rfl, hv, hb⟩
  exact ⟨v, rfl, hv.outt, hb⟩

theorem mk_add {c : Cx} (hP : c.P = Tryz.prog) (hN : ∀ b, c.w0.heap.size ≤ b → c.S b) {Q : Exit → Act → World → Prop} {o : Oper} {d : Nat} {tys : Array TypeId} {s0 : Ex} {x0 : Nat} {s1 : Ex} {x1 : Nat} (hx0 : c.ty x0 = AV.ex s0) (hx1 : c.ty x1 = AV.ex s1) (hd : o.dst = some d) (hdn : d < c.n)
    (ho : o.op = .call { callee := .value (.func 65), args := #[.tmp x0, .tmp x1], argTypes := tys }) (hty : c.ty d = AV.ex (.mk 7 106 [s0, s1])) : StepOk c Q o [x0, x1] [] [] := by
  refine st_call hN (by rw [hP]; exact Tryz.func65) (by kernel_rfl) (by kernel_rfl) hd hdn ho fun F V Dt Dv a w h ht => ?_
  have k0 : Ex.at F w s0 (a.tmps.getD x0 undef) := by have := h.tmp x0 (ht _ (by simp)); rw [hx0] at this; exact this
  have k1 : Ex.at F w s1 (a.tmps.getD x1 undef) := by have := h.tmp x1 (ht _ (by simp)); rw [hx1] at this; exact this
  have e : (#[.tmp x0, .tmp x1] : Array Operand).map a.eval = #[a.tmps.getD x0 undef, a.tmps.getD x1 undef] := by simp [Act.eval]
  rw [e, hP, hty]
  refine (loAdd (withNew F w) s0 _ s1 _ w (New.withNew F w) k0.inn k1.inn).mono ?_
  rintro _ w' ⟨v, rfl, hv, hb⟩
  exact ⟨v, rfl, hv.outt, hb⟩

theorem mk_set {c : Cx} (hP : c.P = Tryz.prog) (hN : ∀ b, c.w0.heap.size ≤ b → c.S b) {Q : Exit → Act → World → Prop} {o : Oper} {d : Nat} {tys : Array TypeId} {n0 : Int} {s1 : Ex} {x1 : Nat} (hx1 : c.ty x1 = AV.ex s1) (hd : o.dst = some d) (hdn : d < c.n)
    (ho : o.op = .call { callee := .value (.func 64), args := #[.const (.int .i64 n0), .tmp x1], argTypes := tys }) (hty : c.ty d = AV.lo (.mk 1 n0 0 [s1] [])) : StepOk c Q o [x1] [] [] := by
  refine st_call hN (by rw [hP]; exact Tryz.func64) (by kernel_rfl) (by kernel_rfl) hd hdn ho fun F V Dt Dv a w h ht => ?_
  have k1 : Ex.at F w s1 (a.tmps.getD x1 undef) := by have := h.tmp x1 (ht _ (by simp)); rw [hx1] at this; exact this
  have e : (#[.const (.int .i64 n0), .tmp x1] : Array Operand).map a.eval = #[.int .i64 n0, a.tmps.getD x1 undef] := by simp [Act.eval]
  rw [e, hP, hty]
  refine (loSet (withNew F w) n0 s1 _ w (New.withNew F w) k1.inn).mono ?_
  rintro _ w' ⟨v, rfl, hv, hb⟩
  exact ⟨v, rfl, hv.outt, hb⟩

theorem mk_put {c : Cx} (hP : c.P = Tryz.prog) (hN : ∀ b, c.w0.heap.size ≤ b → c.S b) {Q : Exit → Act → World → Prop} {o : Oper} {d : Nat} {tys : Array TypeId} {n0 : Int} {s1 : Ex} {x1 : Nat} (hx1 : c.ty x1 = AV.ex s1) (hd : o.dst = some d) (hdn : d < c.n)
    (ho : o.op = .call { callee := .value (.func 71), args := #[.const (.int .i64 n0), .tmp x1], argTypes := tys }) (hty : c.ty d = AV.lo (.mk 2 n0 0 [s1] [])) : StepOk c Q o [x1] [] [] := by
  refine st_call hN (by rw [hP]; exact Tryz.func71) (by kernel_rfl) (by kernel_rfl) hd hdn ho fun F V Dt Dv a w h ht => ?_
  have k1 : Ex.at F w s1 (a.tmps.getD x1 undef) := by have := h.tmp x1 (ht _ (by simp)); rw [hx1] at this; exact this
  have e : (#[.const (.int .i64 n0), .tmp x1] : Array Operand).map a.eval = #[.int .i64 n0, a.tmps.getD x1 undef] := by simp [Act.eval]
  rw [e, hP, hty]
  refine (loPut (withNew F w) n0 s1 _ w (New.withNew F w) k1.inn).mono ?_
  rintro _ w' ⟨v, rfl, hv, hb⟩
  exact ⟨v, rfl, hv.outt, hb⟩

theorem mk_store {c : Cx} (hP : c.P = Tryz.prog) (hN : ∀ b, c.w0.heap.size ≤ b → c.S b) {Q : Exit → Act → World → Prop} {o : Oper} {d : Nat} {tys : Array TypeId} {s0 : Ex} {x0 : Nat} {s1 : Ex} {x1 : Nat} (hx0 : c.ty x0 = AV.ex s0) (hx1 : c.ty x1 = AV.ex s1) (hd : o.dst = some d) (hdn : d < c.n)
    (ho : o.op = .call { callee := .value (.func 63), args := #[.tmp x0, .tmp x1], argTypes := tys }) (hty : c.ty d = AV.lo (.mk 3 0 0 [s0, s1] [])) : StepOk c Q o [x0, x1] [] [] := by
  refine st_call hN (by rw [hP]; exact Tryz.func63) (by kernel_rfl) (by kernel_rfl) hd hdn ho fun F V Dt Dv a w h ht => ?_
  have k0 : Ex.at F w s0 (a.tmps.getD x0 undef) := by have := h.tmp x0 (ht _ (by simp)); rw [hx0] at this; exact this
  have k1 : Ex.at F w s1 (a.tmps.getD x1 undef) := by have := h.tmp x1 (ht _ (by simp)); rw [hx1] at this; exact this
  have e : (#[.tmp x0, .tmp x1] : Array Operand).map a.eval = #[a.tmps.getD x0 undef, a.tmps.getD x1 undef] := by simp [Act.eval]
  rw [e, hP, hty]
  refine (loStore (withNew F w) s0 _ s1 _ w (New.withNew F w) k0.inn k1.inn).mono ?_
  rintro _ w' ⟨v, rfl, hv, hb⟩
  exact ⟨v, rfl, hv.outt, hb⟩

theorem mk_tell {c : Cx} (hP : c.P = Tryz.prog) (hN : ∀ b, c.w0.heap.size ≤ b → c.S b) {Q : Exit → Act → World → Prop} {o : Oper} {d : Nat} {tys : Array TypeId} {s0 : Ex} {x0 : Nat} (hx0 : c.ty x0 = AV.ex s0) (hd : o.dst = some d) (hdn : d < c.n)
    (ho : o.op = .call { callee := .value (.func 74), args := #[.tmp x0], argTypes := tys }) (hty : c.ty d = AV.lo (.mk 9 0 0 [s0] [])) : StepOk c Q o [x0] [] [] := by
  refine st_call hN (by rw [hP]; exact Tryz.func74) (by kernel_rfl) (by kernel_rfl) hd hdn ho fun F V Dt Dv a w h ht => ?_
  have k0 : Ex.at F w s0 (a.tmps.getD x0 undef) := by have := h.tmp x0 (ht _ (by simp)); rw [hx0] at this; exact this
  have e : (#[.tmp x0] : Array Operand).map a.eval = #[a.tmps.getD x0 undef] := by simp [Act.eval]
  rw [e, hP, hty]
  refine (loTell (withNew F w) s0 _ w (New.withNew F w) k0.inn).mono ?_
  rintro _ w' ⟨v, rfl, hv, hb⟩
  exact ⟨v, rfl, hv.outt, hb⟩

theorem mk_when {c : Cx} (hP : c.P = Tryz.prog) (hN : ∀ b, c.w0.heap.size ≤ b → c.S b) {Q : Exit → Act → World → Prop} {o : Oper} {d : Nat} {tys : Array TypeId} {s0 : Ex} {x0 : Nat} {s1 : List Lo} {x1 : Nat} (hx0 : c.ty x0 = AV.ex s0) (hx1 : c.ty x1 = AV.lol s1) (hd : o.dst = some d) (hdn : d < c.n)
    (ho : o.op = .call { callee := .value (.func 67), args := #[.tmp x0, .tmp x1], argTypes := tys }) (hty : c.ty d = AV.lo (.mk 5 0 0 [s0] s1)) : StepOk c Q o [x0, x1] [] [] := by
  refine st_call hN (by rw [hP]; exact Tryz.func67) (by kernel_rfl) (by kernel_rfl) hd hdn ho fun F V Dt Dv a w h ht => ?_
  have k0 : Ex.at F w s0 (a.tmps.getD x0 undef) := by have := h.tmp x0 (ht _ (by simp)); rw [hx0] at this; exact this
  have k1 : LoL F w s1 (a.tmps.getD x1 undef) := by have := h.tmp x1 (ht _ (by simp)); rw [hx1] at this; exact this
  have e : (#[.tmp x0, .tmp x1] : Array Operand).map a.eval = #[a.tmps.getD x0 undef, a.tmps.getD x1 undef] := by simp [Act.eval]
  rw [e, hP, hty]
  refine (loWhen (withNew F w) s0 _ s1 _ w (New.withNew F w) k0.inn k1.inn).mono ?_
  rintro _ w' ⟨v, rfl, hv, hb⟩
  exact ⟨v, rfl, hv.outt, hb⟩

theorem mk_loop {c : Cx} (hP : c.P = Tryz.prog) (hN : ∀ b, c.w0.heap.size ≤ b → c.S b) {Q : Exit → Act → World → Prop} {o : Oper} {d : Nat} {tys : Array TypeId} {s0 : List Lo} {x0 : Nat} (hx0 : c.ty x0 = AV.lol s0) (hd : o.dst = some d) (hdn : d < c.n)
    (ho : o.op = .call { callee := .value (.func 72), args := #[.tmp x0], argTypes := tys }) (hty : c.ty d = AV.lo (.mk 6 0 0 [] s0)) : StepOk c Q o [x0] [] [] := by
  refine st_call hN (by rw [hP]; exact Tryz.func72) (by kernel_rfl) (by kernel_rfl) hd hdn ho fun F V Dt Dv a w h ht => ?_
  have k0 : LoL F w s0 (a.tmps.getD x0 undef) := by have := h.tmp x0 (ht _ (by simp)); rw [hx0] at this; exact this
  have e : (#[.tmp x0] : Array Operand).map a.eval = #[a.tmps.getD x0 undef] := by simp [Act.eval]
  rw [e, hP, hty]
  refine (loLoop (withNew F w) s0 _ w (New.withNew F w) k0.inn).mono ?_
  rintro _ w' ⟨v, rfl, hv, hb⟩
  exact ⟨v, rfl, hv.outt, hb⟩

theorem mk_leave {c : Cx} (hP : c.P = Tryz.prog) (hN : ∀ b, c.w0.heap.size ≤ b → c.S b) {Q : Exit → Act → World → Prop} {o : Oper} {d : Nat} {tys : Array TypeId} (hd : o.dst = some d) (hdn : d < c.n)
    (ho : o.op = .call { callee := .value (.func 70), args := #[], argTypes := tys }) (hty : c.ty d = AV.lo (.mk 7 0 0 [] [])) : StepOk c Q o [] [] [] := by
  refine st_call hN (by rw [hP]; exact Tryz.func70) (by kernel_rfl) (by kernel_rfl) hd hdn ho fun F V Dt Dv a w h ht => ?_
  have e : (#[] : Array Operand).map a.eval = #[] := by simp
  rw [e, hP, hty]
  refine (loLeave (withNew F w)  w (New.withNew F w) ).mono ?_
  rintro _ w' ⟨v, rfl, hv, hb⟩
  exact ⟨v, rfl, hv.outt, hb⟩

theorem mk_call {c : Cx} (hP : c.P = Tryz.prog) (hN : ∀ b, c.w0.heap.size ≤ b → c.S b) {Q : Exit → Act → World → Prop} {o : Oper} {d : Nat} {tys : Array TypeId} {n0 : Int} {n1 : Int} {s2 : List Ex} {x2 : Nat} (hx2 : c.ty x2 = AV.exl s2) (hd : o.dst = some d) (hdn : d < c.n)
    (ho : o.op = .call { callee := .value (.func 60), args := #[.const (.int .i64 n0), .const (.int .i64 n1), .tmp x2], argTypes := tys }) (hty : c.ty d = AV.lo (.mk 10 n0 n1 s2 [])) : StepOk c Q o [x2] [] [] := by
  refine st_call hN (by rw [hP]; exact Tryz.func60) (by kernel_rfl) (by kernel_rfl) hd hdn ho fun F V Dt Dv a w h ht => ?_
  have k2 : ExL F w s2 (a.tmps.getD x2 undef) := by have := h.tmp x2 (ht _ (by simp)); rw [hx2] at this; exact this
  have e : (#[.const (.int .i64 n0), .const (.int .i64 n1), .tmp x2] : Array Operand).map a.eval = #[.int .i64 n0, .int .i64 n1, a.tmps.getD x2 undef] := by simp [Act.eval]
  rw [e, hP, hty]
  refine (loCall (withNew F w) n0 n1 s2 _ w (New.withNew F w) k2.inn).mono ?_
  rintro _ w' ⟨v, rfl, hv, hb⟩
  exact ⟨v, rfl, hv.outt, hb⟩

theorem mk_numJ {c : Cx} (hP : c.P = Tryz.prog) (hN : ∀ b, c.w0.heap.size ≤ b → c.S b) {Q : Exit → Act → World → Prop} {o : Oper} {d : Nat} {tys : Array TypeId} {n0 : Int} {x0 : Nat} (hx0 : c.ty x0 = AV.i n0) (hd : o.dst = some d) (hdn : d < c.n)
    (ho : o.op = .call { callee := .value (.func 66), args := #[.tmp x0], argTypes := tys }) (hty : c.ty d = AV.ex (.mk 1 n0 [])) : StepOk c Q o [x0] [] [] := by
  refine st_call hN (by rw [hP]; exact Tryz.func66) (by kernel_rfl) (by kernel_rfl) hd hdn ho fun F V Dt Dv a w h ht => ?_
  have k0 : a.tmps.getD x0 undef = .int .i64 n0 := by have := h.tmp x0 (ht _ (by simp)); rw [hx0] at this; exact this
  have e : (#[.tmp x0] : Array Operand).map a.eval = #[.int .i64 n0] := by simp [Act.eval, k0]
  rw [e, hP, hty]
  refine (loNum (withNew F w) n0 w (New.withNew F w) ).mono ?_
  rintro _ w' ⟨v, rfl, hv, hb⟩
  exact ⟨v, rfl, hv.outt, hb⟩

theorem mk_callN {c : Cx} (hP : c.P = Tryz.prog) (hN : ∀ b, c.w0.heap.size ≤ b → c.S b) {Q : Exit → Act → World → Prop} {o : Oper} {d : Nat} {tys : Array TypeId} {n0 : Int} {n1 : Int} (hd : o.dst = some d) (hdn : d < c.n)
    (ho : o.op = .call { callee := .value (.func 60), args := #[.const (.int .i64 n0), .const (.int .i64 n1), .const (.slice none 0 0)], argTypes := tys }) (hty : c.ty d = AV.lo (.mk 10 n0 n1 [] [])) : StepOk c Q o [] [] [] := by
  refine st_call hN (by rw [hP]; exact Tryz.func60) (by kernel_rfl) (by kernel_rfl) hd hdn ho fun F V Dt Dv a w h ht => ?_
  have e : (#[.const (.int .i64 n0), .const (.int .i64 n1), .const (.slice none 0 0)] : Array Operand).map a.eval = #[.int .i64 n0, .int .i64 n1, .slice none 0 0] := by simp [Act.eval]
  rw [e, hP, hty]
  refine (loCall (withNew F w) n0 n1 [] _ w (New.withNew F w) (ExL.nil _ _)).mono ?_
  rintro _ w' ⟨v, rfl, hv, hb⟩
  exact ⟨v, rfl, hv.outt, hb⟩


/-- Plain values. -/
theorem st_same {c : Cx} {Q : Exit → Act → World → Prop} {o : Oper} {d x : Nat} (hd : o.dst = some d) (hdn : d < c.n) (ho : o.op = .move (.tmp x) ∨ o.op = .assign (.tmp x)) (hty : c.ty d = c.ty x) : StepOk c Q o [x] [] [] := by
  refine step_read fun F V Dt Dv a w h ht _ => ⟨a.tmps.getD x undef, ?_, fun d' hd' => ?_⟩
  · rcases ho with ho | ho <;> simp [execOp, ho, Act.eval, go_sem]
  · rw [hd] at hd'; simp only [Option.some.injEq] at hd'; subst hd'
    exact ⟨hdn, by rw [hty]; exact h.tmp x (ht _ (by simp))⟩
theorem st_const {c : Cx} {Q : Exit → Act → World → Prop} {o : Oper} {d : Nat} {v : Value} (hd : o.dst = some d) (hdn : d < c.n) (ho : o.op = .move (.const v) ∨ o.op = .assign (.const v)) (hty : c.ty d = AV.raw v) : StepOk c Q o [] [] [] := by
  refine step_read fun F V Dt Dv a w h ht _ => ⟨v, ?_, fun d' hd' => ?_⟩
  · rcases ho with ho | ho <;> simp [execOp, ho, Act.eval, go_sem]
  · rw [hd] at hd'; simp only [Option.some.injEq] at hd'; subst hd'
    exact ⟨hdn, by rw [hty]; exact rfl⟩
/-- A value is made out of values that are known whole. -/
theorem st_raw {c : Cx} {Q : Exit → Act → World → Prop} {o : Oper} {d x : Nat} {u v : Value} (hx : c.ty x = AV.raw u) (hd : o.dst = some d) (hdn : d < c.n) (hty : c.ty d = AV.raw v)
    (hrun : ∀ (a : Act) (w : World), a.eval (.tmp x) = u → (execOp a.eval o).run c.P w = .ok (.value v) w) : StepOk c Q o [x] [] [] := by
  refine step_read fun F V Dt Dv a w h ht _ => ⟨v, ?_, fun d' hd' => ?_⟩
  · refine hrun a w ?_
    have := h.tmp x (ht _ (by simp)); rw [hx] at this; exact this
  · rw [hd] at hd'; simp only [Option.some.injEq] at hd'; subst hd'
    exact ⟨hdn, by rw [hty]; exact rfl⟩
theorem st_field {c : Cx} {Q : Exit → Act → World → Prop} {o : Oper} {d p x f : Nat} (hp : c.ty p = AV.ptr x 0) (hd : o.dst = some d) (hdn : d < c.n) (hty : c.ty d = AV.ptr x f)
    (hrun : ∀ (a : Act) (w : World) (g : Nat), a.eval (.tmp p) = .pointer (some ⟨g, 0, none⟩) → (execOp a.eval o).run c.P w = .ok (.value (.pointer (some ⟨g, f, none⟩))) w) : StepOk c Q o [p] [] [] := by
  refine step_read fun F V Dt Dv a w h ht _ => ?_
  have := h.tmp p (ht _ (by simp)); rw [hp] at this
  obtain ⟨g, hg, e⟩ := this
  refine ⟨_, hrun a w g e, fun d' hd' => ?_⟩
  rw [hd] at hd'; simp only [Option.some.injEq] at hd'; subst hd'
  exact ⟨hdn, by rw [hty]; exact ⟨g, hg, rfl⟩⟩
/-- A variable is read. -/
theorem st_load {c : Cx} {Q : Exit → Act → World → Prop} {o : Oper} {d p x f : Nat} (hp : c.ty p = AV.ptr x f) (hd : o.dst = some d) (hdn : d < c.n)
    (hrun : ∀ F V (a : Act) (w : World) (g : Nat) (cs : Array Value) (T : TypeId), a.eval (.tmp p) = .pointer (some ⟨g, f, none⟩) → w.heap[g]? = some (.cells cs T (0, 0)) → cs.size = c.len x → (c.con x).den F V w (.agg cs) →
      ∃ v, (execOp a.eval o).run c.P w = .ok (.value v) w ∧ (c.ty d).den F V w v) : StepOk c Q o [p] [2 * x + 1] [] := by
  refine step_read fun F V Dt Dv a w h ht hv => ?_
  have hpp := h.tmp p (ht _ (by simp)); rw [hp] at hpp
  obtain ⟨g, hg, e⟩ := hpp
  obtain ⟨h1, h2, h3, cs, T, h4, h5, h6⟩ := h.vars x g hg
  obtain ⟨v, hr, hv⟩ := hrun F V a w g cs T e h4 h5 (h6 (hv _ (by simp)))
  refine ⟨v, hr, fun d' hd' => ?_⟩
  rw [hd] at hd'; simp only [Option.some.injEq] at hd'; subst hd'
  exact ⟨hdn, hv⟩
/-- A variable of three cells is read whole. -/
theorem st_load3 {c : Cx} {Q : Exit → Act → World → Prop} {o : Oper} {d p x : Nat} (hp : c.ty p = AV.ptr x 0) (hd : o.dst = some d) (hdn : d < c.n) (hl : c.len x = 3) (hty : c.ty d = c.con x)
    (hrun : ∀ (a : Act) (w : World) (g : Nat) (u0 u1 u2 : Value), a.eval (.tmp p) = .pointer (some ⟨g, 0, none⟩) → w.cell? ⟨g, 0, none⟩ = some u0 → w.cell? ⟨g, 1, none⟩ = some u1 → w.cell? ⟨g, 2, none⟩ = some u2 → (execOp a.eval o).run c.P w = .ok (.value (.agg #[u0, u1, u2])) w) :
    StepOk c Q o [p] [2 * x + 1] [] := by
  refine st_load hp hd hdn fun F V a w g cs T he hb hs hc => ?_
  rw [hl] at hs
  obtain ⟨l⟩ := cs
  match l, hs, hb, hc with
  | [u0, u1, u2], _, hb, hc =>
    have hv : VB w g T #[u0, u1, u2] := hb
    exact ⟨_, hrun a w g u0 u1 u2 he hv.c3.1 hv.c3.2.1 hv.c3.2.2, by rw [hty]; exact hc⟩
/-- A variable of three cells is stored. -/
theorem st_store3 {c : Cx} {Q : Exit → Act → World → Prop} {o : Oper} {p s x : Nat} (hp : c.ty p = AV.ptr x 0) (hd : o.dst = none) (hl : c.len x = 3) (hty : c.ty s = c.con x) (hagg : ∀ F V w v, (c.con x).den F V w v → ∃ k n A l c, v = .agg #[.int .i64 k, .int .i64 n, .slice A l c])
    (hrun : ∀ (a : Act) (w : World) (g : Nat) (k n : Int) (A : Option Addr) (l cp : Nat) (v0 v1 v2 : Value), a.eval (.tmp p) = .pointer (some ⟨g, 0, none⟩) → a.eval (.tmp s) = .agg #[.int .i64 k, .int .i64 n, .slice A l cp] → w.cell? ⟨g, 0, none⟩ = some v0 → w.cell? ⟨g, 1, none⟩ = some v1 → w.cell? ⟨g, 2, none⟩ = some v2 →
      w.frozen? ⟨g, 0, none⟩ = false → w.frozen? ⟨g, 1, none⟩ = false → w.frozen? ⟨g, 2, none⟩ = false → (execOp a.eval o).run c.P w = .ok .skip (((w.setCell ⟨g, 0, none⟩ (.int .i64 k)).setCell ⟨g, 1, none⟩ (.int .i64 n)).setCell ⟨g, 2, none⟩ (.slice A l cp))) :
    StepOk c Q o [p, s] [] [2 * x + 1] := by
  refine step_store hd fun F V Dt Dv a w h ht _ => ?_
  have hpp := h.tmp p (ht _ (by simp)); rw [hp] at hpp
  obtain ⟨g, hg, e⟩ := hpp
  have hss := h.tmp s (ht _ (by simp)); rw [hty] at hss
  obtain ⟨k, n, A, l', cp, hu⟩ := hagg _ _ _ _ hss
  refine ⟨g, hg, fun cs T hb hs => ?_⟩
  rw [hl] at hs
  obtain ⟨l⟩ := cs
  match l, hs, hb with
  | [v0, v1, v2], _, hb =>
    have hv : VB w g T #[v0, v1, v2] := hb
    refine ⟨#[.int .i64 k, .int .i64 n, .slice A l' cp], _, hrun a w g k n A l' cp v0 v1 v2 e hu hv.c3.1 hv.c3.2.1 hv.c3.2.2 (hv.free 0) (hv.free 1) (hv.free 2), rfl, rfl, rfl, by simp [World.setCell], hv.set3 _ _ _, fun b hb => ?_, by simp [hl], by rw [← hu]; exact hss⟩
    rw [Below.heap_setCell _ _ _ _ hb, Below.heap_setCell _ _ _ _ hb, Below.heap_setCell _ _ _ _ hb]
theorem ex_agg3 (t : Ex) : ∀ (F : Nat → Prop) (V : Nat → Option Nat) (w : World) (v : Value), (AV.ex t).den F V w v → ∃ k n A l c, v = .agg #[.int .i64 k, .int .i64 n, .slice A l c] := fun F V w v h => by
  obtain ⟨k, n, l⟩ := t
  obtain ⟨A, c, rfl⟩ := Ex.agg h
  exact ⟨_, _, _, _, _, rfl⟩
theorem fn_agg3 (p n : Int) (l : List Lo) : ∀ (F : Nat → Prop) (V : Nat → Option Nat) (w : World) (v : Value), (AV.fn p n l).den F V w v → ∃ k n A l c, v = .agg #[.int .i64 k, .int .i64 n, .slice A l c] := fun F V w v h => by
  obtain ⟨u, rfl, A, c, rfl, _⟩ := h
  exact ⟨_, _, _, _, _, rfl⟩
/-- A list of values in a new block. -/
theorem st_list {c : Cx} {Q : Exit → Act → World → Prop} {o : Oper} {d : Nat} {ut : List Nat} (hN : ∀ b, c.w0.heap.size ≤ b → c.S b) (hd : o.dst = some d) (hdn : d < c.n)
    (hrun : ∀ F V (a : Act) (w : World), (∀ t ∈ ut, (c.ty t).den F V w (a.tmps.getD t undef)) → ∃ cells T n, (execOp a.eval o).run c.P w = .ok (.value (.slice (some ⟨w.heap.size, 0, none⟩) n n)) (w.alloc (.cells cells T)) ∧ (c.ty d).den (grownTo F w (w.alloc (.cells cells T))) V (w.alloc (.cells cells T)) (.slice (some ⟨w.heap.size, 0, none⟩) n n)) : StepOk c Q o ut [] [] := by
  refine step_make hN fun F V Dt Dv a w h ht => ?_
  obtain ⟨cells, T, n, hr, hden⟩ := hrun F V a w fun t hu => h.tmp t (ht t hu)
  refine ⟨_, _, hr, B.alloc (B.refl w) _, fun d' hd' => ?_⟩
  rw [hd] at hd'; simp only [Option.some.injEq] at hd'; subst hd'
  exact ⟨hdn, hden⟩

theorem st_exs1 {c : Cx} (hP : c.P = Tryz.prog) (hN : ∀ b, c.w0.heap.size ≤ b → c.S b) {Q : Exit → Act → World → Prop} {o : Oper} {d : Nat} {x0 : Nat} {s0 : Ex} (h0 : c.ty x0 = AV.ex s0) (hd : o.dst = some d) (hdn : d < c.n)
    (ho : o.op = .buildSlice 73 1 #[(0, .tmp x0)]) (hty : c.ty d = AV.exl [s0]) : StepOk c Q o [x0] [] [] := by
  refine st_list hN hd hdn fun F V a w h => ?_
  have k0 : Ex.at F w s0 (a.eval (.tmp x0)) := by have := h x0 (by simp); rw [h0] at this; exact this
  generalize a.eval = ev at *
  obtain ⟨p0, q0, l0⟩ := s0; obtain ⟨A0, c0, e0⟩ := Ex.agg k0; rw [e0] at k0
  have hnew : ∀ o, ExV (grownTo F w (w.alloc o)) w [.mk p0 q0 l0] [(.int .i64 p0, .int .i64 q0, .slice A0 l0.length c0)] := fun o => 
    ExV.cons (k0.mono fun _ _ h => .inl h) (ExV.nil _ _)
  refine ⟨#[.int .i64 p0, .int .i64 q0, .slice A0 l0.length c0], 79, 1, ?_, ?_⟩
  · rw [hP]; unfold execOp; simp only [ho, List.map_toArray, List.map_cons, List.map_nil, e0]; clear hnew k0; go_simp
  · rw [hty]; exact ExL.of _ (hnew _) _ _ rfl (by simp [maxLen]) _ rfl (.inr (by simp))

theorem st_exs2 {c : Cx} (hP : c.P = Tryz.prog) (hN : ∀ b, c.w0.heap.size ≤ b → c.S b) {Q : Exit → Act → World → Prop} {o : Oper} {d : Nat} {x0 : Nat} {s0 : Ex} (h0 : c.ty x0 = AV.ex s0) {x1 : Nat} {s1 : Ex} (h1 : c.ty x1 = AV.ex s1) (hd : o.dst = some d) (hdn : d < c.n)
    (ho : o.op = .buildSlice 73 2 #[(0, .tmp x0), (1, .tmp x1)]) (hty : c.ty d = AV.exl [s0, s1]) : StepOk c Q o [x0, x1] [] [] := by
  refine st_list hN hd hdn fun F V a w h => ?_
  have k0 : Ex.at F w s0 (a.eval (.tmp x0)) := by have := h x0 (by simp); rw [h0] at this; exact this
  have k1 : Ex.at F w s1 (a.eval (.tmp x1)) := by have := h x1 (by simp); rw [h1] at this; exact this
  generalize a.eval = ev at *
  obtain ⟨p0, q0, l0⟩ := s0; obtain ⟨A0, c0, e0⟩ := Ex.agg k0; rw [e0] at k0
  obtain ⟨p1, q1, l1⟩ := s1; obtain ⟨A1, c1, e1⟩ := Ex.agg k1; rw [e1] at k1
  have hnew : ∀ o, ExV (grownTo F w (w.alloc o)) w [.mk p0 q0 l0, .mk p1 q1 l1] [(.int .i64 p0, .int .i64 q0, .slice A0 l0.length c0), (.int .i64 p1, .int .i64 q1, .slice A1 l1.length c1)] := fun o => 
    ExV.cons (k0.mono fun _ _ h => .inl h) (ExV.cons (k1.mono fun _ _ h => .inl h) (ExV.nil _ _))
  refine ⟨#[.int .i64 p0, .int .i64 q0, .slice A0 l0.length c0, .int .i64 p1, .int .i64 q1, .slice A1 l1.length c1], 79, 2, ?_, ?_⟩
  · rw [hP]; unfold execOp; simp only [ho, List.map_toArray, List.map_cons, List.map_nil, e0, e1]; clear hnew k0 k1; go_simp
  · rw [hty]; exact ExL.of _ (hnew _) _ _ rfl (by simp [maxLen]) _ rfl (.inr (by simp))

theorem st_los1 {c : Cx} (hP : c.P = Tryz.prog) (hN : ∀ b, c.w0.heap.size ≤ b → c.S b) {Q : Exit → Act → World → Prop} {o : Oper} {d : Nat} {x0 : Nat} {s0 : Lo} (h0 : c.ty x0 = AV.lo s0) (hd : o.dst = some d) (hdn : d < c.n)
    (ho : o.op = .buildSlice 74 1 #[(0, .tmp x0)]) (hty : c.ty d = AV.lol [s0]) : StepOk c Q o [x0] [] [] := by
  refine st_list hN hd hdn fun F V a w h => ?_
  have k0 : Lo.at F w s0 (a.eval (.tmp x0)) := by have := h x0 (by simp); rw [h0] at this; exact this
  generalize a.eval = ev at *
  obtain ⟨p0, y0, q0, r0, l0⟩ := s0; obtain ⟨A0, c0, B0, d0, e0⟩ := Lo.agg k0; rw [e0] at k0
  have hnew : ∀ o, LoV (grownTo F w (w.alloc o)) w [.mk p0 y0 q0 r0 l0] [(.int .i64 p0, .int .i64 y0, .int .i64 q0, .slice A0 r0.length c0, .slice B0 l0.length d0, .slice none 0 0)] := fun o => 
    LoV.cons (k0.mono fun _ _ h => .inl h) (LoV.nil _ _)
  refine ⟨#[.int .i64 p0, .int .i64 y0, .int .i64 q0, .slice A0 r0.length c0, .slice B0 l0.length d0, .slice none 0 0], 77, 1, ?_, ?_⟩
  · rw [hP]; unfold execOp; simp only [ho, List.map_toArray, List.map_cons, List.map_nil, e0]; clear hnew k0; go_simp
  · rw [hty]; exact LoL.of _ (hnew _) _ _ rfl (by simp [maxLen]) _ rfl (.inr (by simp))

theorem st_los2 {c : Cx} (hP : c.P = Tryz.prog) (hN : ∀ b, c.w0.heap.size ≤ b → c.S b) {Q : Exit → Act → World → Prop} {o : Oper} {d : Nat} {x0 : Nat} {s0 : Lo} (h0 : c.ty x0 = AV.lo s0) {x1 : Nat} {s1 : Lo} (h1 : c.ty x1 = AV.lo s1) (hd : o.dst = some d) (hdn : d < c.n)
    (ho : o.op = .buildSlice 74 2 #[(0, .tmp x0), (1, .tmp x1)]) (hty : c.ty d = AV.lol [s0, s1]) : StepOk c Q o [x0, x1] [] [] := by
  refine st_list hN hd hdn fun F V a w h => ?_
  have k0 : Lo.at F w s0 (a.eval (.tmp x0)) := by have := h x0 (by simp); rw [h0] at this; exact this
  have k1 : Lo.at F w s1 (a.eval (.tmp x1)) := by have := h x1 (by simp); rw [h1] at this; exact this
  generalize a.eval = ev at *
  obtain ⟨p0, y0, q0, r0, l0⟩ := s0; obtain ⟨A0, c0, B0, d0, e0⟩ := Lo.agg k0; rw [e0] at k0
  obtain ⟨p1, y1, q1, r1, l1⟩ := s1; obtain ⟨A1, c1, B1, d1, e1⟩ := Lo.agg k1; rw [e1] at k1
  have hnew : ∀ o, LoV (grownTo F w (w.alloc o)) w [.mk p0 y0 q0 r0 l0, .mk p1 y1 q1 r1 l1] [(.int .i64 p0, .int .i64 y0, .int .i64 q0, .slice A0 r0.length c0, .slice B0 l0.length d0, .slice none 0 0), (.int .i64 p1, .int .i64 y1, .int .i64 q1, .slice A1 r1.length c1, .slice B1 l1.length d1, .slice none 0 0)] := fun o => 
    LoV.cons (k0.mono fun _ _ h => .inl h) (LoV.cons (k1.mono fun _ _ h => .inl h) (LoV.nil _ _))
  refine ⟨#[.int .i64 p0, .int .i64 y0, .int .i64 q0, .slice A0 r0.length c0, .slice B0 l0.length d0, .slice none 0 0, .int .i64 p1, .int .i64 y1, .int .i64 q1, .slice A1 r1.length c1, .slice B1 l1.length d1, .slice none 0 0], 77, 2, ?_, ?_⟩
  · rw [hP]; unfold execOp; simp only [ho, List.map_toArray, List.map_cons, List.map_nil, e0, e1]; clear hnew k0 k1; go_simp
  · rw [hty]; exact LoL.of _ (hnew _) _ _ rfl (by simp [maxLen]) _ rfl (.inr (by simp))

theorem st_los3 {c : Cx} (hP : c.P = Tryz.prog) (hN : ∀ b, c.w0.heap.size ≤ b → c.S b) {Q : Exit → Act → World → Prop} {o : Oper} {d : Nat} {x0 : Nat} {s0 : Lo} (h0 : c.ty x0 = AV.lo s0) {x1 : Nat} {s1 : Lo} (h1 : c.ty x1 = AV.lo s1) {x2 : Nat} {s2 : Lo} (h2 : c.ty x2 = AV.lo s2) (hd : o.dst = some d) (hdn : d < c.n)
    (ho : o.op = .buildSlice 74 3 #[(0, .tmp x0), (1, .tmp x1), (2, .tmp x2)]) (hty : c.ty d = AV.lol [s0, s1, s2]) : StepOk c Q o [x0, x1, x2] [] [] := by
  refine st_list hN hd hdn fun F V a w h => ?_
  have k0 : Lo.at F w s0 (a.eval (.tmp x0)) := by have := h x0 (by simp); rw [h0] at this; exact this
  have k1 : Lo.at F w s1 (a.eval (.tmp x1)) := by have := h x1 (by simp); rw [h1] at this; exact this
  have k2 : Lo.at F w s2 (a.eval (.tmp x2)) := by have := h x2 (by simp); rw [h2] at this; exact this
  generalize a.eval = ev at *
  obtain ⟨p0, y0, q0, r0, l0⟩ := s0; obtain ⟨A0, c0, B0, d0, e0⟩ := Lo.agg k0; rw [e0] at k0
  obtain ⟨p1, y1, q1, r1, l1⟩ := s1; obtain ⟨A1, c1, B1, d1, e1⟩ := Lo.agg k1; rw [e1] at k1
  obtain ⟨p2, y2, q2, r2, l2⟩ := s2; obtain ⟨A2, c2, B2, d2, e2⟩ := Lo.agg k2; rw [e2] at k2
  have hnew : ∀ o, LoV (grownTo F w (w.alloc o)) w [.mk p0 y0 q0 r0 l0, .mk p1 y1 q1 r1 l1, .mk p2 y2 q2 r2 l2] [(.int .i64 p0, .int .i64 y0, .int .i64 q0, .slice A0 r0.length c0, .slice B0 l0.length d0, .slice none 0 0), (.int .i64 p1, .int .i64 y1, .int .i64 q1, .slice A1 r1.length c1, .slice B1 l1.length d1, .slice none 0 0), (.int .i64 p2, .int .i64 y2, .int .i64 q2, .slice A2 r2.length c2, .slice B2 l2.length d2, .slice none 0 0)] := fun o => 
    LoV.cons (k0.mono fun _ _ h => .inl h) (LoV.cons (k1.mono fun _ _ h => .inl h) (LoV.cons (k2.mono fun _ _ h => .inl h) (LoV.nil _ _)))
  refine ⟨#[.int .i64 p0, .int .i64 y0, .int .i64 q0, .slice A0 r0.length c0, .slice B0 l0.length d0, .slice none 0 0, .int .i64 p1, .int .i64 y1, .int .i64 q1, .slice A1 r1.length c1, .slice B1 l1.length d1, .slice none 0 0, .int .i64 p2, .int .i64 y2, .int .i64 q2, .slice A2 r2.length c2, .slice B2 l2.length d2, .slice none 0 0], 77, 3, ?_, ?_⟩
  · rw [hP]; unfold execOp; simp only [ho, List.map_toArray, List.map_cons, List.map_nil, e0, e1, e2]; clear hnew k0 k1 k2; go_simp
  · rw [hty]; exact LoL.of _ (hnew _) _ _ rfl (by simp [maxLen]) _ rfl (.inr (by simp))

theorem st_los4 {c : Cx} (hP : c.P = Tryz.prog) (hN : ∀ b, c.w0.heap.size ≤ b → c.S b) {Q : Exit → Act → World → Prop} {o : Oper} {d : Nat} {x0 : Nat} {s0 : Lo} (h0 : c.ty x0 = AV.lo s0) {x1 : Nat} {s1 : Lo} (h1 : c.ty x1 = AV.lo s1) {x2 : Nat} {s2 : Lo} (h2 : c.ty x2 = AV.lo s2) {x3 : Nat} {s3 : Lo} (h3 : c.ty x3 = AV.lo s3) (hd : o.dst = some d) (hdn : d < c.n)
    (ho : o.op = .buildSlice 74 4 #[(0, .tmp x0), (1, .tmp x1), (2, .tmp x2), (3, .tmp x3)]) (hty : c.ty d = AV.lol [s0, s1, s2, s3]) : StepOk c Q o [x0, x1, x2, x3] [] [] := by
  refine st_list hN hd hdn fun F V a w h => ?_
  have k0 : Lo.at F w s0 (a.eval (.tmp x0)) := by have := h x0 (by simp); rw [h0] at this; exact this
  have k1 : Lo.at F w s1 (a.eval (.tmp x1)) := by have := h x1 (by simp); rw [h1] at this; exact this
  have k2 : Lo.at F w s2 (a.eval (.tmp x2)) := by have := h x2 (by simp); rw [h2] at this; exact this
  have k3 : Lo.at F w s3 (a.eval (.tmp x3)) := by have := h x3 (by simp); rw [h3] at this; exact this
  generalize a.eval = ev at *
  obtain ⟨p0, y0, q0, r0, l0⟩ := s0; obtain ⟨A0, c0, B0, d0, e0⟩ := Lo.agg k0; rw [e0] at k0
  obtain ⟨p1, y1, q1, r1, l1⟩ := s1; obtain ⟨A1, c1, B1, d1, e1⟩ := Lo.agg k1; rw [e1] at k1
  obtain ⟨p2, y2, q2, r2, l2⟩ := s2; obtain ⟨A2, c2, B2, d2, e2⟩ := Lo.agg k2; rw [e2] at k2
  obtain ⟨p3, y3, q3, r3, l3⟩ := s3; obtain ⟨A3, c3, B3, d3, e3⟩ := Lo.agg k3; rw [e3] at k3
  have hnew : ∀ o, LoV (grownTo F w (w.alloc o)) w [.mk p0 y0 q0 r0 l0, .mk p1 y1 q1 r1 l1, .mk p2 y2 q2 r2 l2, .mk p3 y3 q3 r3 l3] [(.int .i64 p0, .int .i64 y0, .int .i64 q0, .slice A0 r0.length c0, .slice B0 l0.length d0, .slice none 0 0), (.int .i64 p1, .int .i64 y1, .int .i64 q1, .slice A1 r1.length c1, .slice B1 l1.length d1, .slice none 0 0), (.int .i64 p2, .int .i64 y2, .int .i64 q2, .slice A2 r2.length c2, .slice B2 l2.length d2, .slice none 0 0), (.int .i64 p3, .int .i64 y3, .int .i64 q3, .slice A3 r3.length c3, .slice B3 l3.length d3, .slice none 0 0)] := fun o => 
    LoV.cons (k0.mono fun _ _ h => .inl h) (LoV.cons (k1.mono fun _ _ h => .inl h) (LoV.cons (k2.mono fun _ _ h => .inl h) (LoV.cons (k3.mono fun _ _ h => .inl h) (LoV.nil _ _))))
  refine ⟨#[.int .i64 p0, .int .i64 y0, .int .i64 q0, .slice A0 r0.length c0, .slice B0 l0.length d0, .slice none 0 0, .int .i64 p1, .int .i64 y1, .int .i64 q1, .slice A1 r1.length c1, .slice B1 l1.length d1, .slice none 0 0, .int .i64 p2, .int .i64 y2, .int .i64 q2, .slice A2 r2.length c2, .slice B2 l2.length d2, .slice none 0 0, .int .i64 p3, .int .i64 y3, .int .i64 q3, .slice A3 r3.length c3, .slice B3 l3.length d3, .slice none 0 0], 77, 4, ?_, ?_⟩
  · rw [hP]; unfold execOp; simp only [ho, List.map_toArray, List.map_cons, List.map_nil, e0, e1, e2, e3]; clear hnew k0 k1 k2 k3; go_simp
  · rw [hty]; exact LoL.of _ (hnew _) _ _ rfl (by simp [maxLen]) _ rfl (.inr (by simp))

theorem st_los6 {c : Cx} (hP : c.P = Tryz.prog) (hN : ∀ b, c.w0.heap.size ≤ b → c.S b) {Q : Exit → Act → World → Prop} {o : Oper} {d : Nat} {x0 : Nat} {s0 : Lo} (h0 : c.ty x0 = AV.lo s0) {x1 : Nat} {s1 : Lo} (h1 : c.ty x1 = AV.lo s1) {x2 : Nat} {s2 : Lo} (h2 : c.ty x2 = AV.lo s2) {x3 : Nat} {s3 : Lo} (h3 : c.ty x3 = AV.lo s3) {x4 : Nat} {s4 : Lo} (h4 : c.ty x4 = AV.lo s4) {x5 : Nat} {s5 : Lo} (h5 : c.ty x5 = AV.lo s5) (hd : o.dst = some d) (hdn : d < c.n)
    (ho : o.op = .buildSlice 74 6 #[(0, .tmp x0), (1, .tmp x1), (2, .tmp x2), (3, .tmp x3), (4, .tmp x4), (5, .tmp x5)]) (hty : c.ty d = AV.lol [s0, s1, s2, s3, s4, s5]) : StepOk c Q o [x0, x1, x2, x3, x4, x5] [] [] := by
  refine st_list hN hd hdn fun F V a w h => ?_
  have k0 : Lo.at F w s0 (a.eval (.tmp x0)) := by have := h x0 (by simp); rw [h0] at this; exact this
  have k1 : Lo.at F w s1 (a.eval (.tmp x1)) := by have := h x1 (by simp); rw [h1] at this; exact this
  have k2 : Lo.at F w s2 (a.eval (.tmp x2)) := by have := h x2 (by simp); rw [h2] at this; exact this
  have k3 : Lo.at F w s3 (a.eval (.tmp x3)) := by have := h x3 (by simp); rw [h3] at this; exact this
  have k4 : Lo.at F w s4 (a.eval (.tmp x4)) := by have := h x4 (by simp); rw [h4] at this; exact this
  have k5 : Lo.at F w s5 (a.eval (.tmp x5)) := by have := h x5 (by simp); rw [h5] at this; exact this
  generalize a.eval = ev at *
  obtain ⟨p0, y0, q0, r0, l0⟩ := s0; obtain ⟨A0, c0, B0, d0, e0⟩ := Lo.agg k0; rw [e0] at k0
  obtain ⟨p1, y1, q1, r1, l1⟩ := s1; obtain ⟨A1, c1, B1, d1, e1⟩ := Lo.agg k1; rw [e1] at k1
  obtain ⟨p2, y2, q2, r2, l2⟩ := s2; obtain ⟨A2, c2, B2, d2, e2⟩ := Lo.agg k2; rw [e2] at k2
  obtain ⟨p3, y3, q3, r3, l3⟩ := s3; obtain ⟨A3, c3, B3, d3, e3⟩ := Lo.agg k3; rw [e3] at k3
  obtain ⟨p4, y4, q4, r4, l4⟩ := s4; obtain ⟨A4, c4, B4, d4, e4⟩ := Lo.agg k4; rw [e4] at k4
  obtain ⟨p5, y5, q5, r5, l5⟩ := s5; obtain ⟨A5, c5, B5, d5, e5⟩ := Lo.agg k5; rw [e5] at k5
  have hnew : ∀ o, LoV (grownTo F w (w.alloc o)) w [.mk p0 y0 q0 r0 l0, .mk p1 y1 q1 r1 l1, .mk p2 y2 q2 r2 l2, .mk p3 y3 q3 r3 l3, .mk p4 y4 q4 r4 l4, .mk p5 y5 q5 r5 l5] [(.int .i64 p0, .int .i64 y0, .int .i64 q0, .slice A0 r0.length c0, .slice B0 l0.length d0, .slice none 0 0), (.int .i64 p1, .int .i64 y1, .int .i64 q1, .slice A1 r1.length c1, .slice B1 l1.length d1, .slice none 0 0), (.int .i64 p2, .int .i64 y2, .int .i64 q2, .slice A2 r2.length c2, .slice B2 l2.length d2, .slice none 0 0), (.int .i64 p3, .int .i64 y3, .int .i64 q3, .slice A3 r3.length c3, .slice B3 l3.length d3, .slice none 0 0), (.int .i64 p4, .int .i64 y4, .int .i64 q4, .slice A4 r4.length c4, .slice B4 l4.length d4, .slice none 0 0), (.int .i64 p5, .int .i64 y5, .int .i64 q5, .slice A5 r5.length c5, .slice B5 l5.length d5, .slice none 0 0)] := fun o => 
    LoV.cons (k0.mono fun _ _ h => .inl h) (LoV.cons (k1.mono fun _ _ h => .inl h) (LoV.cons (k2.mono fun _ _ h => .inl h) (LoV.cons (k3.mono fun _ _ h => .inl h) (LoV.cons (k4.mono fun _ _ h => .inl h) (LoV.cons (k5.mono fun _ _ h => .inl h) (LoV.nil _ _))))))
  refine ⟨#[.int .i64 p0, .int .i64 y0, .int .i64 q0, .slice A0 r0.length c0, .slice B0 l0.length d0, .slice none 0 0, .int .i64 p1, .int .i64 y1, .int .i64 q1, .slice A1 r1.length c1, .slice B1 l1.length d1, .slice none 0 0, .int .i64 p2, .int .i64 y2, .int .i64 q2, .slice A2 r2.length c2, .slice B2 l2.length d2, .slice none 0 0, .int .i64 p3, .int .i64 y3, .int .i64 q3, .slice A3 r3.length c3, .slice B3 l3.length d3, .slice none 0 0, .int .i64 p4, .int .i64 y4, .int .i64 q4, .slice A4 r4.length c4, .slice B4 l4.length d4, .slice none 0 0, .int .i64 p5, .int .i64 y5, .int .i64 q5, .slice A5 r5.length c5, .slice B5 l5.length d5, .slice none 0 0], 77, 6, ?_, ?_⟩
  · rw [hP]; unfold execOp; simp only [ho, List.map_toArray, List.map_cons, List.map_nil, e0, e1, e2, e3, e4, e5]; clear hnew k0 k1 k2 k3 k4 k5; go_simp
  · rw [hty]; exact LoL.of _ (hnew _) _ _ rfl (by simp [maxLen]) _ rfl (.inr (by simp))

theorem st_los9 {c : Cx} (hP : c.P = Tryz.prog) (hN : ∀ b, c.w0.heap.size ≤ b → c.S b) {Q : Exit → Act → World → Prop} {o : Oper} {d : Nat} {x0 : Nat} {s0 : Lo} (h0 : c.ty x0 = AV.lo s0) {x1 : Nat} {s1 : Lo} (h1 : c.ty x1 = AV.lo s1) {x2 : Nat} {s2 : Lo} (h2 : c.ty x2 = AV.lo s2) {x3 : Nat} {s3 : Lo} (h3 : c.ty x3 = AV.lo s3) {x4 : Nat} {s4 : Lo} (h4 : c.ty x4 = AV.lo s4) {x5 : Nat} {s5 : Lo} (h5 : c.ty x5 = AV.lo s5) {x6 : Nat} {s6 : Lo} (h6 : c.ty x6 = AV.lo s6) {x7 : Nat} {s7 : Lo} (h7 : c.ty x7 = AV.lo s7) {x8 : Nat} {s8 : Lo} (h8 : c.ty x8 = AV.lo s8) (hd : o.dst = some d) (hdn : d < c.n)
    (ho : o.op = .buildSlice 74 9 #[(0, .tmp x0), (1, .tmp x1), (2, .tmp x2), (3, .tmp x3), (4, .tmp x4), (5, .tmp x5), (6, .tmp x6), (7, .tmp x7), (8, .tmp x8)]) (hty : c.ty d = AV.lol [s0, s1, s2, s3, s4, s5, s6, s7, s8]) : StepOk c Q o [x0, x1, x2, x3, x4, x5, x6, x7, x8] [] [] := by
  refine st_list hN hd hdn fun F V a w h => ?_
  have k0 : Lo.at F w s0 (a.eval (.tmp x0)) := by have := h x0 (by simp); rw [h0] at this; exact this
  have k1 : Lo.at F w s1 (a.eval (.tmp x1)) := by have := h x1 (by simp); rw [h1] at this; exact this
  have k2 : Lo.at F w s2 (a.eval (.tmp x2)) := by have := h x2 (by simp); rw [h2] at this; exact this
  have k3 : Lo.at F w s3 (a.eval (.tmp x3)) := by have := h x3 (by simp); rw [h3] at this; exact this
  have k4 : Lo.at F w s4 (a.eval (.tmp x4)) := by have := h x4 (by simp); rw [h4] at this; exact this
  have k5 : Lo.at F w s5 (a.eval (.tmp x5)) := by have := h x5 (by simp); rw [h5] at this; exact this
  have k6 : Lo.at F w s6 (a.eval (.tmp x6)) := by have := h x6 (by simp); rw [h6] at this; exact this
  have k7 : Lo.at F w s7 (a.eval (.tmp x7)) := by have := h x7 (by simp); rw [h7] at this; exact this
  have k8 : Lo.at F w s8 (a.eval (.tmp x8)) := by have := h x8 (by simp); rw [h8] at this; exact this
  generalize a.eval = ev at *
  obtain ⟨p0, y0, q0, r0, l0⟩ := s0; obtain ⟨A0, c0, B0, d0, e0⟩ := Lo.agg k0; rw [e0] at k0
  obtain ⟨p1, y1, q1, r1, l1⟩ := s1; obtain ⟨A1, c1, B1, d1, e1⟩ := Lo.agg k1; rw [e1] at k1
  obtain ⟨p2, y2, q2, r2, l2⟩ := s2; obtain ⟨A2, c2, B2, d2, e2⟩ := Lo.agg k2; rw [e2] at k2
  obtain ⟨p3, y3, q3, r3, l3⟩ := s3; obtain ⟨A3, c3, B3, d3, e3⟩ := Lo.agg k3; rw [e3] at k3
  obtain ⟨p4, y4, q4, r4, l4⟩ := s4; obtain ⟨A4, c4, B4, d4, e4⟩ := Lo.agg k4; rw [e4] at k4
  obtain ⟨p5, y5, q5, r5, l5⟩ := s5; obtain ⟨A5, c5, B5, d5, e5⟩ := Lo.agg k5; rw [e5] at k5
  obtain ⟨p6, y6, q6, r6, l6⟩ := s6; obtain ⟨A6, c6, B6, d6, e6⟩ := Lo.agg k6; rw [e6] at k6
  obtain ⟨p7, y7, q7, r7, l7⟩ := s7; obtain ⟨A7, c7, B7, d7, e7⟩ := Lo.agg k7; rw [e7] at k7
  obtain ⟨p8, y8, q8, r8, l8⟩ := s8; obtain ⟨A8, c8, B8, d8, e8⟩ := Lo.agg k8; rw [e8] at k8
  have hnew : ∀ o, LoV (grownTo F w (w.alloc o)) w [.mk p0 y0 q0 r0 l0, .mk p1 y1 q1 r1 l1, .mk p2 y2 q2 r2 l2, .mk p3 y3 q3 r3 l3, .mk p4 y4 q4 r4 l4, .mk p5 y5 q5 r5 l5, .mk p6 y6 q6 r6 l6, .mk p7 y7 q7 r7 l7, .mk p8 y8 q8 r8 l8] [(.int .i64 p0, .int .i64 y0, .int .i64 q0, .slice A0 r0.length c0, .slice B0 l0.length d0, .slice none 0 0), (.int .i64 p1, .int .i64 y1, .int .i64 q1, .slice A1 r1.length c1, .slice B1 l1.length d1, .slice none 0 0), (.int .i64 p2, .int .i64 y2, .int .i64 q2, .slice A2 r2.length c2, .slice B2 l2.length d2, .slice none 0 0), (.int .i64 p3, .int .i64 y3, .int .i64 q3, .slice A3 r3.length c3, .slice B3 l3.length d3, .slice none 0 0), (.int .i64 p4, .int .i64 y4, .int .i64 q4, .slice A4 r4.length c4, .slice B4 l4.length d4, .slice none 0 0), (.int .i64 p5, .int .i64 y5, .int .i64 q5, .slice A5 r5.length c5, .slice B5 l5.length d5, .slice none 0 0), (.int .i64 p6, .int .i64 y6, .int .i64 q6, .slice A6 r6.length c6, .slice B6 l6.length d6, .slice none 0 0), (.int .i64 p7, .int .i64 y7, .int .i64 q7, .slice A7 r7.length c7, .slice B7 l7.length d7, .slice none 0 0), (.int .i64 p8, .int .i64 y8, .int .i64 q8, .slice A8 r8.length c8, .slice B8 l8.length d8, .slice none 0 0)] := fun o => 
    LoV.cons (k0.mono fun _ _ h => .inl h) (LoV.cons (k1.mono fun _ _ h => .inl h) (LoV.cons (k2.mono fun _ _ h => .inl h) (LoV.cons (k3.mono fun _ _ h => .inl h) (LoV.cons (k4.mono fun _ _ h => .inl h) (LoV.cons (k5.mono fun _ _ h => .inl h) (LoV.cons (k6.mono fun _ _ h => .inl h) (LoV.cons (k7.mono fun _ _ h => .inl h) (LoV.cons (k8.mono fun _ _ h => .inl h) (LoV.nil _ _)))))))))
  refine ⟨#[.int .i64 p0, .int .i64 y0, .int .i64 q0, .slice A0 r0.length c0, .slice B0 l0.length d0, .slice none 0 0, .int .i64 p1, .int .i64 y1, .int .i64 q1, .slice A1 r1.length c1, .slice B1 l1.length d1, .slice none 0 0, .int .i64 p2, .int .i64 y2, .int .i64 q2, .slice A2 r2.length c2, .slice B2 l2.length d2, .slice none 0 0, .int .i64 p3, .int .i64 y3, .int .i64 q3, .slice A3 r3.length c3, .slice B3 l3.length d3, .slice none 0 0, .int .i64 p4, .int .i64 y4, .int .i64 q4, .slice A4 r4.length c4, .slice B4 l4.length d4, .slice none 0 0, .int .i64 p5, .int .i64 y5, .int .i64 q5, .slice A5 r5.length c5, .slice B5 l5.length d5, .slice none 0 0, .int .i64 p6, .int .i64 y6, .int .i64 q6, .slice A6 r6.length c6, .slice B6 l6.length d6, .slice none 0 0, .int .i64 p7, .int .i64 y7, .int .i64 q7, .slice A7 r7.length c7, .slice B7 l7.length d7, .slice none 0 0, .int .i64 p8, .int .i64 y8, .int .i64 q8, .slice A8 r8.length c8, .slice B8 l8.length d8, .slice none 0 0], 77, 9, ?_, ?_⟩
  · rw [hP]; unfold execOp; simp only [ho, List.map_toArray, List.map_cons, List.map_nil, e0, e1, e2, e3, e4, e5, e6, e7, e8]; clear hnew k0 k1 k2 k3 k4 k5 k6 k7 k8; go_simp
  · rw [hty]; exact LoL.of _ (hnew _) _ _ rfl (by simp [maxLen]) _ rfl (.inr (by simp))

theorem st_los10 {c : Cx} (hP : c.P = Tryz.prog) (hN : ∀ b, c.w0.heap.size ≤ b → c.S b) {Q : Exit → Act → World → Prop} {o : Oper} {d : Nat} {x0 : Nat} {s0 : Lo} (h0 : c.ty x0 = AV.lo s0) {x1 : Nat} {s1 : Lo} (h1 : c.ty x1 = AV.lo s1) {x2 : Nat} {s2 : Lo} (h2 : c.ty x2 = AV.lo s2) {x3 : Nat} {s3 : Lo} (h3 : c.ty x3 = AV.lo s3) {x4 : Nat} {s4 : Lo} (h4 : c.ty x4 = AV.lo s4) {x5 : Nat} {s5 : Lo} (h5 : c.ty x5 = AV.lo s5) {x6 : Nat} {s6 : Lo} (h6 : c.ty x6 = AV.lo s6) {x7 : Nat} {s7 : Lo} (h7 : c.ty x7 = AV.lo s7) {x8 : Nat} {s8 : Lo} (h8 : c.ty x8 = AV.lo s8) {x9 : Nat} {s9 : Lo} (h9 : c.ty x9 = AV.lo s9) (hd : o.dst = some d) (hdn : d < c.n)
    (ho : o.op = .buildSlice 74 10 #[(0, .tmp x0), (1, .tmp x1), (2, .tmp x2), (3, .tmp x3), (4, .tmp x4), (5, .tmp x5), (6, .tmp x6), (7, .tmp x7), (8, .tmp x8), (9, .tmp x9)]) (hty : c.ty d = AV.lol [s0, s1, s2, s3, s4, s5, s6, s7, s8, s9]) : StepOk c Q o [x0, x1, x2, x3, x4, x5, x6, x7, x8, x9] [] [] := by
  refine st_list hN hd hdn fun F V a w h => ?_
  have k0 : Lo.at F w s0 (a.eval (.tmp x0)) := by have := h x0 (by simp); rw [h0] at this; exact this
  have k1 : Lo.at F w s1 (a.eval (.tmp x1)) := by have := h x1 (by simp); rw [h1] at this; exact this
  have k2 : Lo.at F w s2 (a.eval (.tmp x2)) := by have := h x2 (by simp); rw [h2] at this; exact this
  have k3 : Lo.at F w s3 (a.eval (.tmp x3)) := by have := h x3 (by simp); rw [h3] at this; exact this
  have k4 : Lo.at F w s4 (a.eval (.tmp x4)) := by have := h x4 (by simp); rw [h4] at this; exact this
  have k5 : Lo.at F w s5 (a.eval (.tmp x5)) := by have := h x5 (by simp); rw [h5] at this; exact this
  have k6 : Lo.at F w s6 (a.eval (.tmp x6)) := by have := h x6 (by simp); rw [h6] at this; exact this
  have k7 : Lo.at F w s7 (a.eval (.tmp x7)) := by have := h x7 (by simp); rw [h7] at this; exact this
  have k8 : Lo.at F w s8 (a.eval (.tmp x8)) := by have := h x8 (by simp); rw [h8] at this; exact this
  have k9 : Lo.at F w s9 (a.eval (.tmp x9)) := by have := h x9 (by simp); rw [h9] at this; exact this
  generalize a.eval = ev at *
  obtain ⟨p0, y0, q0, r0, l0⟩ := s0; obtain ⟨A0, c0, B0, d0, e0⟩ := Lo.agg k0; rw [e0] at k0
  obtain ⟨p1, y1, q1, r1, l1⟩ := s1; obtain ⟨A1, c1, B1, d1, e1⟩ := Lo.agg k1; rw [e1] at k1
  obtain ⟨p2, y2, q2, r2, l2⟩ := s2; obtain ⟨A2, c2, B2, d2, e2⟩ := Lo.agg k2; rw [e2] at k2
  obtain ⟨p3, y3, q3, r3, l3⟩ := s3; obtain ⟨A3, c3, B3, d3, e3⟩ := Lo.agg k3; rw [e3] at k3
  obtain ⟨p4, y4, q4, r4, l4⟩ := s4; obtain ⟨A4, c4, B4, d4, e4⟩ := Lo.agg k4; rw [e4] at k4
  obtain ⟨p5, y5, q5, r5, l5⟩ := s5; obtain ⟨A5, c5, B5, d5, e5⟩ := Lo.agg k5; rw [e5] at k5
  obtain ⟨p6, y6, q6, r6, l6⟩ := s6; obtain ⟨A6, c6, B6, d6, e6⟩ := Lo.agg k6; rw [e6] at k6
  obtain ⟨p7, y7, q7, r7, l7⟩ := s7; obtain ⟨A7, c7, B7, d7, e7⟩ := Lo.agg k7; rw [e7] at k7
  obtain ⟨p8, y8, q8, r8, l8⟩ := s8; obtain ⟨A8, c8, B8, d8, e8⟩ := Lo.agg k8; rw [e8] at k8
  obtain ⟨p9, y9, q9, r9, l9⟩ := s9; obtain ⟨A9, c9, B9, d9, e9⟩ := Lo.agg k9; rw [e9] at k9
  have hnew : ∀ o, LoV (grownTo F w (w.alloc o)) w [.mk p0 y0 q0 r0 l0, .mk p1 y1 q1 r1 l1, .mk p2 y2 q2 r2 l2, .mk p3 y3 q3 r3 l3, .mk p4 y4 q4 r4 l4, .mk p5 y5 q5 r5 l5, .mk p6 y6 q6 r6 l6, .mk p7 y7 q7 r7 l7, .mk p8 y8 q8 r8 l8, .mk p9 y9 q9 r9 l9] [(.int .i64 p0, .int .i64 y0, .int .i64 q0, .slice A0 r0.length c0, .slice B0 l0.length d0, .slice none 0 0), (.int .i64 p1, .int .i64 y1, .int .i64 q1, .slice A1 r1.length c1, .slice B1 l1.length d1, .slice none 0 0), (.int .i64 p2, .int .i64 y2, .int .i64 q2, .slice A2 r2.length c2, .slice B2 l2.length d2, .slice none 0 0), (.int .i64 p3, .int .i64 y3, .int .i64 q3, .slice A3 r3.length c3, .slice B3 l3.length d3, .slice none 0 0), (.int .i64 p4, .int .i64 y4, .int .i64 q4, .slice A4 r4.length c4, .slice B4 l4.length d4, .slice none 0 0), (.int .i64 p5, .int .i64 y5, .int .i64 q5, .slice A5 r5.length c5, .slice B5 l5.length d5, .slice none 0 0), (.int .i64 p6, .int .i64 y6, .int .i64 q6, .slice A6 r6.length c6, .slice B6 l6.length d6, .slice none 0 0), (.int .i64 p7, .int .i64 y7, .int .i64 q7, .slice A7 r7.length c7, .slice B7 l7.length d7, .slice none 0 0), (.int .i64 p8, .int .i64 y8, .int .i64 q8, .slice A8 r8.length c8, .slice B8 l8.length d8, .slice none 0 0), (.int .i64 p9, .int .i64 y9, .int .i64 q9, .slice A9 r9.length c9, .slice B9 l9.length d9, .slice none 0 0)] := fun o => 
    LoV.cons (k0.mono fun _ _ h => .inl h) (LoV.cons (k1.mono fun _ _ h => .inl h) (LoV.cons (k2.mono fun _ _ h => .inl h) (LoV.cons (k3.mono fun _ _ h => .inl h) (LoV.cons (k4.mono fun _ _ h => .inl h) (LoV.cons (k5.mono fun _ _ h => .inl h) (LoV.cons (k6.mono fun _ _ h => .inl h) (LoV.cons (k7.mono fun _ _ h => .inl h) (LoV.cons (k8.mono fun _ _ h => .inl h) (LoV.cons (k9.mono fun _ _ h => .inl h) (LoV.nil _ _))))))))))
  refine ⟨#[.int .i64 p0, .int .i64 y0, .int .i64 q0, .slice A0 r0.length c0, .slice B0 l0.length d0, .slice none 0 0, .int .i64 p1, .int .i64 y1, .int .i64 q1, .slice A1 r1.length c1, .slice B1 l1.length d1, .slice none 0 0, .int .i64 p2, .int .i64 y2, .int .i64 q2, .slice A2 r2.length c2, .slice B2 l2.length d2, .slice none 0 0, .int .i64 p3, .int .i64 y3, .int .i64 q3, .slice A3 r3.length c3, .slice B3 l3.length d3, .slice none 0 0, .int .i64 p4, .int .i64 y4, .int .i64 q4, .slice A4 r4.length c4, .slice B4 l4.length d4, .slice none 0 0, .int .i64 p5, .int .i64 y5, .int .i64 q5, .slice A5 r5.length c5, .slice B5 l5.length d5, .slice none 0 0, .int .i64 p6, .int .i64 y6, .int .i64 q6, .slice A6 r6.length c6, .slice B6 l6.length d6, .slice none 0 0, .int .i64 p7, .int .i64 y7, .int .i64 q7, .slice A7 r7.length c7, .slice B7 l7.length d7, .slice none 0 0, .int .i64 p8, .int .i64 y8, .int .i64 q8, .slice A8 r8.length c8, .slice B8 l8.length d8, .slice none 0 0, .int .i64 p9, .int .i64 y9, .int .i64 q9, .slice A9 r9.length c9, .slice B9 l9.length d9, .slice none 0 0], 77, 10, ?_, ?_⟩
  · rw [hP]; unfold execOp; simp only [ho, List.map_toArray, List.map_cons, List.map_nil, e0, e1, e2, e3, e4, e5, e6, e7, e8, e9]; clear hnew k0 k1 k2 k3 k4 k5 k6 k7 k8 k9; go_simp
  · rw [hty]; exact LoL.of _ (hnew _) _ _ rfl (by simp [maxLen]) _ rfl (.inr (by simp))


/-- An expression, a function, out of a list. -/
theorem st_buildEx {c : Cx} (hP : c.P = Tryz.prog) {Q : Exit → Act → World → Prop} {o : Oper} {d x : Nat} {k n : Int} {l : List Ex} (hx : c.ty x = AV.exl l) (hd : o.dst = some d) (hdn : d < c.n)
    (ho : o.op = .build 79 #[(0, .const (.int .i64 k)), (1, .const (.int .i64 n)), (2, .tmp x)]) (hty : c.ty d = AV.ex (.mk k n l)) : StepOk c Q o [x] [] [] := by
  refine step_read fun F V Dt Dv a w h ht _ => ?_
  have hxx : ExL F w l (a.eval (.tmp x)) := by have := h.tmp x (ht _ (by simp)); rw [hx] at this; exact this
  have hk : a.eval (.const (.int .i64 k)) = .int .i64 k := rfl
  have hn : a.eval (.const (.int .i64 n)) = .int .i64 n := rfl
  clear h ht
  generalize a.eval = ev at *
  obtain ⟨A, cap, e, hr⟩ := id hxx
  refine ⟨.agg #[.int .i64 k, .int .i64 n, ev (.tmp x)], ?_, fun d' hd' => ?_⟩
  · rw [hP]; unfold execOp; simp only [ho, List.map_toArray, List.map_cons, List.map_nil, hk, hn, e]; clear hr hxx; go_simp
  · rw [hd] at hd'; simp only [Option.some.injEq] at hd'; subst hd'
    exact ⟨hdn, by rw [hty]; exact Ex.at_mk.2 ⟨_, rfl, hxx⟩⟩

theorem st_buildFn {c : Cx} (hP : c.P = Tryz.prog) {Q : Exit → Act → World → Prop} {o : Oper} {d x : Nat} {p n : Int} {l : List Lo} (hx : c.ty x = AV.lol l) (hd : o.dst = some d) (hdn : d < c.n)
    (ho : o.op = .build 81 #[(0, .const (.int .i64 p)), (1, .const (.int .i64 n)), (2, .tmp x)]) (hty : c.ty d = AV.fn p n l) : StepOk c Q o [x] [] [] := by
  refine step_read fun F V Dt Dv a w h ht _ => ?_
  have hxx : LoL F w l (a.eval (.tmp x)) := by have := h.tmp x (ht _ (by simp)); rw [hx] at this; exact this
  have hk : ∀ m, a.eval (.const (.int .i64 m)) = .int .i64 m := fun _ => rfl
  clear h ht
  generalize a.eval = ev at *
  obtain ⟨A, cap, e, hr⟩ := id hxx
  refine ⟨.agg #[.int .i64 p, .int .i64 n, ev (.tmp x)], ?_, fun d' hd' => ?_⟩
  · rw [hP]; unfold execOp; simp only [ho, List.map_toArray, List.map_cons, List.map_nil, hk, e]; clear hr hxx; go_simp
  · rw [hd] at hd'; simp only [Option.some.injEq] at hd'; subst hd'
    exact ⟨hdn, by rw [hty]; exact ⟨_, rfl, hxx⟩⟩

theorem st_buildFn0 {c : Cx} (hP : c.P = Tryz.prog) {Q : Exit → Act → World → Prop} {o : Oper} {d x : Nat} {n : Int} {l : List Lo} (hx : c.ty x = AV.lol l) (hd : o.dst = some d) (hdn : d < c.n)
    (ho : o.op = .build 81 #[(1, .const (.int .i64 n)), (2, .tmp x)]) (hty : c.ty d = AV.fn 0 n l) : StepOk c Q o [x] [] [] := by
  refine step_read fun F V Dt Dv a w h ht _ => ?_
  have hxx : LoL F w l (a.eval (.tmp x)) := by have := h.tmp x (ht _ (by simp)); rw [hx] at this; exact this
  have hk : ∀ m, a.eval (.const (.int .i64 m)) = .int .i64 m := fun _ => rfl
  clear h ht
  generalize a.eval = ev at *
  obtain ⟨A, cap, e, hr⟩ := id hxx
  refine ⟨.agg #[.int .i64 0, .int .i64 n, ev (.tmp x)], ?_, fun d' hd' => ?_⟩
  · rw [hP]; unfold execOp; simp only [ho, List.map_toArray, List.map_cons, List.map_nil, hk, e]; clear hr hxx; go_simp
  · rw [hd] at hd'; simp only [Option.some.injEq] at hd'; subst hd'
    exact ⟨hdn, by rw [hty]; exact ⟨_, rfl, hxx⟩⟩

/-- A variable of three cells: laid, read, stored. -/
theorem st_allocEx {c : Cx} (hP : c.P = Tryz.prog) {Q : Exit → Act → World → Prop} {o : Oper} {d x : Nat} (hd : o.dst = some d) (hdn : d < c.n) (ho : o.op = .alloc 79) (hty : c.ty d = AV.ptr x 0) (hl : c.len x = 3) : StepOk c Q o [] [] [2 * x] := by
  refine step_new (x := x) false hd hdn hty fun F V Dt Dv a w h _ => ⟨#[.int .i64 0, .int .i64 0, .slice none 0 0], 79, ?_, by simp [hl], by simp⟩
  rw [hP]; unfold execOp; simp only [ho]; clear h; go_simp
theorem st_storeEx {c : Cx} (hP : c.P = Tryz.prog) {Q : Exit → Act → World → Prop} {o : Oper} {p s x : Nat} (hp : c.ty p = AV.ptr x 0) (hd : o.dst = none) (ho : o.op = .store 79 (.tmp p) (.tmp s)) (hl : c.len x = 3) (hty : c.ty s = c.con x) (hagg : ∀ F V w v, (c.con x).den F V w v → ∃ k n A l c, v = .agg #[.int .i64 k, .int .i64 n, .slice A l c]) : StepOk c Q o [p, s] [] [2 * x + 1] := by
  refine st_store3 hp hd hl hty hagg fun a w g k n A l cp v0 v1 v2 e1 e2 c0 c1 c2 f0 f1 f2 => ?_
  rw [hP]; unfold execOp; simp only [ho]; generalize a.eval = ev at *; rw [e1, e2]; go_simp

/-- A variable of three cells: laid, read, stored. -/
theorem st_allocFn {c : Cx} (hP : c.P = Tryz.prog) {Q : Exit → Act → World → Prop} {o : Oper} {d x : Nat} (hd : o.dst = some d) (hdn : d < c.n) (ho : o.op = .alloc 81) (hty : c.ty d = AV.ptr x 0) (hl : c.len x = 3) : StepOk c Q o [] [] [2 * x] := by
  refine step_new (x := x) false hd hdn hty fun F V Dt Dv a w h _ => ⟨#[.int .i64 0, .int .i64 0, .slice none 0 0], 81, ?_, by simp [hl], by simp⟩
  rw [hP]; unfold execOp; simp only [ho]; clear h; go_simp
theorem st_storeFn {c : Cx} (hP : c.P = Tryz.prog) {Q : Exit → Act → World → Prop} {o : Oper} {p s x : Nat} (hp : c.ty p = AV.ptr x 0) (hd : o.dst = none) (ho : o.op = .store 81 (.tmp p) (.tmp s)) (hl : c.len x = 3) (hty : c.ty s = c.con x) (hagg : ∀ F V w v, (c.con x).den F V w v → ∃ k n A l c, v = .agg #[.int .i64 k, .int .i64 n, .slice A l c]) : StepOk c Q o [p, s] [] [2 * x + 1] := by
  refine st_store3 hp hd hl hty hagg fun a w g k n A l cp v0 v1 v2 e1 e2 c0 c1 c2 f0 f1 f2 => ?_
  rw [hP]; unfold execOp; simp only [ho]; generalize a.eval = ev at *; rw [e1, e2]; go_simp

theorem st_loadEx {c : Cx} (hP : c.P = Tryz.prog) {Q : Exit → Act → World → Prop} {o : Oper} {d p x : Nat} (hp : c.ty p = AV.ptr x 0) (hd : o.dst = some d) (hdn : d < c.n) (ho : o.op = .load 79 (.tmp p)) (hl : c.len x = 3) (hty : c.ty d = c.con x) : StepOk c Q o [p] [2 * x + 1] [] := by
  refine st_load3 hp hd hdn hl hty fun a w g u0 u1 u2 e1 c0 c1 c2 => ?_
  rw [hP]; unfold execOp; simp only [ho]; generalize a.eval = ev at *; rw [e1]; go_simp
theorem st_boxEx {c : Cx} (hP : c.P = Tryz.prog) {Q : Exit → Act → World → Prop} {o : Oper} {d s x : Nat} (hd : o.dst = some d) (hdn : d < c.n) (ho : o.op = .box 79 (.tmp s)) (hty : c.ty d = AV.ptr x 0) (hl : c.len x = 3) {t : Ex} (hs : c.ty s = AV.ex t) (hc : c.con x = AV.ex t) : StepOk c Q o [s] [] [2 * x, 2 * x + 1] := by
  refine step_new (x := x) true hd hdn hty fun F V Dt Dv a w h ht => ?_
  have hss := h.tmp s (ht _ (by simp)); rw [hs] at hss
  obtain ⟨k, n, A, l, cp, hu⟩ := ex_agg3 _ _ _ _ _ hss
  refine ⟨#[.int .i64 k, .int .i64 n, .slice A l cp], 79, ?_, by simp [hl], fun _ => by rw [hc, ← hu]; exact hss⟩
  have he : a.eval (.tmp s) = .agg #[.int .i64 k, .int .i64 n, .slice A l cp] := hu
  clear h hss hu
  rw [hP]; unfold execOp; simp only [ho]; generalize a.eval = ev at *; rw [he]; go_simp

/-- The start. -/
theorem typed_start {c : Cx} {Dt : Nat → Prop} {a : Act} {w : World} (hw : c.w0 = w) (hs : a.tmps.size = c.n) (hd : a.defers = []) (ht : ∀ t, Dt t → (c.ty t).den (fun b => c.S b ∧ b < w.heap.size) (fun _ => none) w (a.tmps.getD t undef)) : Typed c Dt (· ∈ ([] : List Nat)) a w := by
  subst hw
  exact ⟨_, _, Below.refl _ _, fun b hb => ⟨hb.2, hb.1⟩, fun x g hx => (by cases hx), fun x y g hx => (by cases hx), fun x hx => (by cases hx), ht, hs, hd⟩
/-- The result's variable at the end. -/
theorem typed_end3 {c : Cx} {Dt Dv : Nat → Prop} {a : Act} {w : World} (h : Typed c Dt Dv a w) {p x : Nat} (hp : c.ty p = AV.ptr x 0) (ht : Dt p) (hv : Dv (2 * x + 1)) (hl : c.len x = 3) :
    ∃ F V g u0 u1 u2, a.tmps.getD p undef = .pointer (some ⟨g, 0, none⟩) ∧ w.cell? ⟨g, 0, none⟩ = some u0 ∧ w.cell? ⟨g, 1, none⟩ = some u1 ∧ w.cell? ⟨g, 2, none⟩ = some u2 ∧ (c.con x).den F V w (.agg #[u0, u1, u2]) ∧ (∀ b, F b → c.S b) ∧ Below c.w0.heap.size c.w0 w ∧ a.defers = [] ∧ p < a.tmps.size := by
  obtain ⟨F, V, h⟩ := h
  have hpp := h.tmp p ht; rw [hp] at hpp
  obtain ⟨g, hg, e⟩ := hpp
  obtain ⟨h1, h2, h3, cs, T, h4, h5, h6⟩ := h.vars x g hg
  have h6 := h6 hv
  rw [hl] at h5
  obtain ⟨l⟩ := cs
  match l, h5, h4, h6 with
  | [u0, u1, u2], _, hb, hc =>
    have hv : VB w g T #[u0, u1, u2] := hb
    refine ⟨F, V, g, u0, u1, u2, e, hv.c3.1, hv.c3.2.1, hv.c3.2.2, hc, fun b hF => (h.own b hF).2, h.below, h.defers, ?_⟩
    rcases Nat.lt_or_ge p a.tmps.size with hlt | hge
    · exact hlt
    · have e2 : a.tmps.getD p undef = undef := by simp [Array.getD, Nat.not_lt.2 hge]
      rw [e2] at e; cases e

end Go.Proofs.YtgohnekaolgblaaGreat

/- heap.bytes: contract (printed by wip/gen_lofun.py). -/
namespace Go.Proofs.YtgohnekaolgblaaGreat
open Go.RowKit

/-- Parts of programs. -/
abbrev Px.v (n : Int) : Ex := .mk 2 n []
abbrev Px.g (n : Int) : Ex := .mk 3 n []
abbrev Px.n (n : Int) : Ex := .mk 1 n []
abbrev Px.t (op : Int) (a b : Ex) : Ex := .mk 7 op [a, b]
abbrev Px.add (a b : Ex) : Ex := .mk 7 106 [a, b]
abbrev Px.load (a : Ex) : Ex := .mk 4 0 [a]
abbrev Px.not (a : Ex) : Ex := .mk 6 69 [a]
abbrev Px.set (x : Int) (a : Ex) : Lo := .mk 1 x 0 [a] []
abbrev Px.put (x : Int) (a : Ex) : Lo := .mk 2 x 0 [a] []
abbrev Px.store (a b : Ex) : Lo := .mk 3 0 0 [a, b] []
abbrev Px.tell (a : Ex) : Lo := .mk 9 0 0 [a] []
abbrev Px.when (a : Ex) (l : List Lo) : Lo := .mk 5 0 0 [a] l
abbrev Px.loop (l : List Lo) : Lo := .mk 6 0 0 [] l
abbrev Px.leave : Lo := .mk 7 0 0 [] []
abbrev Px.call (x n : Int) (a : List Ex) : Lo := .mk 10 x n a []
/-- How many bytes there are with a head. -/
def sizeX (h : Ex) : Ex := Px.t 113 (Px.t 118 h (Px.n 3)) (Px.n 8191)
def isTextX (h : Ex) : Ex := Px.t 70 (Px.t 113 h (Px.n 6)) (Px.n 4)
def wordsX (h : Ex) : Ex := Px.t 118 (Px.add (sizeX h) (Px.t 108 (isTextX h) (Px.n 3))) (Px.t 116 (isTextX h) (Px.n 1))
def bytesX (h : Ex) : Ex := Px.t 116 (Px.add (wordsX h) (Px.n 1)) (Px.n 2)

noncomputable def bytesTy (t0 : Ex) : List AV := [
  AV.ex t0,
  AV.ptr 1 0,
  AV.ptr 2 0,
  AV.ptr 3 0,
  AV.ptr 4 0,
  AV.ptr 5 0,
  AV.ex t0,
  AV.ex (Px.n 3),
  AV.ex (Px.t 118 t0 (Px.n 3)),
  AV.ex (Px.n 8191),
  AV.ex (Px.t 113 (Px.t 118 t0 (Px.n 3)) (Px.n 8191)),
  AV.ex t0,
  AV.ex (Px.n 6),
  AV.ex (Px.t 113 t0 (Px.n 6)),
  AV.ex (Px.n 4),
  AV.ex (Px.t 70 (Px.t 113 t0 (Px.n 6)) (Px.n 4)),
  AV.ex (Px.t 113 (Px.t 118 t0 (Px.n 3)) (Px.n 8191)),
  AV.ex (Px.t 70 (Px.t 113 t0 (Px.n 6)) (Px.n 4)),
  AV.ex (Px.n 3),
  AV.ex (Px.t 108 (Px.t 70 (Px.t 113 t0 (Px.n 6)) (Px.n 4)) (Px.n 3)),
  AV.ex (Px.add (Px.t 113 (Px.t 118 t0 (Px.n 3)) (Px.n 8191)) (Px.t 108 (Px.t 70 (Px.t 113 t0 (Px.n 6)) (Px.n 4)) (Px.n 3))),
  AV.ex (Px.t 70 (Px.t 113 t0 (Px.n 6)) (Px.n 4)),
  AV.ex (Px.n 1),
  AV.ex (Px.t 116 (Px.t 70 (Px.t 113 t0 (Px.n 6)) (Px.n 4)) (Px.n 1)),
  AV.exl [Px.add (Px.t 113 (Px.t 118 t0 (Px.n 3)) (Px.n 8191)) (Px.t 108 (Px.t 70 (Px.t 113 t0 (Px.n 6)) (Px.n 4)) (Px.n 3)), Px.t 116 (Px.t 70 (Px.t 113 t0 (Px.n 6)) (Px.n 4)) (Px.n 1)],
  AV.ex (.mk 7 118 [Px.add (Px.t 113 (Px.t 118 t0 (Px.n 3)) (Px.n 8191)) (Px.t 108 (Px.t 70 (Px.t 113 t0 (Px.n 6)) (Px.n 4)) (Px.n 3)), Px.t 116 (Px.t 70 (Px.t 113 t0 (Px.n 6)) (Px.n 4)) (Px.n 1)]),
  AV.ex (.mk 7 118 [Px.add (Px.t 113 (Px.t 118 t0 (Px.n 3)) (Px.n 8191)) (Px.t 108 (Px.t 70 (Px.t 113 t0 (Px.n 6)) (Px.n 4)) (Px.n 3)), Px.t 116 (Px.t 70 (Px.t 113 t0 (Px.n 6)) (Px.n 4)) (Px.n 1)]),
  AV.ex (Px.n 1),
  AV.ex (Px.add (.mk 7 118 [Px.add (Px.t 113 (Px.t 118 t0 (Px.n 3)) (Px.n 8191)) (Px.t 108 (Px.t 70 (Px.t 113 t0 (Px.n 6)) (Px.n 4)) (Px.n 3)), Px.t 116 (Px.t 70 (Px.t 113 t0 (Px.n 6)) (Px.n 4)) (Px.n 1)]) (Px.n 1)),
  AV.ex (Px.n 2),
  AV.ex (Px.t 116 (Px.add (.mk 7 118 [Px.add (Px.t 113 (Px.t 118 t0 (Px.n 3)) (Px.n 8191)) (Px.t 108 (Px.t 70 (Px.t 113 t0 (Px.n 6)) (Px.n 4)) (Px.n 3)), Px.t 116 (Px.t 70 (Px.t 113 t0 (Px.n 6)) (Px.n 4)) (Px.n 1)]) (Px.n 1)) (Px.n 2))]
noncomputable def bytesCon (t0 : Ex) : List AV := [
  AV.any,
  AV.ex t0,
  AV.ex (Px.t 116 (Px.add (.mk 7 118 [Px.add (Px.t 113 (Px.t 118 t0 (Px.n 3)) (Px.n 8191)) (Px.t 108 (Px.t 70 (Px.t 113 t0 (Px.n 6)) (Px.n 4)) (Px.n 3)), Px.t 116 (Px.t 70 (Px.t 113 t0 (Px.n 6)) (Px.n 4)) (Px.n 1)]) (Px.n 1)) (Px.n 2)),
  AV.ex (Px.t 113 (Px.t 118 t0 (Px.n 3)) (Px.n 8191)),
  AV.ex (Px.t 70 (Px.t 113 t0 (Px.n 6)) (Px.n 4)),
  AV.ex (.mk 7 118 [Px.add (Px.t 113 (Px.t 118 t0 (Px.n 3)) (Px.n 8191)) (Px.t 108 (Px.t 70 (Px.t 113 t0 (Px.n 6)) (Px.n 4)) (Px.n 3)), Px.t 116 (Px.t 70 (Px.t 113 t0 (Px.n 6)) (Px.n 4)) (Px.n 1)])]
noncomputable def bytesCx (t0 : Ex) (S : Nat → Prop) (w : World) : Cx := ⟨Tryz.prog, fun t => (bytesTy t0).getD t AV.any, fun x => (bytesCon t0).getD x AV.any, fun _ => 3, S, w, 31⟩

set_option maxRecDepth 100000 in
set_option maxHeartbeats 4000000 in
theorem loBytes (S : Nat → Prop) (t0 : Ex) (v0 : Value) (w : World) (hN : New S w) (hx0 : Ex.at S w t0 v0) : Calls Tryz.prog 73 #[v0] w fun e w' => ∃ v, e = .returned v ∧ Ex.at S w' (bytesX t0) v ∧ Below w.heap.size w w' := by
  go_enter Tryz.func73, Tryz.ntmps73
  have hM : ∀ b, (bytesCx t0 S w).w0.heap.size ≤ b → (bytesCx t0 S w).S b := hN
  refine wp_seq (typed_region (c := bytesCx t0 S w) (by kernel_rfl) (by kernel_rfl) [0] [] [([0], [], [2, 3]), ([], [], [4])] (by kernel_rfl) ⟨st_boxEx (x := 1) rfl rfl (Nat.le_of_ble_eq_true rfl) rfl rfl rfl rfl rfl, st_allocEx (x := 2) rfl rfl (Nat.le_of_ble_eq_true rfl) rfl rfl rfl, trivial⟩ ?start fun a0 w0 h1 => ?rest0)
  case start => exact typed_start rfl rfl rfl fun t ht => by simp only [List.mem_singleton] at ht; subst ht; exact hx0.mono fun b hb hS => ⟨hS, hb⟩
  simp only [Exit.then]
  replace h1 : Typed (bytesCx t0 S w) (· ∈ ([0, 1, 2] : List Nat)) (· ∈ ([2, 3, 4] : List Nat)) a0 w0 := h1
  refine wp_seq (typed_region (c := bytesCx t0 S w) (by kernel_rfl) (by kernel_rfl) [0, 1, 2] [2, 3, 4] [([1], [3], []), ([], [], []), ([6, 7], [], []), ([], [], []), ([8, 9], [], []), ([], [], [6]), ([3, 10], [], [7])] (by kernel_rfl) ⟨st_loadEx (x := 1) rfl rfl rfl (Nat.le_of_ble_eq_true rfl) rfl rfl rfl, mk_num rfl hM rfl (Nat.le_of_ble_eq_true rfl) rfl rfl, mk_two rfl hM rfl rfl rfl (Nat.le_of_ble_eq_true rfl) rfl rfl, mk_num rfl hM rfl (Nat.le_of_ble_eq_true rfl) rfl rfl, mk_two rfl hM rfl rfl rfl (Nat.le_of_ble_eq_true rfl) rfl rfl, st_allocEx (x := 3) rfl rfl (Nat.le_of_ble_eq_true rfl) rfl rfl rfl, st_storeEx (x := 3) rfl rfl rfl rfl rfl rfl (ex_agg3 _), trivial⟩ h1 fun a1 w1 h2 => ?rest1)
  simp only [Exit.then]
  replace h2 : Typed (bytesCx t0 S w) (· ∈ ([0, 1, 2, 6, 7, 8, 9, 10, 3] : List Nat)) (· ∈ ([2, 3, 4, 6, 7] : List Nat)) a1 w1 := h2
  refine wp_seq (typed_region (c := bytesCx t0 S w) (by kernel_rfl) (by kernel_rfl) [0, 1, 2, 6, 7, 8, 9, 10, 3] [2, 3, 4, 6, 7] [([1], [3], []), ([], [], []), ([11, 12], [], []), ([], [], []), ([13, 14], [], []), ([], [], [8]), ([4, 15], [], [9])] (by kernel_rfl) ⟨st_loadEx (x := 1) rfl rfl rfl (Nat.le_of_ble_eq_true rfl) rfl rfl rfl, mk_num rfl hM rfl (Nat.le_of_ble_eq_true rfl) rfl rfl, mk_two rfl hM rfl rfl rfl (Nat.le_of_ble_eq_true rfl) rfl rfl, mk_num rfl hM rfl (Nat.le_of_ble_eq_true rfl) rfl rfl, mk_two rfl hM rfl rfl rfl (Nat.le_of_ble_eq_true rfl) rfl rfl, st_allocEx (x := 4) rfl rfl (Nat.le_of_ble_eq_true rfl) rfl rfl rfl, st_storeEx (x := 4) rfl rfl rfl rfl rfl rfl (ex_agg3 _), trivial⟩ h2 fun a2 w2 h3 => ?rest2)
  simp only [Exit.then]
  replace h3 : Typed (bytesCx t0 S w) (· ∈ ([0, 1, 2, 6, 7, 8, 9, 10, 3, 11, 12, 13, 14, 15, 4] : List Nat)) (· ∈ ([2, 3, 4, 6, 7, 8, 9] : List Nat)) a2 w2 := h3
  refine wp_seq (typed_region (c := bytesCx t0 S w) (by kernel_rfl) (by kernel_rfl) [0, 1, 2, 6, 7, 8, 9, 10, 3, 11, 12, 13, 14, 15, 4] [2, 3, 4, 6, 7, 8, 9] [([3], [7], []), ([4], [9], []), ([], [], []), ([17, 18], [], []), ([16, 19], [], []), ([4], [9], []), ([], [], []), ([21, 22], [], []), ([20, 23], [], []), ([24], [], []), ([], [], [10]), ([5, 25], [], [11])] (by kernel_rfl) ⟨st_loadEx (x := 3) rfl rfl rfl (Nat.le_of_ble_eq_true rfl) rfl rfl rfl, st_loadEx (x := 4) rfl rfl rfl (Nat.le_of_ble_eq_true rfl) rfl rfl rfl, mk_num rfl hM rfl (Nat.le_of_ble_eq_true rfl) rfl rfl, mk_two rfl hM rfl rfl rfl (Nat.le_of_ble_eq_true rfl) rfl rfl, mk_add rfl hM rfl rfl rfl (Nat.le_of_ble_eq_true rfl) rfl rfl, st_loadEx (x := 4) rfl rfl rfl (Nat.le_of_ble_eq_true rfl) rfl rfl rfl, mk_num rfl hM rfl (Nat.le_of_ble_eq_true rfl) rfl rfl, mk_two rfl hM rfl rfl rfl (Nat.le_of_ble_eq_true rfl) rfl rfl, st_exs2 rfl hM rfl rfl rfl (Nat.le_of_ble_eq_true rfl) rfl rfl, st_buildEx rfl rfl rfl (Nat.le_of_ble_eq_true rfl) rfl rfl, st_allocEx (x := 5) rfl rfl (Nat.le_of_ble_eq_true rfl) rfl rfl rfl, st_storeEx (x := 5) rfl rfl rfl rfl rfl rfl (ex_agg3 _), trivial⟩ h3 fun a3 w3 h4 => ?rest3)
  simp only [Exit.then]
  replace h4 : Typed (bytesCx t0 S w) (· ∈ ([0, 1, 2, 6, 7, 8, 9, 10, 3, 11, 12, 13, 14, 15, 4, 16, 17, 18, 19, 20, 21, 22, 23, 24, 25, 5] : List Nat)) (· ∈ ([2, 3, 4, 6, 7, 8, 9, 10, 11] : List Nat)) a3 w3 := h4
  refine wp_seq (typed_region (c := bytesCx t0 S w) (by kernel_rfl) (by kernel_rfl) [0, 1, 2, 6, 7, 8, 9, 10, 3, 11, 12, 13, 14, 15, 4, 16, 17, 18, 19, 20, 21, 22, 23, 24, 25, 5] [2, 3, 4, 6, 7, 8, 9, 10, 11] [([5], [11], []), ([], [], []), ([26, 27], [], []), ([], [], []), ([28, 29], [], []), ([2, 30], [], [5])] (by kernel_rfl) ⟨st_loadEx (x := 5) rfl rfl rfl (Nat.le_of_ble_eq_true rfl) rfl rfl rfl, mk_num rfl hM rfl (Nat.le_of_ble_eq_true rfl) rfl rfl, mk_add rfl hM rfl rfl rfl (Nat.le_of_ble_eq_true rfl) rfl rfl, mk_num rfl hM rfl (Nat.le_of_ble_eq_true rfl) rfl rfl, mk_two rfl hM rfl rfl rfl (Nat.le_of_ble_eq_true rfl) rfl rfl, st_storeEx (x := 2) rfl rfl rfl rfl rfl rfl (ex_agg3 _), trivial⟩ h4 fun a4 w4 h5 => ?rest4)
  replace h5 : Typed (bytesCx t0 S w) (· ∈ ([0, 1, 2, 6, 7, 8, 9, 10, 3, 11, 12, 13, 14, 15, 4, 16, 17, 18, 19, 20, 21, 22, 23, 24, 25, 5, 26, 27, 28, 29, 30] : List Nat)) (· ∈ ([2, 3, 4, 6, 7, 8, 9, 10, 11, 5] : List Nat)) a4 w4 := h5
  obtain ⟨F, V, g, u0, u1, u2, e, c0, c1, c2, hv, hF, hb, hd, hp⟩ := typed_end3 h5 (p := 2) (x := 2) rfl (by decide) (by decide) rfl
  clear h5
  have he : a4.tmps[2]? = some (.pointer (some ⟨g, 0, none⟩)) := by rw [Array.getElem?_eq_getElem hp]; simpa [Array.getD, hp] using e
  refine wp_ret (bodyPost_ret (v := .agg #[u0, u1, u2]) (by simp [results, Tryz.results73, go_sem, he, c0, c1, c2]) hd ⟨_, rfl, ?_, hb⟩)
  exact Ex.at.mono hv fun b _ h => hF b h

theorem mk_bytes {c : Cx} (hP : c.P = Tryz.prog) (hN : ∀ b, c.w0.heap.size ≤ b → c.S b) {Q : Exit → Act → World → Prop} {o : Oper} {d : Nat} {tys : Array TypeId} {s0 : Ex} {x0 : Nat} (hx0 : c.ty x0 = AV.ex s0) (hd : o.dst = some d) (hdn : d < c.n)
    (ho : o.op = .call { callee := .value (.func 73), args := #[.tmp x0], argTypes := tys }) (hty : c.ty d = AV.ex (bytesX s0)) : StepOk c Q o [x0] [] [] := by
  refine st_call hN (by rw [hP]; exact Tryz.func73) (by kernel_rfl) (by kernel_rfl) hd hdn ho fun F V Dt Dv a w h ht => ?_
  have k0 : Ex.at F w s0 (a.tmps.getD x0 undef) := by have := h.tmp x0 (ht _ (by simp)); rw [hx0] at this; exact this
  have e : (#[.tmp x0] : Array Operand).map a.eval = #[a.tmps.getD x0 undef] := by simp [Act.eval]
  rw [e, hP, hty]
  refine (loBytes (withNew F w) s0 _ w (New.withNew F w) k0.inn).mono ?_
  rintro _ w' ⟨v, rfl, hv, hb⟩
  exact ⟨v, rfl, hv.outt, hb⟩


end Go.Proofs.YtgohnekaolgblaaGreat

/- append of two lists of things; the fields of a plan: one law an operation (printed by wip/gen_tya.py). -/
namespace Go.Proofs.YtgohnekaolgblaaGreat
open Go.RowKit

theorem info_parts3 {P : Program} {T : TypeId} {z : Option Value} {s b : Nat} (h : (P.info? T).map (fun i => (i.zero, i.size, i.bytes)) = some (z, s, b)) : ∃ i, P.info? T = some i ∧ i.zero = z ∧ i.size = s ∧ i.bytes = b := by
  cases hi : P.info? T with
  | none => rw [hi] at h; cases h
  | some i => rw [hi] at h; simp only [Option.map_some, Option.some.injEq, Prod.mk.injEq] at h; exact ⟨i, rfl, h.1, h.2.1, h.2.2⟩

/-- A list that fills its room. -/
def AV.lolx (t : List Lo) : AV := ⟨fun F _ w v => LoL F w t v ∧ ∃ A, v = .slice A t.length t.length, fun h _ k => ⟨h.lol k.1, k.2⟩⟩

/-- The cells of a list of things. -/
theorem Lo.ats_cells {S : Nat → Prop} {w : World} {b : Nat} : ∀ {l : List Lo} {off : Nat}, Lo.ats S w l b off → ∃ vs : List (Value × Value × Value × Value × Value × Value), LoV S w l vs ∧ (∀ u ∈ (vs.flatMap fun v => [v.1, v.2.1, v.2.2.1, v.2.2.2.1, v.2.2.2.2.1, v.2.2.2.2.2]), u.oneCell' = true) ∧
    ∀ (j : Nat) u, (vs.flatMap fun v => [v.1, v.2.1, v.2.2.1, v.2.2.2.1, v.2.2.2.2.1, v.2.2.2.2.2])[j]? = some u → w.cell? ⟨b, off + j, none⟩ = some u
  | [], off, _ => ⟨[], trivial, by simp, by simp⟩
  | t :: l, off, h => by
    rw [Lo.ats] at h
    obtain ⟨⟨v0, v1, v2, v3, v4, v5, c0, c1, c2, c3, c4, c5, ha⟩, hl⟩ := h
    obtain ⟨vs, h1, h2, h3⟩ := Lo.ats_cells hl
    refine ⟨(v0, v1, v2, v3, v4, v5) :: vs, LoV.cons ha h1, ?_, ?_⟩
    · obtain ⟨k, x, n, a, l'⟩ := t
      obtain ⟨A, c, A', c', e⟩ := Lo.agg ha
      simp only [Value.agg.injEq, Array.mk.injEq, List.cons.injEq, and_true] at e
      obtain ⟨rfl, rfl, rfl, rfl, rfl, rfl⟩ := e
      intro u hu
      simp only [List.flatMap_cons, List.cons_append, List.nil_append, List.mem_cons] at hu
      rcases hu with rfl | rfl | rfl | rfl | rfl | rfl | hu
      · rfl
      · rfl
      · rfl
      · rfl
      · rfl
      · rfl
      · exact h2 u hu
    · intro j u hj
      simp only [List.flatMap_cons, List.cons_append, List.nil_append] at hj
      match j, hj with
      | 0, hj => simp at hj; subst hj; exact c0
      | 1, hj => simp at hj; subst hj; exact c1
      | 2, hj => simp at hj; subst hj; exact c2
      | 3, hj => simp at hj; subst hj; exact c3
      | 4, hj => simp at hj; subst hj; exact c4
      | 5, hj => simp at hj; subst hj; exact c5
      | j + 6, hj =>
        have := h3 j u (by simpa using hj)
        rw [show off + (j + 6) = off + 6 + j by omega]; exact this
theorem LoV.append {S : Nat → Prop} {w : World} : ∀ {l l' : List Lo} {vs vs' : List (Value × Value × Value × Value × Value × Value)}, LoV S w l vs → LoV S w l' vs' → LoV S w (l ++ l') (vs ++ vs')
  | [], _, [], _, _, h' => h'
  | _ :: _, _, _ :: _, _, h, h' => ⟨h.1, LoV.append h.2 h'⟩
theorem flat6_length (vs : List (Value × Value × Value × Value × Value × Value)) : (vs.flatMap fun v => [v.1, v.2.1, v.2.2.1, v.2.2.2.1, v.2.2.2.2.1, v.2.2.2.2.2]).length = vs.length * 6 := by
  induction vs with
  | nil => rfl
  | cons v vs ih => simp only [List.flatMap_cons, List.length_append, ih, List.length_cons, List.length_nil]; omega
theorem Lo.ats_of_cells {S : Nat → Prop} {w : World} {b : Nat} : ∀ {l : List Lo} {off : Nat} {vs : List (Value × Value × Value × Value × Value × Value)}, LoV S w l vs →
    (∀ (j : Nat) u, (vs.flatMap fun v => [v.1, v.2.1, v.2.2.1, v.2.2.2.1, v.2.2.2.2.1, v.2.2.2.2.2])[j]? = some u → w.cell? ⟨b, off + j, none⟩ = some u) → Lo.ats S w l b off
  | [], _, [], _, _ => by rw [Lo.ats]; trivial
  | t :: l, off, v :: vs, h, hc => by
    rw [Lo.ats]
    refine ⟨⟨v.1, v.2.1, v.2.2.1, v.2.2.2.1, v.2.2.2.2.1, v.2.2.2.2.2, hc 0 _ (by simp), hc 1 _ (by simp), hc 2 _ (by simp), hc 3 _ (by simp), hc 4 _ (by simp), hc 5 _ (by simp), h.1⟩, Lo.ats_of_cells h.2 fun j u hj => ?_⟩
    rw [show off + 6 + j = off + (j + 6) by omega]
    exact hc (j + 6) u (by simpa using hj)

theorem st_append {c : Cx} (hP : c.P = Tryz.prog) (hN : ∀ b, c.w0.heap.size ≤ b → c.S b) {Q : Exit → Act → World → Prop} {o : Oper} {d x y : Nat} {l1 l2 : List Lo} (hx : c.ty x = AV.lolx l1) (hy : c.ty y = AV.lol l2) (hd : o.dst = some d) (hdn : d < c.n)
    (ho : o.op = .call { callee := .builtin .append, args := #[.tmp x, .tmp y], argTypes := #[74, 74] }) (hty : c.ty d = AV.lol (l1 ++ l2)) (h1 : 0 < l1.length) (h2 : 0 < l2.length) (h3 : (l1.length + l2.length) * 96 ≤ 1000000) : StepOk c Q o [x, y] [] [] := by
  refine step_make hN fun F V Dt Dv a w h ht => ?_
  have hxx := h.tmp x (ht _ (by simp)); rw [hx] at hxx
  have hyy := h.tmp y (ht _ (by simp)); rw [hy] at hyy
  obtain ⟨⟨A1, c1, e1, _, _, k1⟩, A1', e1'⟩ := hxx
  obtain ⟨A2, c2, e2, _, _, k2⟩ := hyy
  rw [e1] at e1'
  simp only [Value.slice.injEq] at e1'
  obtain ⟨-, -, rfl⟩ := e1'
  obtain ⟨b1, o1, rfl, hb1, hF1, ha1⟩ := k1 (by intro e; subst e; simp at h1)
  obtain ⟨b2, o2, rfl, hb2, hF2, ha2⟩ := k2 (by intro e; subst e; simp at h2)
  obtain ⟨vs1, v1, -, r1⟩ := Lo.ats_cells ha1
  obtain ⟨vs2, v2, -, r2⟩ := Lo.ats_cells ha2
  obtain ⟨n1, -⟩ := v1.get
  obtain ⟨n2, -⟩ := v2.get
  obtain ⟨i, hi, hz, hs, hby⟩ := info_parts3 (show (Tryz.prog.info? 77).map (fun i => (i.zero, i.size, i.bytes)) = some (some (.agg #[.int .i64 0, .int .i64 0, .int .i64 0, .slice none 0 0, .slice none 0 0, .slice none 0 0]), 6, 96) by kernel_rfl)
  have hsum : l1.length + l2.length ≤ 1000000 := by omega
  obtain ⟨v', w', hr, hown, hg⟩ := run_append_arg_grows (P := Tryz.prog) w 74 o.type 77 i _ 6 96 Tryz.underlying74 hi hz hs hby rfl (by decide) ⟨b1, o1, none⟩ l1.length l1.length _ ((flat6_length vs1).trans (by omega)) (fun j u hj => by rw [Addr.add_lit]; exact r1 j u hj)
    ⟨b2, o2, none⟩ l2.length c2 _ ((flat6_length vs2).trans (by omega)) (fun j u hj => by rw [Addr.add_lit]; exact r2 j u hj) (by omega) (by unfold maxLen; omega) (by omega)
  have hb : Below w.heap.size w w' := ⟨hg.os, hg.tape, hg.output, hg.size, fun k hk => hg.block k hk (by simp)⟩
  have e1 : a.eval (.tmp x) = .slice (some ⟨b1, o1, none⟩) l1.length l1.length := e1
  have e2 : a.eval (.tmp y) = .slice (some ⟨b2, o2, none⟩) l2.length c2 := e2
  refine ⟨v', w', ?_, hb, fun d' hd' => ?_⟩
  · rw [hP]
    unfold execOp
    simp only [ho, resolve, invoke, builtin, Sem.run_bind, Sem.run_pure, Result.andThen_ok, List.map_toArray, List.map_cons, List.map_nil, e1, e2, hr]
  · rw [hd] at hd'; simp only [Option.some.injEq] at hd'; subst hd'
    refine ⟨hdn, ?_⟩
    rw [hty]
    have hcell := fun g hg => World.ownsRow.cells hown (g := g) hg
    have hlt := World.ownsRow.lt hown
    obtain ⟨-, ⟨-, h0⟩ | ⟨g, cap, cur, rfl, hgb, -, hnc, hcm, -, -⟩⟩ := hown
    · omega
    refine ⟨_, cap, by rw [List.length_append], by rw [List.length_append]; exact hnc, hcm, fun _ => ⟨g, 0, rfl, (hlt g rfl).2, .inr ⟨hgb, (hlt g rfl).2⟩, ?_⟩⟩
    have hgrow : Grow F V w (grownTo F w w') V w' := ⟨hb.size, fun _ _ h => .inl h, fun b hlt _ => hb.block b hlt, fun _ _ h => h⟩
    have up : ∀ {l vs}, LoV F w l vs → LoV (grownTo F w w') w' l vs := by
      intro l
      induction l with
      | nil => intro vs hv; cases vs with
        | nil => trivial
        | cons _ _ => exact hv.elim
      | cons t l ih => intro vs hv; cases vs with
        | nil => exact hv.elim
        | cons v vs => exact ⟨hgrow.lo hv.1, ih hv.2⟩
    refine Lo.ats_of_cells (vs := vs1 ++ vs2) (LoV.append (up v1) (up v2)) fun j u hj => ?_
    have := hcell g rfl j u (by rw [List.flatMap_append] at hj; exact hj)
    rw [Addr.add_lit] at this
    exact this


theorem st_los1x {c : Cx} (hP : c.P = Tryz.prog) (hN : ∀ b, c.w0.heap.size ≤ b → c.S b) {Q : Exit → Act → World → Prop} {o : Oper} {d : Nat} {x0 : Nat} {s0 : Lo} (h0 : c.ty x0 = AV.lo s0) (hd : o.dst = some d) (hdn : d < c.n)
    (ho : o.op = .buildSlice 74 1 #[(0, .tmp x0)]) (hty : c.ty d = AV.lolx [s0]) : StepOk c Q o [x0] [] [] := by
  refine st_list hN hd hdn fun F V a w h => ?_
  have k0 : Lo.at F w s0 (a.eval (.tmp x0)) := by have := h x0 (by simp); rw [h0] at this; exact this
  generalize a.eval = ev at *
  obtain ⟨p0, y0, q0, r0, l0⟩ := s0; obtain ⟨A0, c0, B0, d0, e0⟩ := Lo.agg k0; rw [e0] at k0
  have hnew : ∀ o, LoV (grownTo F w (w.alloc o)) w [.mk p0 y0 q0 r0 l0] [(.int .i64 p0, .int .i64 y0, .int .i64 q0, .slice A0 r0.length c0, .slice B0 l0.length d0, .slice none 0 0)] := fun o => 
    LoV.cons (k0.mono fun _ _ h => .inl h) (LoV.nil _ _)
  refine ⟨#[.int .i64 p0, .int .i64 y0, .int .i64 q0, .slice A0 r0.length c0, .slice B0 l0.length d0, .slice none 0 0], 77, 1, ?_, ?_⟩
  · rw [hP]; unfold execOp; simp only [ho, List.map_toArray, List.map_cons, List.map_nil, e0]; clear hnew k0; go_simp
  · rw [hty]; exact ⟨LoL.of _ (hnew _) _ _ rfl (by simp [maxLen]) _ rfl (.inr (by simp)), _, rfl⟩


theorem st_boxPlan {c : Cx} (hP : c.P = Tryz.prog) {Q : Exit → Act → World → Prop} {o : Oper} {d s x : Nat} {p0 p1 p2 p3 p4 : Int} (hd : o.dst = some d) (hdn : d < c.n) (ho : o.op = .box 32 (.tmp s)) (hty : c.ty d = AV.ptr x 0) (hl : c.len x = 5) (hs : c.ty s = AV.raw (.agg #[.int .u32 p0, .int .u32 p1, .int .u32 p2, .int .u32 p3, .int .u32 p4])) (hc : c.con x = AV.raw (.agg #[.int .u32 p0, .int .u32 p1, .int .u32 p2, .int .u32 p3, .int .u32 p4])) : StepOk c Q o [s] [] [2 * x, 2 * x + 1] := by
  refine step_new (x := x) true hd hdn hty fun F V Dt Dv a w h ht => ?_
  have hss := h.tmp s (ht _ (by simp)); rw [hs] at hss
  refine ⟨#[.int .u32 p0, .int .u32 p1, .int .u32 p2, .int .u32 p3, .int .u32 p4], 32, ?_, by simp [hl], fun _ => by rw [hc]; exact rfl⟩
  have he : a.eval (.tmp s) = .agg #[.int .u32 p0, .int .u32 p1, .int .u32 p2, .int .u32 p3, .int .u32 p4] := hss
  clear h hss
  rw [hP]; unfold execOp; simp only [ho]; generalize a.eval = ev at *; rw [he]; go_simp
theorem st_convU {c : Cx} (hP : c.P = Tryz.prog) {Q : Exit → Act → World → Prop} {o : Oper} {d x : Nat} {n : Int} (hx : c.ty x = AV.raw (.int .u32 n)) (hd : o.dst = some d) (hdn : d < c.n) (ho : o.op = .convert 22 3 (.tmp x)) (hn : 0 ≤ n ∧ n < 4294967296) (hty : c.ty d = AV.i n) : StepOk c Q o [x] [] [] := by
  refine st_raw hx hd hdn hty fun a w e => ?_
  have hw : IntKind.i64.wrap n = n := by simp [IntKind.wrap, IntKind.signed, IntKind.bits]; omega
  rw [hP]; unfold execOp; simp only [ho]; generalize a.eval = ev at *; rw [e]; go_simp
theorem st_fieldPlan0 {c : Cx} (hP : c.P = Tryz.prog) {Q : Exit → Act → World → Prop} {o : Oper} {d p x : Nat} (hp : c.ty p = AV.ptr x 0) (hd : o.dst = some d) (hdn : d < c.n) (ho : o.op = .fieldAddr 32 (.tmp p) 0) (hty : c.ty d = AV.ptr x 0) : StepOk c Q o [p] [] [] := by
  refine st_field hp hd hdn hty fun a w g e => ?_
  rw [hP]; unfold execOp; simp only [ho]; generalize a.eval = ev at *; rw [e]; go_simp
theorem st_loadPlan0 {c : Cx} (hP : c.P = Tryz.prog) {Q : Exit → Act → World → Prop} {o : Oper} {d p x : Nat} {p0 p1 p2 p3 p4 : Int} (hp : c.ty p = AV.ptr x 0) (hd : o.dst = some d) (hdn : d < c.n) (ho : o.op = .load 22 (.tmp p)) (hc : c.con x = AV.raw (.agg #[.int .u32 p0, .int .u32 p1, .int .u32 p2, .int .u32 p3, .int .u32 p4])) (hty : c.ty d = AV.raw (.int .u32 p0)) : StepOk c Q o [p] [2 * x + 1] [] := by
  refine st_load hp hd hdn fun F V a w g cs T e hb hs hcon => ?_
  rw [hc] at hcon
  have hcs : cs = #[.int .u32 p0, .int .u32 p1, .int .u32 p2, .int .u32 p3, .int .u32 p4] := by
    have : (Value.agg cs) = .agg #[.int .u32 p0, .int .u32 p1, .int .u32 p2, .int .u32 p3, .int .u32 p4] := hcon
    simpa using this
  subst hcs
  have hv : VB w g T #[.int .u32 p0, .int .u32 p1, .int .u32 p2, .int .u32 p3, .int .u32 p4] := hb
  have h0 : w.cell? ⟨g, 0, none⟩ = some (.int .u32 p0) := hv.cell 0
  refine ⟨_, ?_, by rw [hty]; exact rfl⟩
  clear hb hcon hs
  rw [hP]; unfold execOp; simp only [ho]; generalize a.eval = ev at *; rw [e]; go_simp
theorem st_fieldPlan1 {c : Cx} (hP : c.P = Tryz.prog) {Q : Exit → Act → World → Prop} {o : Oper} {d p x : Nat} (hp : c.ty p = AV.ptr x 0) (hd : o.dst = some d) (hdn : d < c.n) (ho : o.op = .fieldAddr 32 (.tmp p) 1) (hty : c.ty d = AV.ptr x 1) : StepOk c Q o [p] [] [] := by
  refine st_field hp hd hdn hty fun a w g e => ?_
  rw [hP]; unfold execOp; simp only [ho]; generalize a.eval = ev at *; rw [e]; go_simp
theorem st_loadPlan1 {c : Cx} (hP : c.P = Tryz.prog) {Q : Exit → Act → World → Prop} {o : Oper} {d p x : Nat} {p0 p1 p2 p3 p4 : Int} (hp : c.ty p = AV.ptr x 1) (hd : o.dst = some d) (hdn : d < c.n) (ho : o.op = .load 22 (.tmp p)) (hc : c.con x = AV.raw (.agg #[.int .u32 p0, .int .u32 p1, .int .u32 p2, .int .u32 p3, .int .u32 p4])) (hty : c.ty d = AV.raw (.int .u32 p1)) : StepOk c Q o [p] [2 * x + 1] [] := by
  refine st_load hp hd hdn fun F V a w g cs T e hb hs hcon => ?_
  rw [hc] at hcon
  have hcs : cs = #[.int .u32 p0, .int .u32 p1, .int .u32 p2, .int .u32 p3, .int .u32 p4] := by
    have : (Value.agg cs) = .agg #[.int .u32 p0, .int .u32 p1, .int .u32 p2, .int .u32 p3, .int .u32 p4] := hcon
    simpa using this
  subst hcs
  have hv : VB w g T #[.int .u32 p0, .int .u32 p1, .int .u32 p2, .int .u32 p3, .int .u32 p4] := hb
  have h0 : w.cell? ⟨g, 1, none⟩ = some (.int .u32 p1) := hv.cell 1
  refine ⟨_, ?_, by rw [hty]; exact rfl⟩
  clear hb hcon hs
  rw [hP]; unfold execOp; simp only [ho]; generalize a.eval = ev at *; rw [e]; go_simp
theorem st_fieldPlan2 {c : Cx} (hP : c.P = Tryz.prog) {Q : Exit → Act → World → Prop} {o : Oper} {d p x : Nat} (hp : c.ty p = AV.ptr x 0) (hd : o.dst = some d) (hdn : d < c.n) (ho : o.op = .fieldAddr 32 (.tmp p) 2) (hty : c.ty d = AV.ptr x 2) : StepOk c Q o [p] [] [] := by
  refine st_field hp hd hdn hty fun a w g e => ?_
  rw [hP]; unfold execOp; simp only [ho]; generalize a.eval = ev at *; rw [e]; go_simp
theorem st_loadPlan2 {c : Cx} (hP : c.P = Tryz.prog) {Q : Exit → Act → World → Prop} {o : Oper} {d p x : Nat} {p0 p1 p2 p3 p4 : Int} (hp : c.ty p = AV.ptr x 2) (hd : o.dst = some d) (hdn : d < c.n) (ho : o.op = .load 22 (.tmp p)) (hc : c.con x = AV.raw (.agg #[.int .u32 p0, .int .u32 p1, .int .u32 p2, .int .u32 p3, .int .u32 p4])) (hty : c.ty d = AV.raw (.int .u32 p2)) : StepOk c Q o [p] [2 * x + 1] [] := by
  refine st_load hp hd hdn fun F V a w g cs T e hb hs hcon => ?_
  rw [hc] at hcon
  have hcs : cs = #[.int .u32 p0, .int .u32 p1, .int .u32 p2, .int .u32 p3, .int .u32 p4] := by
    have : (Value.agg cs) = .agg #[.int .u32 p0, .int .u32 p1, .int .u32 p2, .int .u32 p3, .int .u32 p4] := hcon
    simpa using this
  subst hcs
  have hv : VB w g T #[.int .u32 p0, .int .u32 p1, .int .u32 p2, .int .u32 p3, .int .u32 p4] := hb
  have h0 : w.cell? ⟨g, 2, none⟩ = some (.int .u32 p2) := hv.cell 2
  refine ⟨_, ?_, by rw [hty]; exact rfl⟩
  clear hb hcon hs
  rw [hP]; unfold execOp; simp only [ho]; generalize a.eval = ev at *; rw [e]; go_simp
theorem st_fieldPlan3 {c : Cx} (hP : c.P = Tryz.prog) {Q : Exit → Act → World → Prop} {o : Oper} {d p x : Nat} (hp : c.ty p = AV.ptr x 0) (hd : o.dst = some d) (hdn : d < c.n) (ho : o.op = .fieldAddr 32 (.tmp p) 3) (hty : c.ty d = AV.ptr x 3) : StepOk c Q o [p] [] [] := by
  refine st_field hp hd hdn hty fun a w g e => ?_
  rw [hP]; unfold execOp; simp only [ho]; generalize a.eval = ev at *; rw [e]; go_simp
theorem st_loadPlan3 {c : Cx} (hP : c.P = Tryz.prog) {Q : Exit → Act → World → Prop} {o : Oper} {d p x : Nat} {p0 p1 p2 p3 p4 : Int} (hp : c.ty p = AV.ptr x 3) (hd : o.dst = some d) (hdn : d < c.n) (ho : o.op = .load 22 (.tmp p)) (hc : c.con x = AV.raw (.agg #[.int .u32 p0, .int .u32 p1, .int .u32 p2, .int .u32 p3, .int .u32 p4])) (hty : c.ty d = AV.raw (.int .u32 p3)) : StepOk c Q o [p] [2 * x + 1] [] := by
  refine st_load hp hd hdn fun F V a w g cs T e hb hs hcon => ?_
  rw [hc] at hcon
  have hcs : cs = #[.int .u32 p0, .int .u32 p1, .int .u32 p2, .int .u32 p3, .int .u32 p4] := by
    have : (Value.agg cs) = .agg #[.int .u32 p0, .int .u32 p1, .int .u32 p2, .int .u32 p3, .int .u32 p4] := hcon
    simpa using this
  subst hcs
  have hv : VB w g T #[.int .u32 p0, .int .u32 p1, .int .u32 p2, .int .u32 p3, .int .u32 p4] := hb
  have h0 : w.cell? ⟨g, 3, none⟩ = some (.int .u32 p3) := hv.cell 3
  refine ⟨_, ?_, by rw [hty]; exact rfl⟩
  clear hb hcon hs
  rw [hP]; unfold execOp; simp only [ho]; generalize a.eval = ev at *; rw [e]; go_simp
theorem st_fieldPlan4 {c : Cx} (hP : c.P = Tryz.prog) {Q : Exit → Act → World → Prop} {o : Oper} {d p x : Nat} (hp : c.ty p = AV.ptr x 0) (hd : o.dst = some d) (hdn : d < c.n) (ho : o.op = .fieldAddr 32 (.tmp p) 4) (hty : c.ty d = AV.ptr x 4) : StepOk c Q o [p] [] [] := by
  refine st_field hp hd hdn hty fun a w g e => ?_
  rw [hP]; unfold execOp; simp only [ho]; generalize a.eval = ev at *; rw [e]; go_simp
theorem st_loadPlan4 {c : Cx} (hP : c.P = Tryz.prog) {Q : Exit → Act → World → Prop} {o : Oper} {d p x : Nat} {p0 p1 p2 p3 p4 : Int} (hp : c.ty p = AV.ptr x 4) (hd : o.dst = some d) (hdn : d < c.n) (ho : o.op = .load 22 (.tmp p)) (hc : c.con x = AV.raw (.agg #[.int .u32 p0, .int .u32 p1, .int .u32 p2, .int .u32 p3, .int .u32 p4])) (hty : c.ty d = AV.raw (.int .u32 p4)) : StepOk c Q o [p] [2 * x + 1] [] := by
  refine st_load hp hd hdn fun F V a w g cs T e hb hs hcon => ?_
  rw [hc] at hcon
  have hcs : cs = #[.int .u32 p0, .int .u32 p1, .int .u32 p2, .int .u32 p3, .int .u32 p4] := by
    have : (Value.agg cs) = .agg #[.int .u32 p0, .int .u32 p1, .int .u32 p2, .int .u32 p3, .int .u32 p4] := hcon
    simpa using this
  subst hcs
  have hv : VB w g T #[.int .u32 p0, .int .u32 p1, .int .u32 p2, .int .u32 p3, .int .u32 p4] := hb
  have h0 : w.cell? ⟨g, 4, none⟩ = some (.int .u32 p4) := hv.cell 4
  refine ⟨_, ?_, by rw [hty]; exact rfl⟩
  clear hb hcon hs
  rw [hP]; unfold execOp; simp only [ho]; generalize a.eval = ev at *; rw [e]; go_simp

end Go.Proofs.YtgohnekaolgblaaGreat

/- The document's memory: a byte is laid: contract (gimletref12's set). -/
namespace Go.Proofs.YtgohnekaolgblaaGreat
open Go.RowKit

/-- A byte is laid at a place. -/
def Mm.set : List (Int × Int) → Int → Int → List (Int × Int)
  | [], a, b => [(a, b)]
  | p :: L, a, b => if p.1 < a then p :: Mm.set L a b else if p.1 = a then (a, b) :: L else (a, b) :: p :: L
theorem Mm.set_is : ∀ {L : List (Int × Int)} {a b : Int} {i : Nat}, Mm.Spot L a i true → Mm.set L a b = L.set i (a, b)
  | [], a, b, i, h => by obtain ⟨hi, _⟩ := h.2.2.2.1 rfl; simp at hi
  | p :: L, a, b, 0, h => by
    obtain ⟨_, ha⟩ := h.2.2.2.1 rfl
    simp only [List.getElem_cons_zero] at ha
    simp only [Mm.set, List.set_cons_zero]
    rw [if_neg (by omega), if_pos ha]
  | p :: L, a, b, i + 1, h => by
    have h0 := h.2.1 0 (by simp) (by omega)
    simp only [List.getElem_cons_zero] at h0
    simp only [Mm.set, List.set_cons_succ]
    rw [if_pos h0, Mm.set_is (L := L) (i := i)]
    obtain ⟨h1, h2, h3, h4⟩ := h
    refine ⟨by simpa using h1, fun j hj hji => by have := h2 (j + 1) (by simpa using hj) (by omega); simpa using this, fun j hj hji => by have := h3 (j + 1) (by simpa using hj) (by omega); simpa using this, ?_⟩
    simpa using h4
theorem Mm.set_not : ∀ {L : List (Int × Int)} {a b : Int} {i : Nat}, Mm.Spot L a i false → Mm.set L a b = L.take i ++ (a, b) :: L.drop i
  | [], a, b, i, h => by simp [Mm.set]
  | p :: L, a, b, 0, h => by
    have h3 := h.2.2.1 0 (by simp) (Nat.le_refl _)
    have h4 : ¬ p.1 = a := fun e => by have := h.2.2.2.2 ⟨by simp, by simpa using e⟩; cases this
    simp only [List.getElem_cons_zero] at h3
    simp only [Mm.set, List.take_zero, List.drop_zero, List.nil_append]
    rw [if_neg (by omega), if_neg h4]
  | p :: L, a, b, i + 1, h => by
    have h0 := h.2.1 0 (by simp) (by omega)
    simp only [List.getElem_cons_zero] at h0
    simp only [Mm.set, List.take_succ_cons, List.drop_succ_cons, List.cons_append]
    rw [if_pos h0, Mm.set_not (L := L) (i := i)]
    obtain ⟨h1, h2, h3, h4⟩ := h
    refine ⟨by simpa using h1, fun j hj hji => by have := h2 (j + 1) (by simpa using hj) (by omega); simpa using this, fun j hj hji => by have := h3 (j + 1) (by simpa using hj) (by omega); simpa using this, ?_⟩
    simpa using h4
theorem Mm.up_tail {p : Int × Int} {L : List (Int × Int)} (h : Mm.Up (p :: L)) : Mm.Up L ∧ ∀ q ∈ L, p.1 < q.1 := by
  refine ⟨fun i j hi hj hij => by have := h (i + 1) (j + 1) (by simpa using hi) (by simpa using hj) (by omega); simpa using this, fun q hq => ?_⟩
  obtain ⟨j, hj, rfl⟩ := List.getElem_of_mem hq
  have := h 0 (j + 1) (by simp) (by simpa using hj) (by omega)
  simpa using this
theorem Mm.up_cons {p : Int × Int} {L : List (Int × Int)} (h : Mm.Up L) (hp : ∀ q ∈ L, p.1 < q.1) : Mm.Up (p :: L) := by
  intro i j hi hj hij
  cases j with
  | zero => omega
  | succ j =>
    cases i with
    | zero => simp only [List.getElem_cons_zero, List.getElem_cons_succ]; exact hp _ (List.getElem_mem _)
    | succ i => simp only [List.getElem_cons_succ]; exact h i j (by simpa using hi) (by simpa using hj) (by omega)
theorem Mm.set_mem : ∀ {L : List (Int × Int)} {a b : Int} {q : Int × Int}, q ∈ Mm.set L a b → q = (a, b) ∨ q ∈ L
  | [], a, b, q, h => by simp [Mm.set] at h; exact .inl h
  | p :: L, a, b, q, h => by
    simp only [Mm.set] at h
    split at h
    · rcases List.mem_cons.1 h with h | h
      · exact .inr (by simp [h])
      · rcases Mm.set_mem h with h | h
        · exact .inl h
        · exact .inr (by simp [h])
    · split at h
      · rcases List.mem_cons.1 h with h | h
        · exact .inl h
        · exact .inr (by simp [h])
      · rcases List.mem_cons.1 h with h | h
        · exact .inl h
        · exact .inr h
theorem Mm.up_set : ∀ {L : List (Int × Int)} {a b : Int}, Mm.Up L → Mm.Up (Mm.set L a b)
  | [], a, b, _ => by intro i j hi hj hij; simp [Mm.set] at hi hj; omega
  | p :: L, a, b, h => by
    obtain ⟨h1, h2⟩ := Mm.up_tail h
    simp only [Mm.set]
    split
    · rename_i hlt
      refine Mm.up_cons (Mm.up_set h1) fun q hq => ?_
      rcases Mm.set_mem hq with rfl | hq
      · exact hlt
      · exact h2 q hq
    · split
      · rename_i hlt he
        exact Mm.up_cons h1 fun q hq => by have := h2 q hq; simp only; omega
      · rename_i hlt he
        refine Mm.up_cons h fun q hq => ?_
        rcases List.mem_cons.1 hq with rfl | hq
        · simp only; omega
        · have := h2 q hq; simp only; omega
theorem Mm.get_set : ∀ {L : List (Int × Int)} {a b x : Int}, Mm.Up L → Mm.get (Mm.set L a b) x = if x = a then b else Mm.get L x
  | [], a, b, x, _ => by simp only [Mm.set, Mm.get]; split <;> split <;> first | rfl | omega
  | p :: L, a, b, x, h => by
    obtain ⟨h1, h2⟩ := Mm.up_tail h
    simp only [Mm.set]
    split
    · rename_i hlt
      simp only [Mm.get, Mm.get_set h1]
      by_cases e : p.1 = x
      · rw [if_pos e, if_neg (by omega), if_pos e]
      · rw [if_neg e, if_neg e]
    · split
      · rename_i hlt he
        simp only [Mm.get]
        by_cases e : a = x
        · rw [if_pos e, if_pos e.symm]
        · have e2 : ¬ x = a := fun h => e h.symm
          have e3 : ¬ p.1 = x := by omega
          simp only [if_neg e, if_neg e2, if_neg e3]
      · simp only [Mm.get]
        by_cases e : a = x
        · rw [if_pos e, if_pos e.symm]
        · have e2 : ¬ x = a := fun h => e h.symm
          simp only [if_neg e, if_neg e2]
theorem Mm.set_len : ∀ (L : List (Int × Int)) (a b : Int), L.length ≤ (Mm.set L a b).length ∧ (Mm.set L a b).length ≤ L.length + 1
  | [], a, b => by simp [Mm.set]
  | p :: L, a, b => by
    have := Mm.set_len L a b
    simp only [Mm.set]
    split
    · simp only [List.length_cons]; omega
    · split <;> simp
/-- So many cells there are at most, as many places there are. -/
theorem Mm.len_le {L : List (Int × Int)} {M : Nat} (h : Mm.Up L) (hM : ∀ q ∈ L, 0 ≤ q.1 ∧ q.1 < M) : L.length ≤ M := by
  have key : ∀ i (hi : i < L.length), (i : Int) ≤ L[i].1 := by
    intro i
    induction i with
    | zero => intro hi; exact (hM _ (List.getElem_mem hi)).1
    | succ i ih => intro hi; have h1 := ih (by omega); have h2 := h i (i + 1) (by omega) hi (by omega); omega
  rcases Nat.lt_or_ge M L.length with hlt | hge
  · have h1 := key (L.length - 1) (by omega)
    have h2 := (hM _ (List.getElem_mem (show L.length - 1 < L.length by omega))).2
    omega
  · exact hge
theorem Mm.flat_set : ∀ (L : List (Int × Int)) (i : Nat) (hi : i < L.length) (b : Int), Mm.flat (L.set i (L[i].1, b)) = (Mm.flat L).set (i * 2 + 1) (.int .u8 b)
  | p :: L, 0, _, b => by simp [Mm.flat]
  | p :: L, i + 1, hi, b => by
    have := Mm.flat_set L i (by simpa using hi) b
    rw [show (i + 1) * 2 + 1 = (i * 2 + 1) + 2 by omega]
    simp only [List.set_cons_succ, List.getElem_cons_succ, Mm.flat, List.flatMap_cons] at this ⊢
    rw [this]
    simp
theorem Mm.flat_append (a b : List (Int × Int)) : Mm.flat (a ++ b) = Mm.flat a ++ Mm.flat b := by simp [Mm.flat]
theorem Mm.flat_take (L : List (Int × Int)) (i : Nat) : Mm.flat (L.take i) = (Mm.flat L).take (i * 2) := by
  induction L generalizing i with
  | nil => simp [Mm.flat]
  | cons p L ih => cases i with
    | zero => simp [Mm.flat]
    | succ i => rw [show (i + 1) * 2 = i * 2 + 2 by omega]; have := ih i; simp only [Mm.flat, List.take_succ_cons, List.flatMap_cons] at this ⊢; rw [this]; simp
theorem Mm.flat_drop (L : List (Int × Int)) (i : Nat) : Mm.flat (L.drop i) = (Mm.flat L).drop (i * 2) := by
  induction L generalizing i with
  | nil => simp [Mm.flat]
  | cons p L ih => cases i with
    | zero => simp [Mm.flat]
    | succ i => rw [show (i + 1) * 2 = i * 2 + 2 by omega]; have := ih i; simp only [Mm.flat, List.drop_succ_cons, List.flatMap_cons] at this ⊢; rw [this]; simp
theorem Mm.flat_one (L : List (Int × Int)) : ∀ u ∈ Mm.flat L, u.oneCell' = true := by
  intro u hu
  simp only [Mm.flat, List.mem_flatMap, List.mem_cons, List.not_mem_nil, or_false] at hu
  obtain ⟨p, _, rfl | rfl⟩ := hu <;> rfl

theorem GrowS.grownR {S : Nat → Prop} {a w w' : World} (h : GrowS S a w) {r : Option Nat} (hg : w.grownBy w' r) (hr : ∀ g, r = some g → g < a.heap.size → S g) : GrowS S a w' :=
  ⟨hg.os.trans h.os, hg.tape.trans h.tape, hg.output.trans h.output, Nat.le_trans h.size hg.size, fun k hk hn => (hg.block k (by have := h.size; omega) (fun e => hn (hr k e.symm hk))).trans (h.block k hk hn)⟩
/-- append onto a row of the call's own, with where the new row lies. -/
theorem app_row {P : Program} {T E : TypeId} {i : TypeInfo} {z : Value} {size bytes : Nat} (hT : P.underlying T = some (.slice E)) (hi : P.info? E = some i) (hz : i.zero = some z) (hsz : i.size = size) (hby : i.bytes = bytes) (hzs : z.cells.size = size) (hpos : 0 < size)
    {ops : Array Oper} {rest : List Oper} {o : Oper} {a : Act} {Q : Exit → Act → World → Prop} (hgd : o.guard = none) (s x : Operand) (ho : o.op = .call { callee := .builtin .append, args := #[s, x], argTypes := #[T, T] })
    {B : Nat} {w : World} {v : Value} {n : Nat} {xs : List Value} (hs : a.eval s = v) (hown : w.ownsRow B E size v n xs) (ad : Addr) (m c : Nat) (news : List Value) (hx : a.eval x = .slice (some ad) m c) (hl : news.length = m * size) (hnews : ∀ j u, news[j]? = some u → w.cell? (ad.add j) = some u) (h1 : ∀ u ∈ news, u.oneCell' = true)
    (h63 : n + m ≤ maxLen) (hbytes : (n + m) * bytes ≤ 140737488355328) (hB : B ≤ w.heap.size)
    (h : ∀ v' w', w'.ownsRow B E size v' (n + m) (xs ++ news) → w.grownBy w' v.ownBlock → (v'.ownBlock = v.ownBlock ∨ v'.ownBlock = some w.heap.size) → wpList P ops Q rest (a.put o.dst v') w') : wpList P ops Q (o :: rest) a w := by
  refine wpList_plain hgd fun K hK => ?_
  obtain ⟨v', w', hrun, h2, h3, _, h5⟩ := run_append_own_at (P := P) w B T o.type E i z size bytes hT hi hz hsz hby hzs hpos v n xs hown ad m c news hl hnews h1 h63 hbytes hB
  unfold Oper.wp execOp
  simp only [ho, resolve, invoke, builtin, Sem.run_bind, Sem.run_pure, Result.andThen_ok, List.map_toArray, List.map_cons, List.map_nil, hs, hx, hrun]
  exact hK _ _ (h v' w' h2 h3 h5)
theorem VB.grownA {w w' : World} {t : Nat} {T : TypeId} {cs : Array Value} (h : VB w t T cs) {r : Option Nat} (hg : w.grownBy w' r) (hne : ∀ g, r = some g → t ≠ g) : VB w' t T cs :=
  (hg.block t h.lt (fun e => hne t e.symm rfl)).trans h
theorem row_slice {w : World} {B : Nat} {E : TypeId} {size : Nat} {v : Value} {n : Nat} {xs : List Value} (h : w.ownsRow B E size v n xs) : ∃ A c, v = .slice A n c := by
  obtain ⟨-, ⟨rfl, hn⟩ | ⟨g, cap, cur, rfl, -⟩⟩ := h
  · exact ⟨none, 0, by rw [hn]⟩
  · exact ⟨_, _, rfl⟩
theorem row_keep {w w' : World} {B : Nat} {E : TypeId} {size : Nat} {v : Value} {n : Nat} {xs : List Value} (h : w.ownsRow B E size v n xs) (hg : ∀ g, v.ownBlock = some g → w'.heap[g]? = w.heap[g]?) : w'.ownsRow B E size v n xs := by
  obtain ⟨h1, h2 | ⟨g, cap, cur, hv, hB, hh, r⟩⟩ := h
  · exact ⟨h1, .inl h2⟩
  · exact ⟨h1, .inr ⟨g, cap, cur, hv, hB, by rw [hg g (by rw [hv]; rfl)]; exact hh, r⟩⟩
theorem cell_grown {w w' : World} {r : Option Nat} {b o : Nat} {v : Value} (hg : w.grownBy w' r) (hc : w.cell? ⟨b, o, none⟩ = some v) (hne : r ≠ some b) : w'.cell? ⟨b, o, none⟩ = some v := by
  rw [← hc]
  exact World.cell?_of_block (w := w) (hg.block b (World.block_lt_of_cell? w _ hc) (fun e => hne e.symm))
theorem cells2 (w : World) (x y : Value) (T : TypeId) : ∀ (j : Nat) u, [x, y][j]? = some u → (w.alloc (.cells #[x, y] T)).cell? ((⟨w.heap.size, 0, none⟩ : Addr).add j) = some u := by
  intro j u hj
  have h := (VB.new w T #[x, y]).cell j
  rw [Addr.add_lit, Nat.zero_add, h]
  match j, hj with
  | 0, hj => simpa using hj
  | 1, hj => simpa using hj
theorem row_low {w : World} {B C : Nat} {E : TypeId} {size : Nat} {v : Value} {n : Nat} {xs : List Value} (h : w.ownsRow B E size v n xs) (hC : C ≤ B) : w.ownsRow C E size v n xs := by
  obtain ⟨h1, h2 | ⟨g, cap, cur, hv, hB, r⟩⟩ := h
  · exact ⟨h1, .inl h2⟩
  · exact ⟨h1, .inr ⟨g, cap, cur, hv, Nat.le_trans hC hB, r⟩⟩
theorem take_some {α : Type} {l : List α} {n j : Nat} {u : α} (h : (l.take n)[j]? = some u) : l[j]? = some u := by
  rw [List.getElem?_take] at h
  split at h
  · exact h
  · cases h
theorem row_some {w : World} {B : Nat} {E : TypeId} {size : Nat} {v : Value} {n : Nat} {xs : List Value} (h : w.ownsRow B E size v n xs) (hn : 0 < n) : ∃ g c, v = .slice (some ⟨g, 0, none⟩) n c ∧ B ≤ g ∧ g < w.heap.size ∧ ∀ (j : Nat) u, xs[j]? = some u → w.cell? ⟨g, j, none⟩ = some u := by
  have hc := fun g hg => World.ownsRow.cells h (g := g) hg
  have hl := World.ownsRow.lt h
  obtain ⟨-, ⟨rfl, hn0⟩ | ⟨g, cap, cur, rfl, -⟩⟩ := h
  · omega
  · refine ⟨g, cap, rfl, (hl g rfl).1, (hl g rfl).2, fun j u hj => ?_⟩
    have := hc g rfl j u hj
    rwa [Addr.add_lit, Nat.zero_add] at this
/-- What may turn where a byte is laid: the memory's own block, its cells' row. -/
def MmS (m : Nat) (sv : Value) : Nat → Prop := fun k => k = m ∨ sv.ownBlock = some k

set_option maxRecDepth 100000 in
set_option maxHeartbeats 4000000 in
theorem mmSet (w : World) (B m : Nat) (N Most : Int) (sv : Value) (L : List (Int × Int)) (a b : Int) (h : MemAt w B m N Most sv L) (hlen : L.length ≤ 1000000) (hm : m < B) (hB : B ≤ w.heap.size) :
    Calls Tryz.prog 82 #[.pointer (some ⟨m, 0, none⟩), .int .i64 a, .int .u8 b] w fun e w' => ∃ sv', e = .returned (.tuple #[]) ∧ MemAt w' B m N Most sv' (Mm.set L a b) ∧ GrowS (MmS m sv) w w' ∧ (∀ g, sv'.ownBlock = some g → sv.ownBlock = some g ∨ w.heap.size ≤ g) := by
  have C := Lib.hid (mmFind w B m N Most sv L a h hlen)
  replace h := Lib.hid h
  obtain ⟨r, hr⟩ : ∃ r, r = Mm.set L a b := ⟨_, rfl⟩
  rw [← hr]
  replace hr := Lib.hid hr
  obtain ⟨iC, hiC, hzC, hsC, hbC⟩ := info_parts3 (show (Tryz.prog.info? 119).map (fun i => (i.zero, i.size, i.bytes)) = some (some (.agg #[.int .i64 0, .int .u8 0]), 2, 16) by kernel_rfl)
  replace hiC := Lib.hid hiC
  replace hzC := Lib.hid hzC
  replace hsC := Lib.hid hsC
  replace hbC := Lib.hid hbC
  go_enter Tryz.func82, Tryz.ntmps82
  go_wp2_with fail
  refine C.out.mono ?_
  rintro _ w1 ⟨i, is, rfl, hs, b1⟩
  have h1 := h.out.call b1
  have G1 := Lib.hid ((GrowS.refl (MmS m sv) w).below b1)
  have hs1 := hs.1
  have v2 := h1.vb.cell 2
  have f2 := h1.vb.free 2
  simp at v2
  obtain ⟨A, cap, rfl, hel⟩ := h1.slice
  have hlI : (L.length : Int) ≤ 1000000 := by omega
  have hsz := b1.size
  clear C h b1
  cases is with
  | true =>
    obtain ⟨hil, ha⟩ := hs.2.2.2.1 rfl
    obtain ⟨g, rfl, hgB, hgw, x0, x1, xf⟩ := hel i hil
    have hilI : (i : Int) < (L.length : Int) := by omega
    have hst := (World.ownsRow.stored h1.own (i * 2 + 1) (.int .u8 b)).1
    rw [← Mm.flat_set L i hil b, ha, ← Mm.set_is hs, ← hr.out] at hst
    have hrl : r.length = L.length := by rw [hr.out, Mm.set_is hs, List.length_set]
    have hV := h1.vb.far g (i * 2 + 1) (by omega) (.int .u8 b)
    have hfin : MemAt (w1.setCell ⟨g, i * 2 + 1, none⟩ (.int .u8 b)) B m N Most (.slice (some ⟨g, 0, none⟩) L.length cap) r := ⟨hV, by rw [hrl]; exact hst, by rw [hr.out]; exact Mm.up_set h1.up⟩
    have hG := Lib.hid (G1.out.set (b := g) (i := i * 2 + 1) (.inr rfl) (.int .u8 b))
    replace hfin := Lib.hid hfin
    clear hs hel h1 hst hV hrl ha x0
    go_wp2_with fail
    go_returns
    exact ⟨_, rfl, hfin.out, hG.out, fun g' hg' => .inl hg'⟩
  | false =>
    have hown1 := Lib.hid h1.own
    have hup1 := Lib.hid h1.up
    have hlt1 := Lib.hid (World.ownsRow.lt h1.own)
    have hvb1 := Lib.hid h1.vb
    have hset := Mm.set_not (b := b) hs
    by_cases hil : i = L.length
    · subst hil
      rw [List.take_of_length_le (Nat.le_refl _), List.drop_of_length_le (Nat.le_refl _)] at hset
      have hfl : Mm.flat r = Mm.flat L ++ [.int .i64 a, .int .u8 b] := by rw [hr.out, hset, Mm.flat_append]; rfl
      have hrl : r.length = L.length + 1 := by rw [hr.out, hset, List.length_append]; rfl
      replace hfl := Lib.hid hfl
      replace hrl := Lib.hid hrl
      clear hs hel h1 hset
      go_wp2_with (at_builtin; refine app_row Tryz.underlying115 hiC.out hzC.out hsC.out hbC.out rfl (by decide) rfl (.tmp 35) (.tmp 39) rfl rfl (World.ownsRow.alloc hown1.out _) ⟨w1.heap.size, 0, none⟩ 1 1 [.int .i64 a, .int .u8 b] rfl rfl (cells2 w1 _ _ _) (by simp [Value.oneCell']) (by unfold maxLen; omega) (by omega) (by simp; omega) ?_; intro v3 w3 hown3 hg3 hb3; have hv3 := VB.grownA (hvb1.out.alloc _) hg3 (fun g e => by have := (hlt1.out g e).1; omega); have y2 := hv3.cell 2; have yf2 := hv3.free 2; simp at y2; obtain ⟨A3, c3, rfl⟩ := row_slice hown3; replace hv3 := Lib.hid hv3; replace hown3 := Lib.hid hown3; replace hg3 := Lib.hid hg3; replace hb3 := Lib.hid hb3)
      go_returns
      refine ⟨_, rfl, ⟨hv3.out.set 2 _, ?_, by rw [hr.out]; exact Mm.up_set hup1.out⟩, (((G1.out.alloc _).grownR hg3.out (fun g e _ => .inr e)).set (.inl rfl) _), ?_⟩
      · rw [hrl.out, hfl.out]
        exact ownsRow_setCell_below hown3.out hm _
      · intro g hg
        rcases hb3.out with e | e
        · exact .inl (e.symm.trans hg)
        · replace e := hg.symm.trans e
          simp only [Option.some.injEq, World.size_alloc] at e
          exact .inr (by omega)
    · have hil2 : i < L.length := by omega
      obtain ⟨g, rfl, hgB, hgw, -, -, -⟩ := hel i hil2
      have hcells : ∀ (j : Nat) (u : Value), (Mm.flat L)[j]? = some u → w1.cell? ⟨g, j, none⟩ = some u := fun j u hj => by
        have := World.ownsRow.cells hown1.out (g := g) rfl j u hj
        rwa [Addr.add_lit, Nat.zero_add] at this
      replace hcells := Lib.hid hcells
      have hfl : Mm.flat r = (Mm.flat (L.take i) ++ [.int .i64 a, .int .u8 b]) ++ Mm.flat (L.drop i) := by rw [hr.out, hset, Mm.flat_append]; simp [Mm.flat]
      have hrl : r.length = i + 1 + (L.length - i) := by rw [hr.out, hset, List.length_append, List.length_cons, List.length_take, List.length_drop]; omega
      have hcap : L.length ≤ cap := by
        obtain ⟨-, ⟨h0, -⟩ | ⟨g', cap', cur', h0, -, -, h5, -⟩⟩ := hown1.out
        · cases h0
        · simp only [Value.slice.injEq, true_and] at h0; obtain ⟨-, rfl⟩ := h0; exact h5
      have hne : ¬ (i : Int) = (L.length : Int) := by omega
      have hiI : (i : Int) < (L.length : Int) := by omega
      have hcapI : (L.length : Int) ≤ (cap : Int) := by omega
      replace hfl := Lib.hid hfl
      replace hrl := Lib.hid hrl
      have hmw : m < w1.heap.size := hvb1.out.lt
      have hrow0 : (w1.alloc (.cells #[] 119)).ownsRow w1.heap.size 119 2 (.slice (some ⟨w1.heap.size, 0, none⟩) 0 0) 0 [] := ⟨rfl, .inr ⟨w1.heap.size, 0, #[], rfl, Nat.le_refl _, heap_alloc_new w1 _, Nat.le_refl _, by simp, rfl, rfl⟩⟩
      have hnews : ∀ (j : Nat) u, (Mm.flat (L.drop i))[j]? = some u → (w1.alloc (.cells #[] 119)).cell? ((⟨g, i * 2, none⟩ : Addr).add j) = some u := fun j u hj => by
        rw [Mm.flat_drop, List.getElem?_drop] at hj
        rw [Addr.add_lit]
        exact cellA (hcells.out (i * 2 + j) u hj) _
      replace hrow0 := Lib.hid hrow0
      replace hnews := Lib.hid hnews
      clear hs hel h1 hset hil
      go_wp2_with (first
        | (at_builtin; refine app_row (v := .slice (some ⟨w1.heap.size, 0, none⟩) 0 0) Tryz.underlying115 hiC.out hzC.out hsC.out hbC.out rfl (by decide) rfl (.tmp 43) (.tmp 49) rfl rfl hrow0.out ⟨g, i * 2, none⟩ (L.length - i) (cap - i) (Mm.flat (L.drop i)) rfl (by rw [Mm.flat_length, List.length_drop]) hnews.out (Mm.flat_one _) (by unfold maxLen; omega) (by omega) (by simp) ?_; intro v2 w2 hown2 hg2 hb2; rw [Nat.zero_add, List.nil_append] at hown2; obtain ⟨g2, c2, hv2e, hg2B, hg2w, hcr⟩ := row_some hown2 (by omega); subst hv2e; have hv2 := VB.grownA (hvb1.out.alloc _) hg2 (fun g' e => by simp [Value.ownBlock] at e; omega); have hc2 := Lib.hid (fun (j : Nat) (u : Value) (hj : (Mm.flat L)[j]? = some u) => cell_grown hg2 (cellA (hcells.out j u hj) (.cells #[] 119)) (by simp only [Value.ownBlock, ne_eq, Option.some.injEq]; omega)); have hG2 := Lib.hid ((G1.out.alloc (.cells #[] 119)).grownR hg2 (fun g' e hlt => by simp [Value.ownBlock] at e; omega)); have hb2s := hg2.size; have y2 := hv2.cell 2; simp at y2; have hmw2 := hv2.lt; replace hv2 := Lib.hid hv2; replace hcr := Lib.hid hcr; clear hown2 hg2 hb2 hrow0 hnews v2 f2)
        | (at_builtin; (refine wpList_append_grows _ rfl (.tmp 58) (.tmp 62) _ rfl _ _ _ 2 16 Tryz.underlying115 hiC.out hzC.out hsC.out hbC.out rfl (by decide) (some ⟨g, 0, none⟩) i i (Mm.flat (L.take i)) rfl (fun e => by cases e) (by rw [Mm.flat_length, List.length_take]; omega) (fun b' e j u hj => by cases e; rw [Addr.add_lit, Nat.zero_add]; rw [Mm.flat_take] at hj; exact cellA (hc2.out j u (take_some hj)) _) ⟨w2.heap.size, 0, none⟩ 1 1 [.int .i64 a, .int .u8 b] rfl rfl (cells2 w2 _ _ _) (by simp [Value.oneCell']) (by omega) (by unfold maxLen; omega) (by omega) ?_; intro v3 w3 hown3 hg3; obtain ⟨g3, c3, hv3e, hg3B, hg3w, -⟩ := row_some hown3 (by omega); subst hv3e; have hv3 := VB.grownA (hv2.out.alloc _) hg3 (fun g' e => by cases e); have hcr3 := Lib.hid (fun (j : Nat) (u : Value) (hj : (Mm.flat (L.drop i))[j]? = some u) => cell_grown hg3 (cellA (hcr.out j u hj) (.cells #[.int .i64 a, .int .u8 b] 119)) (by simp)); have hG3 := Lib.hid ((hG2.out.alloc (.cells #[.int .i64 a, .int .u8 b] 119)).grownR hg3 (fun g' e hlt => by cases e)); have hg3s := hg3.size; have hmw3 := hv3.lt; simp only [World.size_alloc] at hg3s hg3B; replace hv3 := Lib.hid hv3; replace hown3 := Lib.hid hown3; clear hg3 hc2 hcr))
        | (at_builtin; (refine app_row (v := .slice (some ⟨g3, 0, none⟩) (i + 1) c3) Tryz.underlying115 hiC.out hzC.out hsC.out hbC.out rfl (by decide) rfl (.tmp 63) (.tmp 64) rfl rfl hown3.out ⟨g2, 0, none⟩ (L.length - i) c2 (Mm.flat (L.drop i)) rfl (by rw [Mm.flat_length, List.length_drop]) (fun j u hj => by rw [Addr.add_lit, Nat.zero_add]; exact hcr3.out j u hj) (Mm.flat_one _) (by unfold maxLen; omega) (by omega) (by simp only [World.size_alloc]; omega) ?_; intro v4 w4 hown4 hg4 hb4; have hv4 := VB.grownA hv3.out hg4 (fun g' e => by simp [Value.ownBlock] at e; omega); have y4 := hv4.cell 2; have yf4 := hv4.free 2; simp at y4; have hG4 := Lib.hid (hG3.out.grownR hg4 (fun g' e hlt => by simp [Value.ownBlock] at e; omega)); replace hv4 := Lib.hid hv4; obtain ⟨A4, c4, hv4e⟩ := row_slice hown4; subst hv4e; replace hown4 := Lib.hid hown4; replace hb4 := Lib.hid hb4; clear hg4 hcr3 hown3)))
      go_returns
      refine ⟨_, rfl, ⟨hv4.out.set 2 _, ?_, by rw [hr.out]; exact Mm.up_set hup1.out⟩, hG4.out.set (.inl rfl) _, ?_⟩
      · rw [hrl.out, hfl.out]
        exact row_low (ownsRow_setCell_below hown4.out (by simp only [World.size_alloc]; omega) _) (by simp only [World.size_alloc]; omega)
      · intro g' hg'
        have := (World.ownsRow.lt hown4.out g' hg').1
        simp only [World.size_alloc] at this
        exact .inr (by omega)

end Go.Proofs.YtgohnekaolgblaaGreat
