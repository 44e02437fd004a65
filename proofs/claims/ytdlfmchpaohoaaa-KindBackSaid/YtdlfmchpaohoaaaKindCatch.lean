/- Layer 4: the deferred function of 'reads': what it does where reading has stopped, and where it has not. -/
import Derived.Test.YtdlfmchpaohoaaaKindDo
import Derived.Recover
import Derived.Defers
import Derived.Laws.Pointers
namespace Go.Proofs.Ytdlfmchpaohoaaa
open Go.RowKit

theorem assert_stop (e p : Int) (w : World) : (Instr.typeAssert (.iface 79 (.agg #[.int .i64 e, .int .i64 p])) 20 79 true).run Try.prog w = .ok (.tuple #[.agg #[.int .i64 e, .int .i64 p], .bool true]) w := by kernel_rfl
theorem assert_nil (w : World) : (Instr.typeAssert .nilIface 20 79 true).run Try.prog w = .ok (.tuple #[.agg #[.int .i64 0, .int .i64 0], .bool false]) w := by kernel_rfl

set_option maxHeartbeats 1000000 in
theorem catch_stop (n f : Nat) (e p x y z : Int) (older : List PanicEntry) (w : World) (hn : w.cell? ⟨n, 0, none⟩ = some (.int .i64 x)) (hnf : w.frozen? ⟨n, 0, none⟩ = false)
    (h0 : w.cell? ⟨f, 0, none⟩ = some (.int .i64 y)) (h1 : w.cell? ⟨f, 1, none⟩ = some (.int .i64 z)) (f0 : w.frozen? ⟨f, 0, none⟩ = false) (f1 : w.frozen? ⟨f, 1, none⟩ = false) (hne : ¬ n = f)
    (ln : n < w.heap.size) (lf : f < w.heap.size) :
    CallsD Try.prog 53 #[.pointer (some ⟨n, 0, none⟩), .pointer (some ⟨f, 0, none⟩)] (.panicking ({ v := stopv e p, recovered := false } :: older)) w fun en u' w' =>
      en = .returned (.tuple #[]) ∧ u' = .panicking ({ v := stopv e p, recovered := true } :: older) ∧ w' = ((((w.setCell ⟨n, 0, none⟩ (.int .i64 0)).setCell ⟨f, 0, none⟩ (.int .i64 e)).setCell ⟨f, 1, none⟩ (.int .i64 p)).alloc (.cells #[.int .i64 e, .int .i64 p] 79)).drew := by
  refine callsD_of_wpS Try.func53 rfl fun c₀ cs hu => ?_
  apply wpS_seq
  apply wpS_region
  simp [wpOpsS, go_sem, recoverD, hu, Try.ntmps53, Exit.thenS]
  refine wpS_of_wp ?_
  have ht : (#[Value.pointer (some ⟨n, 0, none⟩), Value.pointer (some ⟨f, 0, none⟩)] ++ ((Array.replicate 15 undef).setIfInBounds 3 (stopv e p)).setIfInBounds 0 (stopv e p)) =
    #[Value.pointer (some ⟨n, 0, none⟩), Value.pointer (some ⟨f, 0, none⟩), stopv e p, undef, undef, stopv e p, undef, undef, undef, undef, undef, undef, undef, undef, undef, undef, undef] := rfl
  rw [ht]; clear ht
  generalize hQ : (fun (e_1 : Exit) (a' : Act) (w' : World) => bodyPostS Try.prog Try.f53 c₀ cs (fun en u' w' => en = Ending.returned (Value.tuple #[]) ∧ u' = FrameMode.panicking ({ v := stopv e p, recovered := true } :: older) ∧ w' = ((((w.setCell ⟨n, 0, none⟩ (.int .i64 0)).setCell ⟨f, 0, none⟩ (.int .i64 e)).setCell ⟨f, 1, none⟩ (.int .i64 p)).alloc (.cells #[.int .i64 e, .int .i64 p] 79)).drew) e_1 a'
        ({ fn := c₀.fn, tmps := c₀.tmps, todo := c₀.todo, defers := c₀.defers, mode := FrameMode.panicking ({ v := stopv e p, recovered := true } :: older), kind := c₀.kind, roundOf := c₀.roundOf } :: cs) w') = Q
  have HQ := Lib.hid hQ; clear hQ hu
  unfold stopv
  have has := assert_stop e p
  go_wp2_with fail
  go_region
  all_goals go_wp2_with fail
  rw [← HQ.out]
  simp [bodyPostS, results, Try.results53]

set_option maxHeartbeats 1000000 in
theorem catch_idle (n f : Nat) (w : World) :
    CallsD Try.prog 53 #[.pointer (some ⟨n, 0, none⟩), .pointer (some ⟨f, 0, none⟩)] .returning w fun en u' w' =>
      en = .returned (.tuple #[]) ∧ u' = .returning ∧ w' = w.alloc (.cells #[.int .i64 0, .int .i64 0] 79) := by
  refine callsD_of_wpS Try.func53 rfl fun c₀ cs hu => ?_
  apply wpS_seq
  apply wpS_region
  simp [wpOpsS, go_sem, recoverD, hu, Try.ntmps53, Exit.thenS]
  refine wpS_of_wp ?_
  have ht : (#[Value.pointer (some ⟨n, 0, none⟩), Value.pointer (some ⟨f, 0, none⟩)] ++ ((Array.replicate 15 undef).setIfInBounds 3 Value.nilIface).setIfInBounds 0 Value.nilIface) =
    #[Value.pointer (some ⟨n, 0, none⟩), Value.pointer (some ⟨f, 0, none⟩), Value.nilIface, undef, undef, Value.nilIface, undef, undef, undef, undef, undef, undef, undef, undef, undef, undef, undef] := rfl
  rw [ht]; clear ht
  generalize hQ : (fun (e_1 : Exit) (a' : Act) (w' : World) => bodyPostS Try.prog Try.f53 c₀ cs (fun en u' w' => en = Ending.returned (Value.tuple #[]) ∧ u' = FrameMode.returning ∧ w' = w.alloc (.cells #[.int .i64 0, .int .i64 0] 79)) e_1 a' (c₀ :: cs) w') = Q
  have HQ := Lib.hid hQ; clear hQ
  have HU := Lib.hid hu; clear hu
  have has := assert_nil
  go_wp2_with fail
  rw [← HQ.out]
  have hu := HU.out
  cases c₀
  simp_all [bodyPostS, results, Try.results53]

end Go.Proofs.Ytdlfmchpaohoaaa
