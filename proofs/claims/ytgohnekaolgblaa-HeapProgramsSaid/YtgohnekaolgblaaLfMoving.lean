/- heap.moving: contract (printed by wip/gen_lofun.py). -/
import Derived.Test.YtgohnekaolgblaaLfBytes
namespace Go.Proofs.Ytgohnekaolgblaa
open Go.RowKit

/-- What the function that moves one thing does. -/
def movingL : List Lo := [
  Px.when (Px.t 114 (Px.t 113 (Px.v 0) (Px.n 1)) (Px.t 73 (Px.v 0) (Px.g 2))) [Px.tell (Px.v 0)],
  Px.set 1 (Px.load (Px.v 0)),
  Px.when (Px.not (Px.t 113 (Px.v 1) (Px.n 1))) [Px.tell (Px.v 1)],
  Px.set 2 (Px.g 1),
  Px.put 1 (Px.add (Px.v 2) (bytesX (Px.v 1))),
  Px.set 3 (Px.v 2),
  Px.set 4 (Px.v 0),
  Px.loop [
    Px.when (Px.t 79 (Px.v 3) (Px.g 1)) [Px.leave],
    Px.store (Px.v 3) (Px.load (Px.v 4)),
    Px.set 3 (Px.add (Px.v 3) (Px.n 4)),
    Px.set 4 (Px.add (Px.v 4) (Px.n 4))],
  Px.store (Px.v 0) (Px.v 2),
  Px.tell (Px.v 2)]

noncomputable def movingTy  : List AV := [
  AV.ptr 0 0,
  AV.ex (Px.v 0),
  AV.ex (Px.n 1),
  AV.ex (Px.t 113 (Px.v 0) (Px.n 1)),
  AV.ex (Px.v 0),
  AV.ex (Px.g 2),
  AV.ex (Px.t 73 (Px.v 0) (Px.g 2)),
  AV.ex (Px.t 114 (Px.t 113 (Px.v 0) (Px.n 1)) (Px.t 73 (Px.v 0) (Px.g 2))),
  AV.ex (Px.v 0),
  AV.lo (Px.tell (Px.v 0)),
  AV.lol [Px.tell (Px.v 0)],
  AV.lo (Px.when (Px.t 114 (Px.t 113 (Px.v 0) (Px.n 1)) (Px.t 73 (Px.v 0) (Px.g 2))) [Px.tell (Px.v 0)]),
  AV.ex (Px.v 0),
  AV.ex (Px.load (Px.v 0)),
  AV.lo (Px.set 1 (Px.load (Px.v 0))),
  AV.ex (Px.v 1),
  AV.ex (Px.n 1),
  AV.ex (Px.t 113 (Px.v 1) (Px.n 1)),
  AV.ex (Px.not (Px.t 113 (Px.v 1) (Px.n 1))),
  AV.ex (Px.v 1),
  AV.lo (Px.tell (Px.v 1)),
  AV.lol [Px.tell (Px.v 1)],
  AV.lo (Px.when (Px.not (Px.t 113 (Px.v 1) (Px.n 1))) [Px.tell (Px.v 1)]),
  AV.ex (Px.g 1),
  AV.lo (Px.set 2 (Px.g 1)),
  AV.ex (Px.v 2),
  AV.ex (Px.v 1),
  AV.ex (bytesX (Px.v 1)),
  AV.ex (Px.add (Px.v 2) (bytesX (Px.v 1))),
  AV.lo (Px.put 1 (Px.add (Px.v 2) (bytesX (Px.v 1)))),
  AV.ex (Px.v 2),
  AV.lo (Px.set 3 (Px.v 2)),
  AV.ex (Px.v 0),
  AV.lo (Px.set 4 (Px.v 0)),
  AV.ex (Px.v 3),
  AV.ex (Px.g 1),
  AV.ex (Px.t 79 (Px.v 3) (Px.g 1)),
  AV.lo Px.leave,
  AV.lol [Px.leave],
  AV.lo (Px.when (Px.t 79 (Px.v 3) (Px.g 1)) [Px.leave]),
  AV.ex (Px.v 3),
  AV.ex (Px.v 4),
  AV.ex (Px.load (Px.v 4)),
  AV.lo (Px.store (Px.v 3) (Px.load (Px.v 4))),
  AV.ex (Px.v 3),
  AV.ex (Px.n 4),
  AV.ex (Px.add (Px.v 3) (Px.n 4)),
  AV.lo (Px.set 3 (Px.add (Px.v 3) (Px.n 4))),
  AV.ex (Px.v 4),
  AV.ex (Px.n 4),
  AV.ex (Px.add (Px.v 4) (Px.n 4)),
  AV.lo (Px.set 4 (Px.add (Px.v 4) (Px.n 4))),
  AV.lol [Px.when (Px.t 79 (Px.v 3) (Px.g 1)) [Px.leave], Px.store (Px.v 3) (Px.load (Px.v 4)), Px.set 3 (Px.add (Px.v 3) (Px.n 4)), Px.set 4 (Px.add (Px.v 4) (Px.n 4))],
  AV.lo (Px.loop [Px.when (Px.t 79 (Px.v 3) (Px.g 1)) [Px.leave], Px.store (Px.v 3) (Px.load (Px.v 4)), Px.set 3 (Px.add (Px.v 3) (Px.n 4)), Px.set 4 (Px.add (Px.v 4) (Px.n 4))]),
  AV.ex (Px.v 0),
  AV.ex (Px.v 2),
  AV.lo (Px.store (Px.v 0) (Px.v 2)),
  AV.ex (Px.v 2),
  AV.lo (Px.tell (Px.v 2)),
  AV.lol [Px.when (Px.t 114 (Px.t 113 (Px.v 0) (Px.n 1)) (Px.t 73 (Px.v 0) (Px.g 2))) [Px.tell (Px.v 0)], Px.set 1 (Px.load (Px.v 0)), Px.when (Px.not (Px.t 113 (Px.v 1) (Px.n 1))) [Px.tell (Px.v 1)], Px.set 2 (Px.g 1), Px.put 1 (Px.add (Px.v 2) (bytesX (Px.v 1))), Px.set 3 (Px.v 2), Px.set 4 (Px.v 0), Px.loop [Px.when (Px.t 79 (Px.v 3) (Px.g 1)) [Px.leave], Px.store (Px.v 3) (Px.load (Px.v 4)), Px.set 3 (Px.add (Px.v 3) (Px.n 4)), Px.set 4 (Px.add (Px.v 4) (Px.n 4))], Px.store (Px.v 0) (Px.v 2), Px.tell (Px.v 2)],
  AV.fn 1 4 [Px.when (Px.t 114 (Px.t 113 (Px.v 0) (Px.n 1)) (Px.t 73 (Px.v 0) (Px.g 2))) [Px.tell (Px.v 0)], Px.set 1 (Px.load (Px.v 0)), Px.when (Px.not (Px.t 113 (Px.v 1) (Px.n 1))) [Px.tell (Px.v 1)], Px.set 2 (Px.g 1), Px.put 1 (Px.add (Px.v 2) (bytesX (Px.v 1))), Px.set 3 (Px.v 2), Px.set 4 (Px.v 0), Px.loop [Px.when (Px.t 79 (Px.v 3) (Px.g 1)) [Px.leave], Px.store (Px.v 3) (Px.load (Px.v 4)), Px.set 3 (Px.add (Px.v 3) (Px.n 4)), Px.set 4 (Px.add (Px.v 4) (Px.n 4))], Px.store (Px.v 0) (Px.v 2), Px.tell (Px.v 2)]]
noncomputable def movingCon  : List AV := [
  AV.fn 1 4 [Px.when (Px.t 114 (Px.t 113 (Px.v 0) (Px.n 1)) (Px.t 73 (Px.v 0) (Px.g 2))) [Px.tell (Px.v 0)], Px.set 1 (Px.load (Px.v 0)), Px.when (Px.not (Px.t 113 (Px.v 1) (Px.n 1))) [Px.tell (Px.v 1)], Px.set 2 (Px.g 1), Px.put 1 (Px.add (Px.v 2) (bytesX (Px.v 1))), Px.set 3 (Px.v 2), Px.set 4 (Px.v 0), Px.loop [Px.when (Px.t 79 (Px.v 3) (Px.g 1)) [Px.leave], Px.store (Px.v 3) (Px.load (Px.v 4)), Px.set 3 (Px.add (Px.v 3) (Px.n 4)), Px.set 4 (Px.add (Px.v 4) (Px.n 4))], Px.store (Px.v 0) (Px.v 2), Px.tell (Px.v 2)]]
noncomputable def movingCx  (S : Nat → Prop) (w : World) : Cx := ⟨Try.prog, fun t => (movingTy ).getD t AV.any, fun x => (movingCon ).getD x AV.any, fun _ => 3, S, w, 61⟩

set_option maxRecDepth 100000 in
set_option maxHeartbeats 4000000 in
theorem loMoving (S : Nat → Prop)  (w : World) (hN : New S w) : Calls Try.prog 55 #[] w fun e w' => ∃ v, e = .returned v ∧ FnAt S w' 1 4 movingL v ∧ Below w.heap.size w w' := by
  go_enter Try.func55, Try.ntmps55
  have hM : ∀ b, (movingCx  S w).w0.heap.size ≤ b → (movingCx  S w).S b := hN
  refine wp_seq (typed_region (c := movingCx  S w) (by kernel_rfl) (by kernel_rfl) [] [] [([], [], [0])] (by kernel_rfl) ⟨st_allocFn (x := 0) rfl rfl (Nat.le_of_ble_eq_true rfl) rfl rfl rfl, trivial⟩ ?start fun a0 w0 h1 => ?rest0)
  case start => exact typed_start rfl rfl rfl fun t ht => absurd ht (by simp)
  simp only [Exit.then]
  replace h1 : Typed (movingCx  S w) (· ∈ ([0] : List Nat)) (· ∈ ([0] : List Nat)) a0 w0 := h1
  refine wp_seq (typed_region (c := movingCx  S w) (by kernel_rfl) (by kernel_rfl) [0] [0] [([], [], []), ([], [], []), ([1, 2], [], []), ([], [], []), ([], [], []), ([4, 5], [], []), ([3, 6], [], []), ([], [], []), ([8], [], []), ([9], [], []), ([7, 10], [], []), ([], [], []), ([12], [], []), ([13], [], []), ([], [], []), ([], [], []), ([15, 16], [], []), ([17], [], []), ([], [], []), ([19], [], []), ([20], [], []), ([18, 21], [], []), ([], [], []), ([23], [], []), ([], [], []), ([], [], []), ([26], [], []), ([25, 27], [], []), ([28], [], []), ([], [], []), ([30], [], []), ([], [], []), ([32], [], []), ([], [], []), ([], [], []), ([34, 35], [], []), ([], [], []), ([37], [], []), ([36, 38], [], []), ([], [], []), ([], [], []), ([41], [], []), ([40, 42], [], []), ([], [], []), ([], [], []), ([44, 45], [], []), ([46], [], []), ([], [], []), ([], [], []), ([48, 49], [], []), ([50], [], []), ([39, 43, 47, 51], [], []), ([52], [], []), ([], [], []), ([], [], []), ([54, 55], [], []), ([], [], []), ([57], [], []), ([11, 14, 22, 24, 29, 31, 33, 53, 56, 58], [], []), ([59], [], []), ([0, 60], [], [1])] (by kernel_rfl) ⟨mk_local rfl hM rfl (Nat.le_of_ble_eq_true rfl) rfl rfl, mk_num rfl hM rfl (Nat.le_of_ble_eq_true rfl) rfl rfl, mk_two rfl hM rfl rfl rfl (Nat.le_of_ble_eq_true rfl) rfl rfl, mk_local rfl hM rfl (Nat.le_of_ble_eq_true rfl) rfl rfl, mk_global rfl hM rfl (Nat.le_of_ble_eq_true rfl) rfl rfl, mk_two rfl hM rfl rfl rfl (Nat.le_of_ble_eq_true rfl) rfl rfl, mk_two rfl hM rfl rfl rfl (Nat.le_of_ble_eq_true rfl) rfl rfl, mk_local rfl hM rfl (Nat.le_of_ble_eq_true rfl) rfl rfl, mk_tell rfl hM rfl rfl (Nat.le_of_ble_eq_true rfl) rfl rfl, st_los1 rfl hM rfl rfl (Nat.le_of_ble_eq_true rfl) rfl rfl, mk_when rfl hM rfl rfl rfl (Nat.le_of_ble_eq_true rfl) rfl rfl, mk_local rfl hM rfl (Nat.le_of_ble_eq_true rfl) rfl rfl, mk_load rfl hM rfl rfl (Nat.le_of_ble_eq_true rfl) rfl rfl, mk_set rfl hM rfl rfl (Nat.le_of_ble_eq_true rfl) rfl rfl, mk_local rfl hM rfl (Nat.le_of_ble_eq_true rfl) rfl rfl, mk_num rfl hM rfl (Nat.le_of_ble_eq_true rfl) rfl rfl, mk_two rfl hM rfl rfl rfl (Nat.le_of_ble_eq_true rfl) rfl rfl, mk_not rfl hM rfl rfl (Nat.le_of_ble_eq_true rfl) rfl rfl, mk_local rfl hM rfl (Nat.le_of_ble_eq_true rfl) rfl rfl, mk_tell rfl hM rfl rfl (Nat.le_of_ble_eq_true rfl) rfl rfl, st_los1 rfl hM rfl rfl (Nat.le_of_ble_eq_true rfl) rfl rfl, mk_when rfl hM rfl rfl rfl (Nat.le_of_ble_eq_true rfl) rfl rfl, mk_global rfl hM rfl (Nat.le_of_ble_eq_true rfl) rfl rfl, mk_set rfl hM rfl rfl (Nat.le_of_ble_eq_true rfl) rfl rfl, mk_local rfl hM rfl (Nat.le_of_ble_eq_true rfl) rfl rfl, mk_local rfl hM rfl (Nat.le_of_ble_eq_true rfl) rfl rfl, mk_bytes rfl hM rfl rfl (Nat.le_of_ble_eq_true rfl) rfl rfl, mk_add rfl hM rfl rfl rfl (Nat.le_of_ble_eq_true rfl) rfl rfl, mk_put rfl hM rfl rfl (Nat.le_of_ble_eq_true rfl) rfl rfl, mk_local rfl hM rfl (Nat.le_of_ble_eq_true rfl) rfl rfl, mk_set rfl hM rfl rfl (Nat.le_of_ble_eq_true rfl) rfl rfl, mk_local rfl hM rfl (Nat.le_of_ble_eq_true rfl) rfl rfl, mk_set rfl hM rfl rfl (Nat.le_of_ble_eq_true rfl) rfl rfl, mk_local rfl hM rfl (Nat.le_of_ble_eq_true rfl) rfl rfl, mk_global rfl hM rfl (Nat.le_of_ble_eq_true rfl) rfl rfl, mk_two rfl hM rfl rfl rfl (Nat.le_of_ble_eq_true rfl) rfl rfl, mk_leave rfl hM rfl (Nat.le_of_ble_eq_true rfl) rfl rfl, st_los1 rfl hM rfl rfl (Nat.le_of_ble_eq_true rfl) rfl rfl, mk_when rfl hM rfl rfl rfl (Nat.le_of_ble_eq_true rfl) rfl rfl, mk_local rfl hM rfl (Nat.le_of_ble_eq_true rfl) rfl rfl, mk_local rfl hM rfl (Nat.le_of_ble_eq_true rfl) rfl rfl, mk_load rfl hM rfl rfl (Nat.le_of_ble_eq_true rfl) rfl rfl, mk_store rfl hM rfl rfl rfl (Nat.le_of_ble_eq_true rfl) rfl rfl, mk_local rfl hM rfl (Nat.le_of_ble_eq_true rfl) rfl rfl, mk_num rfl hM rfl (Nat.le_of_ble_eq_true rfl) rfl rfl, mk_add rfl hM rfl rfl rfl (Nat.le_of_ble_eq_true rfl) rfl rfl, mk_set rfl hM rfl rfl (Nat.le_of_ble_eq_true rfl) rfl rfl, mk_local rfl hM rfl (Nat.le_of_ble_eq_true rfl) rfl rfl, mk_num rfl hM rfl (Nat.le_of_ble_eq_true rfl) rfl rfl, mk_add rfl hM rfl rfl rfl (Nat.le_of_ble_eq_true rfl) rfl rfl, mk_set rfl hM rfl rfl (Nat.le_of_ble_eq_true rfl) rfl rfl, st_los4 rfl hM rfl rfl rfl rfl rfl (Nat.le_of_ble_eq_true rfl) rfl rfl, mk_loop rfl hM rfl rfl (Nat.le_of_ble_eq_true rfl) rfl rfl, mk_local rfl hM rfl (Nat.le_of_ble_eq_true rfl) rfl rfl, mk_local rfl hM rfl (Nat.le_of_ble_eq_true rfl) rfl rfl, mk_store rfl hM rfl rfl rfl (Nat.le_of_ble_eq_true rfl) rfl rfl, mk_local rfl hM rfl (Nat.le_of_ble_eq_true rfl) rfl rfl, mk_tell rfl hM rfl rfl (Nat.le_of_ble_eq_true rfl) rfl rfl, st_los10 rfl hM rfl rfl rfl rfl rfl rfl rfl rfl rfl rfl rfl (Nat.le_of_ble_eq_true rfl) rfl rfl, st_buildFn rfl rfl rfl (Nat.le_of_ble_eq_true rfl) rfl rfl, st_storeFn (x := 0) rfl rfl rfl rfl rfl rfl (fn_agg3 _ _ _), trivial⟩ h1 fun a1 w1 h2 => ?rest1)
  replace h2 : Typed (movingCx  S w) (· ∈ ([0, 1, 2, 3, 4, 5, 6, 7, 8, 9, 10, 11, 12, 13, 14, 15, 16, 17, 18, 19, 20, 21, 22, 23, 24, 25, 26, 27, 28, 29, 30, 31, 32, 33, 34, 35, 36, 37, 38, 39, 40, 41, 42, 43, 44, 45, 46, 47, 48, 49, 50, 51, 52, 53, 54, 55, 56, 57, 58, 59, 60] : List Nat)) (· ∈ ([0, 1] : List Nat)) a1 w1 := h2
  obtain ⟨F, V, g, u0, u1, u2, e, c0, c1, c2, hv, hF, hb, hd, hp⟩ := typed_end3 h2 (p := 0) (x := 0) rfl (by decide) (by decide) rfl
  clear h2
  have he : a1.tmps[0]? = some (.pointer (some ⟨g, 0, none⟩)) := by rw [Array.getElem?_eq_getElem hp]; simpa [Array.getD, hp] using e
  refine wp_ret (bodyPost_ret (v := .agg #[u0, u1, u2]) (by simp [results, Try.results55, go_sem, he, c0, c1, c2]) hd ⟨_, rfl, ?_, hb⟩)
  exact (let ⟨u, e, k⟩ := hv; ⟨u, e, LoL.mono k fun b _ h => hF b h⟩)


end Go.Proofs.Ytgohnekaolgblaa
