/- heap.moving: contract (printed by wip/gen_lofun.py). -/
import Derived.Test.YtgohnekaolgblaaGreatQ07
namespace Go.Proofs.YtgohnekaolgblaaGreat
open Go.RowKit

/-- What the function that moves one thing does. -/
def movingL : List Lo := [
  Px.when (Px.t 114 (Px.t 113 (Px.v 0) (Px.n 1)) (Px.t 73 (Px.v 0) (Px.g 2))) [Px.tell (Px.v 0)],
  Px.set 1 (Px.load (Px.v 0)),
  Px.when (Px.not (Px.t 113 (Px.v 1) (Px.n 1))) [Px.tell (Px.v 1)],
  Px.set 2 (Px.g 1),
  Px.put 1 (Px.add (Px.v 2) (bytesX (Px.v 1))),
  Px.set 3 (Px.v 2),
  Px.set 4 (Px.v 0),
  Px.loop [
    Px.when (Px.t 79 (Px.v 3) (Px.g 1)) [Px.leave],
    Px.store (Px.v 3) (Px.load (Px.v 4)),
    Px.set 3 (Px.add (Px.v 3) (Px.n 4)),
    Px.set 4 (Px.add (Px.v 4) (Px.n 4))],
  Px.store (Px.v 0) (Px.v 2),
  Px.tell (Px.v 2)]

noncomputable def movingTy  : List AV := [
  AV.ptr 0 0,
  AV.ex (Px.v 0),
  AV.ex (Px.n 1),
  AV.ex (Px.t 113 (Px.v 0) (Px.n 1)),
  AV.ex (Px.v 0),
  AV.ex (Px.g 2),
  AV.ex (Px.t 73 (Px.v 0) (Px.g 2)),
  AV.ex (Px.t 114 (Px.t 113 (Px.v 0) (Px.n 1)) (Px.t 73 (Px.v 0) (Px.g 2))),
  AV.ex (Px.v 0),
  AV.lo (Px.tell (Px.v 0)),
  AV.lol [Px.tell (Px.v 0)],
  AV.lo (Px.when (Px.t 114 (Px.t 113 (Px.v 0) (Px.n 1)) (Px.t 73 (Px.v 0) (Px.g 2))) [Px.tell (Px.v 0)]),
  AV.ex (Px.v 0),
  AV.ex (Px.load (Px.v 0)),
  AV.lo (Px.set 1 (Px.load (Px.v 0))),
  AV.ex (Px.v 1),
  AV.ex (Px.n 1),
  AV.ex (Px.t 113 (Px.v 1) (Px.n 1)),
  AV.ex (Px.not (Px.t 113 (Px.v 1) (Px.n 1))),
  AV.ex (Px.v 1),
  AV.lo (Px.tell (Px.v 1)),
  AV.lol [Px.tell (Px.v 1)],
  AV.lo (Px.when (Px.not (Px.t 113 (Px.v 1) (Px.n 1))) [Px.tell (Px.v 1)]),
  AV.ex (Px.g 1),
  AV.lo (Px.set 2 (Px.g 1)),
  AV.ex (Px.v 2),
  AV.ex (Px.v 1),
  AV.ex (bytesX (Px.v 1)),
  AV.ex (Px.add (Px.v 2) (bytesX (Px.v 1))),
  AV.lo (Px.put 1 (Px.add (Px.v 2) (bytesX (Px.v 1)))),
  AV.ex (Px.v 2),
  AV.lo (Px.set 3 (Px.v 2)),
  AV.ex (Px.v 0),
  AV.lo (Px.set 4 (Px.v 0)),
  AV.ex (Px.v 3),
  AV.ex (Px.g 1),
  AV.ex (Px.t 79 (Px.v 3) (Px.g 1)),
  AV.lo Px.leave,
  AV.lol [Px.leave],
  AV.lo (Px.when (Px.t 79 (Px.v 3) (Px.g 1)) [Px.leave]),
  AV.ex (Px.v 3),
  AV.ex (Px.v 4),
  AV.ex (Px.load (Px.v 4)),
  AV.lo (Px.store (Px.v 3) (Px.load (Px.v 4))),
  AV.ex (Px.v 3),
  AV.ex (Px.n 4),
  AV.ex (Px.add (Px.v 3) (Px.n 4)),
  AV.lo (Px.set 3 (Px.add (Px.v 3) (Px.n 4))),
  AV.ex (Px.v 4),
  AV.ex (Px.n 4),
  AV.ex (Px.add (Px.v 4) (Px.n 4)),
  AV.lo (Px.set 4 (Px.add (Px.v 4) (Px.n 4))),
  AV.lol [Px.when (Px.t 79 (Px.v 3) (Px.g 1)) [Px.leave], Px.store (Px.v 3) (Px.load (Px.v 4)), Px.set 3 (Px.add (Px.v 3) (Px.n 4)), Px.set 4 (Px.add (Px.v 4) (Px.n 4))],
  AV.lo (Px.loop [Px.when (Px.t 79 (Px.v 3) (Px.g 1)) [Px.leave], Px.store (Px.v 3) (Px.load (Px.v 4)), Px.set 3 (Px.add (Px.v 3) (Px.n 4)), Px.set 4 (Px.add (Px.v 4) (Px.n 4))]),
  AV.ex (Px.v 0),
  AV.ex (Px.v 2),
  AV.lo (Px.store (Px.v 0) (Px.v 2)),
  AV.ex (Px.v 2),
  AV.lo (Px.tell (Px.v 2)),
  AV.lol [Px.when (Px.t 114 (Px.t 113 (Px.v 0) (Px.n 1)) (Px.t 73 (Px.v 0) (Px.g 2))) [Px.tell (Px.v 0)], Px.set 1 (Px.load (Px.v 0)), Px.when (Px.not (Px.t 113 (Px.v 1) (Px.n 1))) [Px.tell (Px.v 1)], Px.set 2 (Px.g 1), Px.put 1 (Px.add (Px.v 2) (bytesX (Px.v 1))), Px.set 3 (Px.v 2), Px.set 4 (Px.v 0), Px.loop [Px.when (Px.t 79 (Px.v 3) (Px.g 1)) [Px.leave], Px.store (Px.v 3) (Px.load (Px.v 4)), Px.set 3 (Px.add (Px.v 3) (Px.n 4)), Px.set 4 (Px.add (Px.v 4) (Px.n 4))], Px.store (Px.v 0) (Px.v 2), Px.tell (Px.v 2)],
  AV.fn 1 4 [Px.when (Px.t 114 (Px.t 113 (Px.v 0) (Px.n 1)) (Px.t 73 (Px.v 0) (Px.g 2))) [Px.tell (Px.v 0)], Px.set 1 (Px.load (Px.v 0)), Px.when (Px.not (Px.t 113 (Px.v 1) (Px.n 1))) [Px.tell (Px.v 1)], Px.set 2 (Px.g 1), Px.put 1 (Px.add (Px.v 2) (bytesX (Px.v 1))), Px.set 3 (Px.v 2), Px.set 4 (Px.v 0), Px.loop [Px.when (Px.t 79 (Px.v 3) (Px.g 1)) [Px.leave], Px.store (Px.v 3) (Px.load (Px.v 4)), Px.set 3 (Px.add (Px.v 3) (Px.n 4)), Px.set 4 (Px.add (Px.v 4) (Px.n 4))], Px.store (Px.v 0) (Px.v 2), Px.tell (Px.v 2)]]
noncomputable def movingCon  : List AV := [
  AV.fn 1 4 [Px.when (Px.t 114 (Px.t 113 (Px.v 0) (Px.n 1)) (Px.t 73 (Px.v 0) (Px.g 2))) [Px.tell (Px.v 0)], Px.set 1 (Px.load (Px.v 0)), Px.when (Px.not (Px.t 113 (Px.v 1) (Px.n 1))) [Px.tell (Px.v 1)], Px.set 2 (Px.g 1), Px.put 1 (Px.add (Px.v 2) (bytesX (Px.v 1))), Px.set 3 (Px.v 2), Px.set 4 (Px.v 0), Px.loop [Px.when (Px.t 79 (Px.v 3) (Px.g 1)) [Px.leave], Px.store (Px.v 3) (Px.load (Px.v 4)), Px.set 3 (Px.add (Px.v 3) (Px.n 4)), Px.set 4 (Px.add (Px.v 4) (Px.n 4))], Px.store (Px.v 0) (Px.v 2), Px.tell (Px.v 2)]]
noncomputable def movingCx  (S : Nat → Prop) (w : World) : Cx := ⟨Tryz.prog, fun t => (movingTy ).getD t AV.any, fun x => (movingCon ).getD x AV.any, fun _ => 3, S, w, 61⟩

set_option maxRecDepth 100000 in
set_option maxHeartbeats 4000000 in
theorem loMoving (S : Nat → Prop)  (w : World) (hN : New S w) : Calls Tryz.prog 41 #[] w fun e w' => ∃ v, e = .returned v ∧ FnAt S w' 1 4 movingL v ∧ Below w.heap.size w w' := by
  go_enter Tryz.func41, Tryz.ntmps41
  have hM : ∀ b, (movingCx  S w).w0.heap.size ≤ b → (movingCx  S w).S b := hN
  refine wp_seq (typed_region (c := movingCx  S w) (by kernel_rfl) (by kernel_rfl) [] [] [([], [], [0])] (by kernel_rfl) ⟨st_allocFn (x := 0) rfl rfl (Nat.le_of_ble_eq_true rfl) rfl rfl rfl, trivial⟩ ?start fun a0 w0 h1 => ?rest0)
  case start => exact typed_start rfl rfl rfl fun t ht => absurd ht (by simp)
  simp only [Exit.then]
  replace h1 : Typed (movingCx  S w) (· ∈ ([0] : List Nat)) (· ∈ ([0] : List Nat)) a0 w0 := h1
  refine wp_seq (typed_region (c := movingCx  S w) (by kernel_rfl) (by kernel_rfl) [0] [0] [([], [], []), ([], [], []), ([1, 2], [], []), ([], [], []), ([], [], []), ([4, 5], [], []), ([3, 6], [], []), ([], [], []), ([8], [], []), ([9], [], []), ([7, 10], [], []), ([], [], []), ([12], [], []), ([13], [], []), ([], [], []), ([], [], []), ([15, 16], [], []), ([17], [], []), ([], [], []), ([19], [], []), ([20], [], []), ([18, 21], [], []), ([], [], []), ([23], [], []), ([], [], []), ([], [], []), ([26], [], []), ([25, 27], [], []), ([28], [], []), ([], [], []), ([30], [], []), ([], [], []), ([32], [], []), ([], [], []), ([], [], []), ([34, 35], [], []), ([], [], []), ([37], [], []), ([36, 38], [], []), ([], [], []), ([], [], []), ([41], [], []), ([40, 42], [], []), ([], [], []), ([], [], []), ([44, 45], [], []), ([46], [], []), ([], [], []), ([], [], []), ([48, 49], [], []), ([50], [], []), ([39, 43, 47, 51], [], []), ([52], [], []), ([], [], []), ([], [], []), ([54, 55], [], []), ([], [], []), ([57], [], []), ([11, 14, 22, 24, 29, 31, 33, 53, 56, 58], [], []), ([59], [], []), ([0, 60], [], [1])] (by kernel_rfl) ⟨mk_local rfl hM rfl (Nat.le_of_ble_eq_true rfl) rfl rfl, mk_num rfl hM rfl (Nat.le_of_ble_eq_true rfl) rfl rfl, mk_two rfl hM rfl rfl rfl (Nat.le_of_ble_eq_true rfl) rfl rfl, mk_local rfl hM rfl (Nat.le_of_ble_eq_true rfl) rfl rfl, mk_global rfl hM rfl (Nat.le_of_ble_eq_true rfl) rfl rfl, mk_two rfl hM rfl rfl rfl (Nat.le_of_ble_eq_true rfl) rfl rfl, mk_two rfl hM rfl rfl rfl (Nat.le_of_ble_eq_true rfl) rfl rfl, mk_local rfl hM rfl (Nat.le_of_ble_eq_true rfl) rfl rfl, mk_tell rfl hM rfl rfl (Nat.le_of_ble_eq_true rfl) rfl rfl, st_los1 rfl hM rfl rfl (Nat.le_of_ble_eq_true rfl) rfl rfl, mk_when rfl hM rfl rfl rfl (Nat.le_of_ble_eq_true rfl) rfl rfl, mk_local rfl hM rfl (Nat.le_of_ble_eq_true rfl) rfl rfl, mk_load rfl hM rfl rfl (Nat.le_of_ble_eq_true rfl) rfl rfl, mk_set rfl hM rfl rfl (Nat.le_of_ble_eq_true rfl) rfl rfl, mk_local rfl hM rfl (Nat.le_of_ble_eq_true rfl) rfl rfl, mk_num rfl hM rfl (Nat.le_of_ble_eq_true rfl) rfl rfl, mk_two rfl hM rfl rfl rfl (Nat.le_of_ble_eq_true rfl) rfl rfl, mk_not rfl hM rfl rfl (Nat.le_of_ble_eq_true rfl) rfl rfl, mk_local rfl hM rfl (Nat.le_of_ble_eq_true rfl) rfl rfl, mk_tell rfl hM rfl rfl (Nat.le_of_ble_eq_true rfl) rfl rfl, st_los1 rfl hM rfl rfl (Nat.le_of_ble_eq_true rfl) rfl rfl, mk_when rfl hM rfl rfl rfl (Nat.le_of_ble_eq_true rfl) rfl rfl, mk_global rfl hM rfl (Nat.le_of_ble_eq_true rfl) rfl rfl, mk_set rfl hM rfl rfl (Nat.le_of_ble_eq_true rfl) rfl rfl, mk_local rfl hM rfl (Nat.le_of_ble_eq_true rfl) rfl rfl, mk_local rfl hM rfl (Nat.le_of_ble_eq_true rfl) rfl rfl, mk_bytes rfl hM rfl rfl (Nat.le_of_ble_eq_true rfl) rfl rfl, mk_add rfl hM rfl rfl rfl (Nat.le_of_ble_eq_true rfl) rfl rfl, mk_put rfl hM rfl rfl (Nat.le_of_ble_eq_true rfl) rfl rfl, mk_local rfl hM rfl (Nat.le_of_ble_eq_true rfl) rfl rfl, mk_set rfl hM rfl rfl (Nat.le_of_ble_eq_true rfl) rfl rfl, mk_local rfl hM rfl (Nat.le_of_ble_eq_true rfl) rfl rfl, mk_set rfl hM rfl rfl (Nat.le_of_ble_eq_true rfl) rfl rfl, mk_local rfl hM rfl (Nat.le_of_ble_eq_true rfl) rfl rfl, mk_global rfl hM rfl (Nat.le_of_ble_eq_true rfl) rfl rfl, mk_two rfl hM rfl rfl rfl (Nat.le_of_ble_eq_true rfl) rfl rfl, mk_leave rfl hM rfl (Nat.le_of_ble_eq_true rfl) rfl rfl, st_los1 rfl hM rfl rfl (Nat.le_of_ble_eq_true rfl) rfl rfl, mk_when rfl hM rfl rfl rfl (Nat.le_of_ble_eq_true rfl) rfl rfl, mk_local rfl hM rfl (Nat.le_of_ble_eq_true rfl) rfl rfl, mk_local rfl hM rfl (Nat.le_of_ble_eq_true rfl) rfl rfl, mk_load rfl hM rfl rfl (Nat.le_of_ble_eq_true rfl) rfl rfl, mk_store rfl hM rfl rfl rfl (Nat.le_of_ble_eq_true rfl) rfl rfl, mk_local rfl hM rfl (Nat.le_of_ble_eq_true rfl) rfl rfl, mk_num rfl hM rfl (Nat.le_of_ble_eq_true rfl) rfl rfl, mk_add rfl hM rfl rfl rfl (Nat.le_of_ble_eq_true rfl) rfl rfl, mk_set rfl hM rfl rfl (Nat.le_of_ble_eq_true rfl) rfl rfl, mk_local rfl hM rfl (Nat.le_of_ble_eq_true rfl) rfl rfl, mk_num rfl hM rfl (Nat.le_of_ble_eq_true rfl) rfl rfl, mk_add rfl hM rfl rfl rfl (Nat.le_of_ble_eq_true rfl) rfl rfl, mk_set rfl hM rfl rfl (Nat.le_of_ble_eq_true rfl) rfl rfl, st_los4 rfl hM rfl rfl rfl rfl rfl (Nat.le_of_ble_eq_true rfl) rfl rfl, mk_loop rfl hM rfl rfl (Nat.le_of_ble_eq_true rfl) rfl rfl, mk_local rfl hM rfl (Nat.le_of_ble_eq_true rfl) rfl rfl, mk_local rfl hM rfl (Nat.le_of_ble_eq_true rfl) rfl rfl, mk_store rfl hM rfl rfl rfl (Nat.le_of_ble_eq_true rfl) rfl rfl, mk_local rfl hM rfl (Nat.le_of_ble_eq_true rfl) rfl rfl, mk_tell rfl hM rfl rfl (Nat.le_of_ble_eq_true rfl) rfl rfl, st_los10 rfl hM rfl rfl rfl rfl rfl rfl rfl rfl rfl rfl rfl (Nat.le_of_ble_eq_true rfl) rfl rfl, st_buildFn rfl rfl rfl (Nat.le_of_ble_eq_true rfl) rfl rfl, st_storeFn (x := 0) rfl rfl rfl rfl rfl rfl (fn_agg3 _ _ _), trivial⟩ h1 fun a1 w1 h2 => ?rest1)
  replace h2 : Typed (movingCx  S w) (· ∈ ([0, 1, 2, 3, 4, 5, 6, 7, 8, 9, 10, 11, 12, 13, 14, 15, 16, 17, 18, 19, 20, 21, 22, 23, 24, 25, 26, 27, 28, 29, 30, 31, 32, 33, 34, 35, 36, 37, 38, 39, 40, 41, 42, 43, 44, 45, 46, 47, 48, 49, 50, 51, 52, 53, 54, 55, 56, 57, 58, 59, 60] : List Nat)) (· ∈ ([0, 1] : List Nat)) a1 w1 := h2
  obtain ⟨F, V, g, u0, u1, u2, e, c0, c1, c2, hv, hF, hb, hd, hp⟩ := typed_end3 h2 (p := 0) (x := 0) rfl (by decide) (by decide) rfl
  clear h2
  have he : a1.tmps[0]? = some (.pointer (some ⟨g, 0, none⟩)) := by rw [Array.getElem?_eq_getElem hp]; simpa [Array.getD, hp] using e
  refine wp_ret (bodyPost_ret (v := .agg #[u0, u1, u2]) (by simp [results, Tryz.results41, go_sem, he, c0, c1, c2]) hd ⟨_, rfl, ?_, hb⟩)
  exact (let ⟨u, e, k⟩ := hv; ⟨u, e, LoL.mono k fun b _ h => hF b h⟩)


end Go.Proofs.YtgohnekaolgblaaGreat

/- heap.taker: contract (printed by wip/gen_lofun.py). -/
namespace Go.Proofs.YtgohnekaolgblaaGreat
open Go.RowKit

/-- What the function that tells where free words are does. -/
def fewX : Ex := Px.t 73 (Px.t 118 (Px.t 107 (Px.g 3) (Px.g 1)) (Px.n 2)) (Px.v 0)
def takerL : List Lo := [
  Px.when fewX [Px.call 1 1 [], Px.when fewX [Px.tell (Px.n 0)]],
  Px.set 1 (Px.g 1),
  Px.put 1 (Px.add (Px.v 1) (Px.t 116 (Px.v 0) (Px.n 2))),
  Px.tell (Px.v 1)]

noncomputable def takerTy  : List AV := [
  AV.ptr 0 0,
  AV.ptr 1 0,
  AV.ex (Px.g 3),
  AV.ex (Px.g 1),
  AV.ex (Px.t 107 (Px.g 3) (Px.g 1)),
  AV.ex (Px.n 2),
  AV.ex (Px.t 118 (Px.t 107 (Px.g 3) (Px.g 1)) (Px.n 2)),
  AV.ex (Px.v 0),
  AV.ex (Px.t 73 (Px.t 118 (Px.t 107 (Px.g 3) (Px.g 1)) (Px.n 2)) (Px.v 0)),
  AV.ex (Px.t 73 (Px.t 118 (Px.t 107 (Px.g 3) (Px.g 1)) (Px.n 2)) (Px.v 0)),
  AV.lo (Px.call 1 1 []),
  AV.ex (Px.t 73 (Px.t 118 (Px.t 107 (Px.g 3) (Px.g 1)) (Px.n 2)) (Px.v 0)),
  AV.ex (Px.n 0),
  AV.lo (Px.tell (Px.n 0)),
  AV.lol [Px.tell (Px.n 0)],
  AV.lo (Px.when (Px.t 73 (Px.t 118 (Px.t 107 (Px.g 3) (Px.g 1)) (Px.n 2)) (Px.v 0)) [Px.tell (Px.n 0)]),
  AV.lol [Px.call 1 1 [], Px.when (Px.t 73 (Px.t 118 (Px.t 107 (Px.g 3) (Px.g 1)) (Px.n 2)) (Px.v 0)) [Px.tell (Px.n 0)]],
  AV.lo (Px.when (Px.t 73 (Px.t 118 (Px.t 107 (Px.g 3) (Px.g 1)) (Px.n 2)) (Px.v 0)) [Px.call 1 1 [], Px.when (Px.t 73 (Px.t 118 (Px.t 107 (Px.g 3) (Px.g 1)) (Px.n 2)) (Px.v 0)) [Px.tell (Px.n 0)]]),
  AV.ex (Px.g 1),
  AV.lo (Px.set 1 (Px.g 1)),
  AV.ex (Px.v 1),
  AV.ex (Px.v 0),
  AV.ex (Px.n 2),
  AV.ex (Px.t 116 (Px.v 0) (Px.n 2)),
  AV.ex (Px.add (Px.v 1) (Px.t 116 (Px.v 0) (Px.n 2))),
  AV.lo (Px.put 1 (Px.add (Px.v 1) (Px.t 116 (Px.v 0) (Px.n 2)))),
  AV.ex (Px.v 1),
  AV.lo (Px.tell (Px.v 1)),
  AV.lol [Px.when (Px.t 73 (Px.t 118 (Px.t 107 (Px.g 3) (Px.g 1)) (Px.n 2)) (Px.v 0)) [Px.call 1 1 [], Px.when (Px.t 73 (Px.t 118 (Px.t 107 (Px.g 3) (Px.g 1)) (Px.n 2)) (Px.v 0)) [Px.tell (Px.n 0)]], Px.set 1 (Px.g 1), Px.put 1 (Px.add (Px.v 1) (Px.t 116 (Px.v 0) (Px.n 2))), Px.tell (Px.v 1)],
  AV.fn 1 1 [Px.when (Px.t 73 (Px.t 118 (Px.t 107 (Px.g 3) (Px.g 1)) (Px.n 2)) (Px.v 0)) [Px.call 1 1 [], Px.when (Px.t 73 (Px.t 118 (Px.t 107 (Px.g 3) (Px.g 1)) (Px.n 2)) (Px.v 0)) [Px.tell (Px.n 0)]], Px.set 1 (Px.g 1), Px.put 1 (Px.add (Px.v 1) (Px.t 116 (Px.v 0) (Px.n 2))), Px.tell (Px.v 1)]]
noncomputable def takerCon  : List AV := [
  AV.fn 1 1 [Px.when (Px.t 73 (Px.t 118 (Px.t 107 (Px.g 3) (Px.g 1)) (Px.n 2)) (Px.v 0)) [Px.call 1 1 [], Px.when (Px.t 73 (Px.t 118 (Px.t 107 (Px.g 3) (Px.g 1)) (Px.n 2)) (Px.v 0)) [Px.tell (Px.n 0)]], Px.set 1 (Px.g 1), Px.put 1 (Px.add (Px.v 1) (Px.t 116 (Px.v 0) (Px.n 2))), Px.tell (Px.v 1)],
  AV.ex (Px.t 73 (Px.t 118 (Px.t 107 (Px.g 3) (Px.g 1)) (Px.n 2)) (Px.v 0))]
noncomputable def takerCx  (S : Nat → Prop) (w : World) : Cx := ⟨Tryz.prog, fun t => (takerTy ).getD t AV.any, fun x => (takerCon ).getD x AV.any, fun _ => 3, S, w, 30⟩

set_option maxRecDepth 100000 in
set_option maxHeartbeats 4000000 in
theorem loTaker (S : Nat → Prop)  (w : World) (hN : New S w) : Calls Tryz.prog 40 #[] w fun e w' => ∃ v, e = .returned v ∧ FnAt S w' 1 1 takerL v ∧ Below w.heap.size w w' := by
  go_enter Tryz.func40, Tryz.ntmps40
  have hM : ∀ b, (takerCx  S w).w0.heap.size ≤ b → (takerCx  S w).S b := hN
  refine wp_seq (typed_region (c := takerCx  S w) (by kernel_rfl) (by kernel_rfl) [] [] [([], [], [0])] (by kernel_rfl) ⟨st_allocFn (x := 0) rfl rfl (Nat.le_of_ble_eq_true rfl) rfl rfl rfl, trivial⟩ ?start fun a0 w0 h1 => ?rest0)
  case start => exact typed_start rfl rfl rfl fun t ht => absurd ht (by simp)
  simp only [Exit.then]
  replace h1 : Typed (takerCx  S w) (· ∈ ([0] : List Nat)) (· ∈ ([0] : List Nat)) a0 w0 := h1
  refine wp_seq (typed_region (c := takerCx  S w) (by kernel_rfl) (by kernel_rfl) [0] [0] [([], [], []), ([], [], []), ([2, 3], [], []), ([], [], []), ([4, 5], [], []), ([], [], []), ([6, 7], [], []), ([], [], [2]), ([1, 8], [], [3])] (by kernel_rfl) ⟨mk_global rfl hM rfl (Nat.le_of_ble_eq_true rfl) rfl rfl, mk_global rfl hM rfl (Nat.le_of_ble_eq_true rfl) rfl rfl, mk_two rfl hM rfl rfl rfl (Nat.le_of_ble_eq_true rfl) rfl rfl, mk_num rfl hM rfl (Nat.le_of_ble_eq_true rfl) rfl rfl, mk_two rfl hM rfl rfl rfl (Nat.le_of_ble_eq_true rfl) rfl rfl, mk_local rfl hM rfl (Nat.le_of_ble_eq_true rfl) rfl rfl, mk_two rfl hM rfl rfl rfl (Nat.le_of_ble_eq_true rfl) rfl rfl, st_allocEx (x := 1) rfl rfl (Nat.le_of_ble_eq_true rfl) rfl rfl rfl, st_storeEx (x := 1) rfl rfl rfl rfl rfl rfl (ex_agg3 _), trivial⟩ h1 fun a1 w1 h2 => ?rest1)
  simp only [Exit.then]
  replace h2 : Typed (takerCx  S w) (· ∈ ([0, 2, 3, 4, 5, 6, 7, 8, 1] : List Nat)) (· ∈ ([0, 2, 3] : List Nat)) a1 w1 := h2
  refine wp_seq (typed_region (c := takerCx  S w) (by kernel_rfl) (by kernel_rfl) [0, 2, 3, 4, 5, 6, 7, 8, 1] [0, 2, 3] [([1], [3], []), ([], [], []), ([1], [3], []), ([], [], []), ([12], [], []), ([13], [], []), ([11, 14], [], []), ([10, 15], [], []), ([9, 16], [], []), ([], [], []), ([18], [], []), ([], [], []), ([], [], []), ([], [], []), ([21, 22], [], []), ([20, 23], [], []), ([24], [], []), ([], [], []), ([26], [], []), ([17, 19, 25, 27], [], []), ([28], [], []), ([0, 29], [], [1])] (by kernel_rfl) ⟨st_loadEx (x := 1) rfl rfl rfl (Nat.le_of_ble_eq_true rfl) rfl rfl rfl, mk_callN rfl hM rfl (Nat.le_of_ble_eq_true rfl) rfl rfl, st_loadEx (x := 1) rfl rfl rfl (Nat.le_of_ble_eq_true rfl) rfl rfl rfl, mk_num rfl hM rfl (Nat.le_of_ble_eq_true rfl) rfl rfl, mk_tell rfl hM rfl rfl (Nat.le_of_ble_eq_true rfl) rfl rfl, st_los1 rfl hM rfl rfl (Nat.le_of_ble_eq_true rfl) rfl rfl, mk_when rfl hM rfl rfl rfl (Nat.le_of_ble_eq_true rfl) rfl rfl, st_los2 rfl hM rfl rfl rfl (Nat.le_of_ble_eq_true rfl) rfl rfl, mk_when rfl hM rfl rfl rfl (Nat.le_of_ble_eq_true rfl) rfl rfl, mk_global rfl hM rfl (Nat.le_of_ble_eq_true rfl) rfl rfl, mk_set rfl hM rfl rfl (Nat.le_of_ble_eq_true rfl) rfl rfl, mk_local rfl hM rfl (Nat.le_of_ble_eq_true rfl) rfl rfl, mk_local rfl hM rfl (Nat.le_of_ble_eq_true rfl) rfl rfl, mk_num rfl hM rfl (Nat.le_of_ble_eq_true rfl) rfl rfl, mk_two rfl hM rfl rfl rfl (Nat.le_of_ble_eq_true rfl) rfl rfl, mk_add rfl hM rfl rfl rfl (Nat.le_of_ble_eq_true rfl) rfl rfl, mk_put rfl hM rfl rfl (Nat.le_of_ble_eq_true rfl) rfl rfl, mk_local rfl hM rfl (Nat.le_of_ble_eq_true rfl) rfl rfl, mk_tell rfl hM rfl rfl (Nat.le_of_ble_eq_true rfl) rfl rfl, st_los4 rfl hM rfl rfl rfl rfl rfl (Nat.le_of_ble_eq_true rfl) rfl rfl, st_buildFn rfl rfl rfl (Nat.le_of_ble_eq_true rfl) rfl rfl, st_storeFn (x := 0) rfl rfl rfl rfl rfl rfl (fn_agg3 _ _ _), trivial⟩ h2 fun a2 w2 h3 => ?rest2)
  replace h3 : Typed (takerCx  S w) (· ∈ ([0, 2, 3, 4, 5, 6, 7, 8, 1, 9, 10, 11, 12, 13, 14, 15, 16, 17, 18, 19, 20, 21, 22, 23, 24, 25, 26, 27, 28, 29] : List Nat)) (· ∈ ([0, 2, 3, 1] : List Nat)) a2 w2 := h3
  obtain ⟨F, V, g, u0, u1, u2, e, c0, c1, c2, hv, hF, hb, hd, hp⟩ := typed_end3 h3 (p := 0) (x := 0) rfl (by decide) (by decide) rfl
  clear h3
  have he : a2.tmps[0]? = some (.pointer (some ⟨g, 0, none⟩)) := by rw [Array.getElem?_eq_getElem hp]; simpa [Array.getD, hp] using e
  refine wp_ret (bodyPost_ret (v := .agg #[u0, u1, u2]) (by simp [results, Tryz.results40, go_sem, he, c0, c1, c2]) hd ⟨_, rfl, ?_, hb⟩)
  exact (let ⟨u, e, k⟩ := hv; ⟨u, e, LoL.mono k fun b _ h => hF b h⟩)


end Go.Proofs.YtgohnekaolgblaaGreat

/- heap.collector: contract (printed by wip/gen_lofun.py). -/
namespace Go.Proofs.YtgohnekaolgblaaGreat
open Go.RowKit

/-- What the function that moves all does. -/
def eachL : List Lo := [Px.call 1 3 [Px.load (Px.v 0)], Px.store (Px.v 0) (Px.v 1), Px.set 0 (Px.add (Px.v 0) (Px.n 4))]
def rootsL : List Lo := Px.when (Px.t 79 (Px.v 0) (Px.g 0)) [Px.leave] :: eachL
def wordsL : List Lo := Px.when (Px.t 79 (Px.v 0) (Px.v 3)) [Px.leave] :: eachL
def scanL : List Lo := [
  Px.when (Px.t 79 (Px.v 0) (Px.g 1)) [Px.leave],
  Px.set 2 (Px.load (Px.v 0)),
  Px.set 3 (Px.add (Px.v 0) (bytesX (Px.v 2))),
  Px.set 0 (Px.add (Px.v 0) (Px.n 4)),
  Px.when (isTextX (Px.v 2)) [Px.set 0 (Px.v 3)],
  Px.loop wordsL]
def collectL (stack : Int) : List Lo := [
  Px.put 1 (Px.g 4),
  Px.set 0 (Px.n stack),
  Px.loop rootsL,
  Px.set 0 (Px.g 4),
  Px.loop scanL,
  Px.set 4 (Px.g 2),
  Px.put 3 (Px.add (Px.g 4) (Px.t 107 (Px.g 3) (Px.g 2))),
  Px.put 2 (Px.g 4),
  Px.put 4 (Px.v 4)]

noncomputable def collectorTy (p0 p1 p2 p3 p4 : Int) : List AV := [
  AV.raw (.agg #[.int .u32 p0, .int .u32 p1, .int .u32 p2, .int .u32 p3, .int .u32 p4]),
  AV.ptr 1 0,
  AV.ptr 2 0,
  AV.lol [Px.call 1 3 [Px.load (Px.v 0)], Px.store (Px.v 0) (Px.v 1), Px.set 0 (Px.add (Px.v 0) (Px.n 4))],
  AV.lol [Px.when (Px.t 79 (Px.v 0) (Px.g 0)) [Px.leave], Px.call 1 3 [Px.load (Px.v 0)], Px.store (Px.v 0) (Px.v 1), Px.set 0 (Px.add (Px.v 0) (Px.n 4))],
  AV.lol [Px.when (Px.t 79 (Px.v 0) (Px.v 3)) [Px.leave], Px.call 1 3 [Px.load (Px.v 0)], Px.store (Px.v 0) (Px.v 1), Px.set 0 (Px.add (Px.v 0) (Px.n 4))],
  AV.ptr 6 0,
  AV.ex (Px.v 0),
  AV.ex (Px.load (Px.v 0)),
  AV.exl [Px.load (Px.v 0)],
  AV.lo (Px.call 1 3 [Px.load (Px.v 0)]),
  AV.ex (Px.v 0),
  AV.ex (Px.v 1),
  AV.lo (Px.store (Px.v 0) (Px.v 1)),
  AV.ex (Px.v 0),
  AV.ex (Px.n 4),
  AV.ex (Px.add (Px.v 0) (Px.n 4)),
  AV.lo (Px.set 0 (Px.add (Px.v 0) (Px.n 4))),
  AV.lol [Px.call 1 3 [Px.load (Px.v 0)], Px.store (Px.v 0) (Px.v 1), Px.set 0 (Px.add (Px.v 0) (Px.n 4))],
  AV.ex (Px.v 0),
  AV.ex (Px.g 0),
  AV.ex (Px.t 79 (Px.v 0) (Px.g 0)),
  AV.lo Px.leave,
  AV.lol [Px.leave],
  AV.lo (Px.when (Px.t 79 (Px.v 0) (Px.g 0)) [Px.leave]),
  AV.lolx [Px.when (Px.t 79 (Px.v 0) (Px.g 0)) [Px.leave]],
  AV.lol [Px.call 1 3 [Px.load (Px.v 0)], Px.store (Px.v 0) (Px.v 1), Px.set 0 (Px.add (Px.v 0) (Px.n 4))],
  AV.lol [Px.when (Px.t 79 (Px.v 0) (Px.g 0)) [Px.leave], Px.call 1 3 [Px.load (Px.v 0)], Px.store (Px.v 0) (Px.v 1), Px.set 0 (Px.add (Px.v 0) (Px.n 4))],
  AV.ex (Px.v 0),
  AV.ex (Px.v 3),
  AV.ex (Px.t 79 (Px.v 0) (Px.v 3)),
  AV.lo Px.leave,
  AV.lol [Px.leave],
  AV.lo (Px.when (Px.t 79 (Px.v 0) (Px.v 3)) [Px.leave]),
  AV.lolx [Px.when (Px.t 79 (Px.v 0) (Px.v 3)) [Px.leave]],
  AV.lol [Px.call 1 3 [Px.load (Px.v 0)], Px.store (Px.v 0) (Px.v 1), Px.set 0 (Px.add (Px.v 0) (Px.n 4))],
  AV.lol [Px.when (Px.t 79 (Px.v 0) (Px.v 3)) [Px.leave], Px.call 1 3 [Px.load (Px.v 0)], Px.store (Px.v 0) (Px.v 1), Px.set 0 (Px.add (Px.v 0) (Px.n 4))],
  AV.ex (Px.v 2),
  AV.ex (Px.n 6),
  AV.ex (Px.t 113 (Px.v 2) (Px.n 6)),
  AV.ex (Px.n 4),
  AV.ex (Px.t 70 (Px.t 113 (Px.v 2) (Px.n 6)) (Px.n 4)),
  AV.ex (Px.g 4),
  AV.lo (Px.put 1 (Px.g 4)),
  AV.ptr 1 1,
  AV.raw (.int .u32 p1),
  AV.i p1,
  AV.ex (Px.n p1),
  AV.lo (Px.set 0 (Px.n p1)),
  AV.lol [Px.when (Px.t 79 (Px.v 0) (Px.g 0)) [Px.leave], Px.call 1 3 [Px.load (Px.v 0)], Px.store (Px.v 0) (Px.v 1), Px.set 0 (Px.add (Px.v 0) (Px.n 4))],
  AV.lo (Px.loop [Px.when (Px.t 79 (Px.v 0) (Px.g 0)) [Px.leave], Px.call 1 3 [Px.load (Px.v 0)], Px.store (Px.v 0) (Px.v 1), Px.set 0 (Px.add (Px.v 0) (Px.n 4))]),
  AV.ex (Px.g 4),
  AV.lo (Px.set 0 (Px.g 4)),
  AV.ex (Px.v 0),
  AV.ex (Px.g 1),
  AV.ex (Px.t 79 (Px.v 0) (Px.g 1)),
  AV.lo Px.leave,
  AV.lol [Px.leave],
  AV.lo (Px.when (Px.t 79 (Px.v 0) (Px.g 1)) [Px.leave]),
  AV.ex (Px.v 0),
  AV.ex (Px.load (Px.v 0)),
  AV.lo (Px.set 2 (Px.load (Px.v 0))),
  AV.ex (Px.v 0),
  AV.ex (Px.v 2),
  AV.ex (bytesX (Px.v 2)),
  AV.ex (Px.add (Px.v 0) (bytesX (Px.v 2))),
  AV.lo (Px.set 3 (Px.add (Px.v 0) (bytesX (Px.v 2)))),
  AV.ex (Px.v 0),
  AV.ex (Px.n 4),
  AV.ex (Px.add (Px.v 0) (Px.n 4)),
  AV.lo (Px.set 0 (Px.add (Px.v 0) (Px.n 4))),
  AV.ex (Px.t 70 (Px.t 113 (Px.v 2) (Px.n 6)) (Px.n 4)),
  AV.ex (Px.v 3),
  AV.lo (Px.set 0 (Px.v 3)),
  AV.lol [Px.set 0 (Px.v 3)],
  AV.lo (Px.when (Px.t 70 (Px.t 113 (Px.v 2) (Px.n 6)) (Px.n 4)) [Px.set 0 (Px.v 3)]),
  AV.lol [Px.when (Px.t 79 (Px.v 0) (Px.v 3)) [Px.leave], Px.call 1 3 [Px.load (Px.v 0)], Px.store (Px.v 0) (Px.v 1), Px.set 0 (Px.add (Px.v 0) (Px.n 4))],
  AV.lo (Px.loop [Px.when (Px.t 79 (Px.v 0) (Px.v 3)) [Px.leave], Px.call 1 3 [Px.load (Px.v 0)], Px.store (Px.v 0) (Px.v 1), Px.set 0 (Px.add (Px.v 0) (Px.n 4))]),
  AV.lol [Px.when (Px.t 79 (Px.v 0) (Px.g 1)) [Px.leave], Px.set 2 (Px.load (Px.v 0)), Px.set 3 (Px.add (Px.v 0) (bytesX (Px.v 2))), Px.set 0 (Px.add (Px.v 0) (Px.n 4)), Px.when (Px.t 70 (Px.t 113 (Px.v 2) (Px.n 6)) (Px.n 4)) [Px.set 0 (Px.v 3)], Px.loop [Px.when (Px.t 79 (Px.v 0) (Px.v 3)) [Px.leave], Px.call 1 3 [Px.load (Px.v 0)], Px.store (Px.v 0) (Px.v 1), Px.set 0 (Px.add (Px.v 0) (Px.n 4))]],
  AV.lo (Px.loop [Px.when (Px.t 79 (Px.v 0) (Px.g 1)) [Px.leave], Px.set 2 (Px.load (Px.v 0)), Px.set 3 (Px.add (Px.v 0) (bytesX (Px.v 2))), Px.set 0 (Px.add (Px.v 0) (Px.n 4)), Px.when (Px.t 70 (Px.t 113 (Px.v 2) (Px.n 6)) (Px.n 4)) [Px.set 0 (Px.v 3)], Px.loop [Px.when (Px.t 79 (Px.v 0) (Px.v 3)) [Px.leave], Px.call 1 3 [Px.load (Px.v 0)], Px.store (Px.v 0) (Px.v 1), Px.set 0 (Px.add (Px.v 0) (Px.n 4))]]),
  AV.ex (Px.g 2),
  AV.lo (Px.set 4 (Px.g 2)),
  AV.ex (Px.g 4),
  AV.ex (Px.g 3),
  AV.ex (Px.g 2),
  AV.ex (Px.t 107 (Px.g 3) (Px.g 2)),
  AV.ex (Px.add (Px.g 4) (Px.t 107 (Px.g 3) (Px.g 2))),
  AV.lo (Px.put 3 (Px.add (Px.g 4) (Px.t 107 (Px.g 3) (Px.g 2)))),
  AV.ex (Px.g 4),
  AV.lo (Px.put 2 (Px.g 4)),
  AV.ex (Px.v 4),
  AV.lo (Px.put 4 (Px.v 4)),
  AV.lol [Px.put 1 (Px.g 4), Px.set 0 (Px.n p1), Px.loop [Px.when (Px.t 79 (Px.v 0) (Px.g 0)) [Px.leave], Px.call 1 3 [Px.load (Px.v 0)], Px.store (Px.v 0) (Px.v 1), Px.set 0 (Px.add (Px.v 0) (Px.n 4))], Px.set 0 (Px.g 4), Px.loop [Px.when (Px.t 79 (Px.v 0) (Px.g 1)) [Px.leave], Px.set 2 (Px.load (Px.v 0)), Px.set 3 (Px.add (Px.v 0) (bytesX (Px.v 2))), Px.set 0 (Px.add (Px.v 0) (Px.n 4)), Px.when (Px.t 70 (Px.t 113 (Px.v 2) (Px.n 6)) (Px.n 4)) [Px.set 0 (Px.v 3)], Px.loop [Px.when (Px.t 79 (Px.v 0) (Px.v 3)) [Px.leave], Px.call 1 3 [Px.load (Px.v 0)], Px.store (Px.v 0) (Px.v 1), Px.set 0 (Px.add (Px.v 0) (Px.n 4))]], Px.set 4 (Px.g 2), Px.put 3 (Px.add (Px.g 4) (Px.t 107 (Px.g 3) (Px.g 2))), Px.put 2 (Px.g 4), Px.put 4 (Px.v 4)],
  AV.fn 0 5 [Px.put 1 (Px.g 4), Px.set 0 (Px.n p1), Px.loop [Px.when (Px.t 79 (Px.v 0) (Px.g 0)) [Px.leave], Px.call 1 3 [Px.load (Px.v 0)], Px.store (Px.v 0) (Px.v 1), Px.set 0 (Px.add (Px.v 0) (Px.n 4))], Px.set 0 (Px.g 4), Px.loop [Px.when (Px.t 79 (Px.v 0) (Px.g 1)) [Px.leave], Px.set 2 (Px.load (Px.v 0)), Px.set 3 (Px.add (Px.v 0) (bytesX (Px.v 2))), Px.set 0 (Px.add (Px.v 0) (Px.n 4)), Px.when (Px.t 70 (Px.t 113 (Px.v 2) (Px.n 6)) (Px.n 4)) [Px.set 0 (Px.v 3)], Px.loop [Px.when (Px.t 79 (Px.v 0) (Px.v 3)) [Px.leave], Px.call 1 3 [Px.load (Px.v 0)], Px.store (Px.v 0) (Px.v 1), Px.set 0 (Px.add (Px.v 0) (Px.n 4))]], Px.set 4 (Px.g 2), Px.put 3 (Px.add (Px.g 4) (Px.t 107 (Px.g 3) (Px.g 2))), Px.put 2 (Px.g 4), Px.put 4 (Px.v 4)]]
noncomputable def collectorCon (p0 p1 p2 p3 p4 : Int) : List AV := [
  AV.any,
  AV.raw (.agg #[.int .u32 p0, .int .u32 p1, .int .u32 p2, .int .u32 p3, .int .u32 p4]),
  AV.fn 0 5 [Px.put 1 (Px.g 4), Px.set 0 (Px.n p1), Px.loop [Px.when (Px.t 79 (Px.v 0) (Px.g 0)) [Px.leave], Px.call 1 3 [Px.load (Px.v 0)], Px.store (Px.v 0) (Px.v 1), Px.set 0 (Px.add (Px.v 0) (Px.n 4))], Px.set 0 (Px.g 4), Px.loop [Px.when (Px.t 79 (Px.v 0) (Px.g 1)) [Px.leave], Px.set 2 (Px.load (Px.v 0)), Px.set 3 (Px.add (Px.v 0) (bytesX (Px.v 2))), Px.set 0 (Px.add (Px.v 0) (Px.n 4)), Px.when (Px.t 70 (Px.t 113 (Px.v 2) (Px.n 6)) (Px.n 4)) [Px.set 0 (Px.v 3)], Px.loop [Px.when (Px.t 79 (Px.v 0) (Px.v 3)) [Px.leave], Px.call 1 3 [Px.load (Px.v 0)], Px.store (Px.v 0) (Px.v 1), Px.set 0 (Px.add (Px.v 0) (Px.n 4))]], Px.set 4 (Px.g 2), Px.put 3 (Px.add (Px.g 4) (Px.t 107 (Px.g 3) (Px.g 2))), Px.put 2 (Px.g 4), Px.put 4 (Px.v 4)],
  AV.any,
  AV.any,
  AV.any,
  AV.ex (Px.t 70 (Px.t 113 (Px.v 2) (Px.n 6)) (Px.n 4))]
noncomputable def collectorCx (p0 p1 p2 p3 p4 : Int) (S : Nat → Prop) (w : World) : Cx := ⟨Tryz.prog, fun t => (collectorTy p0 p1 p2 p3 p4).getD t AV.any, fun x => (collectorCon p0 p1 p2 p3 p4).getD x AV.any, fun x => if x = 1 then 5 else 3, S, w, 94⟩

set_option maxRecDepth 100000 in
set_option maxHeartbeats 4000000 in
theorem loCollector (S : Nat → Prop) (p0 p1 p2 p3 p4 : Int) (hp1 : 0 ≤ p1 ∧ p1 < 4294967296) (w : World) (hN : New S w) : Calls Tryz.prog 39 #[.agg #[.int .u32 p0, .int .u32 p1, .int .u32 p2, .int .u32 p3, .int .u32 p4]] w fun e w' => ∃ v, e = .returned v ∧ FnAt S w' 0 5 (collectL p1) v ∧ Below w.heap.size w w' := by
  go_enter Tryz.func39, Tryz.ntmps39
  have hM : ∀ b, (collectorCx p0 p1 p2 p3 p4 S w).w0.heap.size ≤ b → (collectorCx p0 p1 p2 p3 p4 S w).S b := hN
  refine wp_seq (typed_region (c := collectorCx p0 p1 p2 p3 p4 S w) (by kernel_rfl) (by kernel_rfl) [0] [] [([0], [], [2, 3]), ([], [], [4])] (by kernel_rfl) ⟨st_boxPlan (x := 1) rfl rfl (Nat.le_of_ble_eq_true rfl) rfl rfl rfl rfl rfl, st_allocFn (x := 2) rfl rfl (Nat.le_of_ble_eq_true rfl) rfl rfl rfl, trivial⟩ ?start fun a0 w0 h1 => ?rest0)
  case start => exact typed_start rfl rfl rfl fun t ht => by simp only [List.mem_singleton] at ht; subst ht; exact rfl
  simp only [Exit.then]
  replace h1 : Typed (collectorCx p0 p1 p2 p3 p4 S w) (· ∈ ([0, 1, 2] : List Nat)) (· ∈ ([2, 3, 4] : List Nat)) a0 w0 := h1
  refine wp_seq (typed_region (c := collectorCx p0 p1 p2 p3 p4 S w) (by kernel_rfl) (by kernel_rfl) [0, 1, 2] [2, 3, 4] [([], [], []), ([7], [], []), ([8], [], []), ([9], [], []), ([], [], []), ([], [], []), ([11, 12], [], []), ([], [], []), ([], [], []), ([14, 15], [], []), ([16], [], []), ([10, 13, 17], [], []), ([18], [], [])] (by kernel_rfl) ⟨mk_local rfl hM rfl (Nat.le_of_ble_eq_true rfl) rfl rfl, mk_load rfl hM rfl rfl (Nat.le_of_ble_eq_true rfl) rfl rfl, st_exs1 rfl hM rfl rfl (Nat.le_of_ble_eq_true rfl) rfl rfl, mk_call rfl hM rfl rfl (Nat.le_of_ble_eq_true rfl) rfl rfl, mk_local rfl hM rfl (Nat.le_of_ble_eq_true rfl) rfl rfl, mk_local rfl hM rfl (Nat.le_of_ble_eq_true rfl) rfl rfl, mk_store rfl hM rfl rfl rfl (Nat.le_of_ble_eq_true rfl) rfl rfl, mk_local rfl hM rfl (Nat.le_of_ble_eq_true rfl) rfl rfl, mk_num rfl hM rfl (Nat.le_of_ble_eq_true rfl) rfl rfl, mk_add rfl hM rfl rfl rfl (Nat.le_of_ble_eq_true rfl) rfl rfl, mk_set rfl hM rfl rfl (Nat.le_of_ble_eq_true rfl) rfl rfl, st_los3 rfl hM rfl rfl rfl rfl (Nat.le_of_ble_eq_true rfl) rfl rfl, st_same rfl (Nat.le_of_ble_eq_true rfl) (.inr rfl) rfl, trivial⟩ h1 fun a1 w1 h2 => ?rest1)
  simp only [Exit.then]
  replace h2 : Typed (collectorCx p0 p1 p2 p3 p4 S w) (· ∈ ([0, 1, 2, 7, 8, 9, 10, 11, 12, 13, 14, 15, 16, 17, 18, 3] : List Nat)) (· ∈ ([2, 3, 4] : List Nat)) a1 w1 := h2
  refine wp_seq (typed_region (c := collectorCx p0 p1 p2 p3 p4 S w) (by kernel_rfl) (by kernel_rfl) [0, 1, 2, 7, 8, 9, 10, 11, 12, 13, 14, 15, 16, 17, 18, 3] [2, 3, 4] [([], [], []), ([], [], []), ([19, 20], [], []), ([], [], []), ([22], [], []), ([21, 23], [], []), ([24], [], []), ([3], [], []), ([25, 26], [], []), ([27], [], [])] (by kernel_rfl) ⟨mk_local rfl hM rfl (Nat.le_of_ble_eq_true rfl) rfl rfl, mk_global rfl hM rfl (Nat.le_of_ble_eq_true rfl) rfl rfl, mk_two rfl hM rfl rfl rfl (Nat.le_of_ble_eq_true rfl) rfl rfl, mk_leave rfl hM rfl (Nat.le_of_ble_eq_true rfl) rfl rfl, st_los1 rfl hM rfl rfl (Nat.le_of_ble_eq_true rfl) rfl rfl, mk_when rfl hM rfl rfl rfl (Nat.le_of_ble_eq_true rfl) rfl rfl, st_los1x rfl hM rfl rfl (Nat.le_of_ble_eq_true rfl) rfl rfl, st_same rfl (Nat.le_of_ble_eq_true rfl) (.inl rfl) rfl, st_append rfl hM rfl rfl rfl (Nat.le_of_ble_eq_true rfl) rfl rfl (by decide) (by decide) (by decide), st_same rfl (Nat.le_of_ble_eq_true rfl) (.inr rfl) rfl, trivial⟩ h2 fun a2 w2 h3 => ?rest2)
  simp only [Exit.then]
  replace h3 : Typed (collectorCx p0 p1 p2 p3 p4 S w) (· ∈ ([0, 1, 2, 7, 8, 9, 10, 11, 12, 13, 14, 15, 16, 17, 18, 3, 19, 20, 21, 22, 23, 24, 25, 26, 27, 4] : List Nat)) (· ∈ ([2, 3, 4] : List Nat)) a2 w2 := h3
  refine wp_seq (typed_region (c := collectorCx p0 p1 p2 p3 p4 S w) (by kernel_rfl) (by kernel_rfl) [0, 1, 2, 7, 8, 9, 10, 11, 12, 13, 14, 15, 16, 17, 18, 3, 19, 20, 21, 22, 23, 24, 25, 26, 27, 4] [2, 3, 4] [([], [], []), ([], [], []), ([28, 29], [], []), ([], [], []), ([31], [], []), ([30, 32], [], []), ([33], [], []), ([3], [], []), ([34, 35], [], []), ([36], [], [])] (by kernel_rfl) ⟨mk_local rfl hM rfl (Nat.le_of_ble_eq_true rfl) rfl rfl, mk_local rfl hM rfl (Nat.le_of_ble_eq_true rfl) rfl rfl, mk_two rfl hM rfl rfl rfl (Nat.le_of_ble_eq_true rfl) rfl rfl, mk_leave rfl hM rfl (Nat.le_of_ble_eq_true rfl) rfl rfl, st_los1 rfl hM rfl rfl (Nat.le_of_ble_eq_true rfl) rfl rfl, mk_when rfl hM rfl rfl rfl (Nat.le_of_ble_eq_true rfl) rfl rfl, st_los1x rfl hM rfl rfl (Nat.le_of_ble_eq_true rfl) rfl rfl, st_same rfl (Nat.le_of_ble_eq_true rfl) (.inl rfl) rfl, st_append rfl hM rfl rfl rfl (Nat.le_of_ble_eq_true rfl) rfl rfl (by decide) (by decide) (by decide), st_same rfl (Nat.le_of_ble_eq_true rfl) (.inr rfl) rfl, trivial⟩ h3 fun a3 w3 h4 => ?rest3)
  simp only [Exit.then]
  replace h4 : Typed (collectorCx p0 p1 p2 p3 p4 S w) (· ∈ ([0, 1, 2, 7, 8, 9, 10, 11, 12, 13, 14, 15, 16, 17, 18, 3, 19, 20, 21, 22, 23, 24, 25, 26, 27, 4, 28, 29, 30, 31, 32, 33, 34, 35, 36, 5] : List Nat)) (· ∈ ([2, 3, 4] : List Nat)) a3 w3 := h4
  refine wp_seq (typed_region (c := collectorCx p0 p1 p2 p3 p4 S w) (by kernel_rfl) (by kernel_rfl) [0, 1, 2, 7, 8, 9, 10, 11, 12, 13, 14, 15, 16, 17, 18, 3, 19, 20, 21, 22, 23, 24, 25, 26, 27, 4, 28, 29, 30, 31, 32, 33, 34, 35, 36, 5] [2, 3, 4] [([], [], []), ([], [], []), ([37, 38], [], []), ([], [], []), ([39, 40], [], []), ([], [], [12]), ([6, 41], [], [13])] (by kernel_rfl) ⟨mk_local rfl hM rfl (Nat.le_of_ble_eq_true rfl) rfl rfl, mk_num rfl hM rfl (Nat.le_of_ble_eq_true rfl) rfl rfl, mk_two rfl hM rfl rfl rfl (Nat.le_of_ble_eq_true rfl) rfl rfl, mk_num rfl hM rfl (Nat.le_of_ble_eq_true rfl) rfl rfl, mk_two rfl hM rfl rfl rfl (Nat.le_of_ble_eq_true rfl) rfl rfl, st_allocEx (x := 6) rfl rfl (Nat.le_of_ble_eq_true rfl) rfl rfl rfl, st_storeEx (x := 6) rfl rfl rfl rfl rfl rfl (ex_agg3 _), trivial⟩ h4 fun a4 w4 h5 => ?rest4)
  simp only [Exit.then]
  replace h5 : Typed (collectorCx p0 p1 p2 p3 p4 S w) (· ∈ ([0, 1, 2, 7, 8, 9, 10, 11, 12, 13, 14, 15, 16, 17, 18, 3, 19, 20, 21, 22, 23, 24, 25, 26, 27, 4, 28, 29, 30, 31, 32, 33, 34, 35, 36, 5, 37, 38, 39, 40, 41, 6] : List Nat)) (· ∈ ([2, 3, 4, 12, 13] : List Nat)) a4 w4 := h5
  refine wp_seq (typed_region (c := collectorCx p0 p1 p2 p3 p4 S w) (by kernel_rfl) (by kernel_rfl) [0, 1, 2, 7, 8, 9, 10, 11, 12, 13, 14, 15, 16, 17, 18, 3, 19, 20, 21, 22, 23, 24, 25, 26, 27, 4, 28, 29, 30, 31, 32, 33, 34, 35, 36, 5, 37, 38, 39, 40, 41, 6] [2, 3, 4, 12, 13] [([], [], []), ([42], [], []), ([1], [], []), ([44], [3], []), ([45], [], []), ([46], [], []), ([47], [], []), ([4], [], []), ([49], [], []), ([], [], []), ([51], [], []), ([], [], []), ([], [], []), ([53, 54], [], []), ([], [], []), ([56], [], []), ([55, 57], [], []), ([], [], []), ([59], [], []), ([60], [], []), ([], [], []), ([], [], []), ([63], [], []), ([62, 64], [], []), ([65], [], []), ([], [], []), ([], [], []), ([67, 68], [], []), ([69], [], []), ([6], [13], []), ([], [], []), ([72], [], []), ([73], [], []), ([71, 74], [], []), ([5], [], []), ([76], [], []), ([58, 61, 66, 70, 75, 77], [], []), ([78], [], []), ([], [], []), ([80], [], []), ([], [], []), ([], [], []), ([], [], []), ([83, 84], [], []), ([82, 85], [], []), ([86], [], []), ([], [], []), ([88], [], []), ([], [], []), ([90], [], []), ([43, 48, 50, 52, 79, 81, 87, 89, 91], [], []), ([92], [], []), ([2, 93], [], [5])] (by kernel_rfl) ⟨mk_global rfl hM rfl (Nat.le_of_ble_eq_true rfl) rfl rfl, mk_put rfl hM rfl rfl (Nat.le_of_ble_eq_true rfl) rfl rfl, st_fieldPlan1 rfl rfl rfl (Nat.le_of_ble_eq_true rfl) rfl rfl, st_loadPlan1 (x := 1) rfl rfl rfl (Nat.le_of_ble_eq_true rfl) rfl rfl rfl, st_convU rfl rfl rfl (Nat.le_of_ble_eq_true rfl) rfl hp1 rfl, mk_numJ rfl hM rfl rfl (Nat.le_of_ble_eq_true rfl) rfl rfl, mk_set rfl hM rfl rfl (Nat.le_of_ble_eq_true rfl) rfl rfl, st_same rfl (Nat.le_of_ble_eq_true rfl) (.inl rfl) rfl, mk_loop rfl hM rfl rfl (Nat.le_of_ble_eq_true rfl) rfl rfl, mk_global rfl hM rfl (Nat.le_of_ble_eq_true rfl) rfl rfl, mk_set rfl hM rfl rfl (Nat.le_of_ble_eq_true rfl) rfl rfl, mk_local rfl hM rfl (Nat.le_of_ble_eq_true rfl) rfl rfl, mk_global rfl hM rfl (Nat.le_of_ble_eq_true rfl) rfl rfl, mk_two rfl hM rfl rfl rfl (Nat.le_of_ble_eq_true rfl) rfl rfl, mk_leave rfl hM rfl (Nat.le_of_ble_eq_true rfl) rfl rfl, st_los1 rfl hM rfl rfl (Nat.le_of_ble_eq_true rfl) rfl rfl, mk_when rfl hM rfl rfl rfl (Nat.le_of_ble_eq_true rfl) rfl rfl, mk_local rfl hM rfl (Nat.le_of_ble_eq_true rfl) rfl rfl, mk_load rfl hM rfl rfl (Nat.le_of_ble_eq_true rfl) rfl rfl, mk_set rfl hM rfl rfl (Nat.le_of_ble_eq_true rfl) rfl rfl, mk_local rfl hM rfl (Nat.le_of_ble_eq_true rfl) rfl rfl, mk_local rfl hM rfl (Nat.le_of_ble_eq_true rfl) rfl rfl, mk_bytes rfl hM rfl rfl (Nat.le_of_ble_eq_true rfl) rfl rfl, mk_add rfl hM rfl rfl rfl (Nat.le_of_ble_eq_true rfl) rfl rfl, mk_set rfl hM rfl rfl (Nat.le_of_ble_eq_true rfl) rfl rfl, mk_local rfl hM rfl (Nat.le_of_ble_eq_true rfl) rfl rfl, mk_num rfl hM rfl (Nat.le_of_ble_eq_true rfl) rfl rfl, mk_add rfl hM rfl rfl rfl (Nat.le_of_ble_eq_true rfl) rfl rfl, mk_set rfl hM rfl rfl (Nat.le_of_ble_eq_true rfl) rfl rfl, st_loadEx (x := 6) rfl rfl rfl (Nat.le_of_ble_eq_true rfl) rfl rfl rfl, mk_local rfl hM rfl (Nat.le_of_ble_eq_true rfl) rfl rfl, mk_set rfl hM rfl rfl (Nat.le_of_ble_eq_true rfl) rfl rfl, st_los1 rfl hM rfl rfl (Nat.le_of_ble_eq_true rfl) rfl rfl, mk_when rfl hM rfl rfl rfl (Nat.le_of_ble_eq_true rfl) rfl rfl, st_same rfl (Nat.le_of_ble_eq_true rfl) (.inl rfl) rfl, mk_loop rfl hM rfl rfl (Nat.le_of_ble_eq_true rfl) rfl rfl, st_los6 rfl hM rfl rfl rfl rfl rfl rfl rfl (Nat.le_of_ble_eq_true rfl) rfl rfl, mk_loop rfl hM rfl rfl (Nat.le_of_ble_eq_true rfl) rfl rfl, mk_global rfl hM rfl (Nat.le_of_ble_eq_true rfl) rfl rfl, mk_set rfl hM rfl rfl (Nat.le_of_ble_eq_true rfl) rfl rfl, mk_global rfl hM rfl (Nat.le_of_ble_eq_true rfl) rfl rfl, mk_global rfl hM rfl (Nat.le_of_ble_eq_true rfl) rfl rfl, mk_global rfl hM rfl (Nat.le_of_ble_eq_true rfl) rfl rfl, mk_two rfl hM rfl rfl rfl (Nat.le_of_ble_eq_true rfl) rfl rfl, mk_add rfl hM rfl rfl rfl (Nat.le_of_ble_eq_true rfl) rfl rfl, mk_put rfl hM rfl rfl (Nat.le_of_ble_eq_true rfl) rfl rfl, mk_global rfl hM rfl (Nat.le_of_ble_eq_true rfl) rfl rfl, mk_put rfl hM rfl rfl (Nat.le_of_ble_eq_true rfl) rfl rfl, mk_local rfl hM rfl (Nat.le_of_ble_eq_true rfl) rfl rfl, mk_put rfl hM rfl rfl (Nat.le_of_ble_eq_true rfl) rfl rfl, st_los9 rfl hM rfl rfl rfl rfl rfl rfl rfl rfl rfl rfl (Nat.le_of_ble_eq_true rfl) rfl rfl, st_buildFn0 rfl rfl rfl (Nat.le_of_ble_eq_true rfl) rfl rfl, st_storeFn (x := 2) rfl rfl rfl rfl rfl rfl (fn_agg3 _ _ _), trivial⟩ h5 fun a5 w5 h6 => ?rest5)
  replace h6 : Typed (collectorCx p0 p1 p2 p3 p4 S w) (· ∈ ([0, 1, 2, 7, 8, 9, 10, 11, 12, 13, 14, 15, 16, 17, 18, 3, 19, 20, 21, 22, 23, 24, 25, 26, 27, 4, 28, 29, 30, 31, 32, 33, 34, 35, 36, 5, 37, 38, 39, 40, 41, 6, 42, 43, 44, 45, 46, 47, 48, 49, 50, 51, 52, 53, 54, 55, 56, 57, 58, 59, 60, 61, 62, 63, 64, 65, 66, 67, 68, 69, 70, 71, 72, 73, 74, 75, 76, 77, 78, 79, 80, 81, 82, 83, 84, 85, 86, 87, 88, 89, 90, 91, 92, 93] : List Nat)) (· ∈ ([2, 3, 4, 12, 13, 5] : List Nat)) a5 w5 := h6
  obtain ⟨F, V, g, u0, u1, u2, e, c0, c1, c2, hv, hF, hb, hd, hp⟩ := typed_end3 h6 (p := 2) (x := 2) rfl (by decide) (by decide) rfl
  clear h6
  have he : a5.tmps[2]? = some (.pointer (some ⟨g, 0, none⟩)) := by rw [Array.getElem?_eq_getElem hp]; simpa [Array.getD, hp] using e
  refine wp_ret (bodyPost_ret (v := .agg #[u0, u1, u2]) (by simp [results, Tryz.results39, go_sem, he, c0, c1, c2]) hd ⟨_, rfl, ?_, hb⟩)
  exact (let ⟨u, e, k⟩ := hv; ⟨u, e, LoL.mono k fun b _ h => hF b h⟩)


end Go.Proofs.YtgohnekaolgblaaGreat
