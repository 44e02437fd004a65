/- heap.taker: contract (printed by wip/gen_lofun.py). -/
import Derived.Test.YtgohnekaolgblaaLfBytes
namespace Go.Proofs.Ytgohnekaolgblaa
open Go.RowKit

/-- What the function that tells where free words are does. -/
def fewX : Ex := Px.t 73 (Px.t 118 (Px.t 107 (Px.g 3) (Px.g 1)) (Px.n 2)) (Px.v 0)
def takerL : List Lo := [
  Px.when fewX [Px.call 1 1 [], Px.when fewX [Px.tell (Px.n 0)]],
  Px.set 1 (Px.g 1),
  Px.put 1 (Px.add (Px.v 1) (Px.t 116 (Px.v 0) (Px.n 2))),
  Px.tell (Px.v 1)]

noncomputable def takerTy  : List AV := [
  AV.ptr 0 0,
  AV.ptr 1 0,
  AV.ex (Px.g 3),
  AV.ex (Px.g 1),
  AV.ex (Px.t 107 (Px.g 3) (Px.g 1)),
  AV.ex (Px.n 2),
  AV.ex (Px.t 118 (Px.t 107 (Px.g 3) (Px.g 1)) (Px.n 2)),
  AV.ex (Px.v 0),
  AV.ex (Px.t 73 (Px.t 118 (Px.t 107 (Px.g 3) (Px.g 1)) (Px.n 2)) (Px.v 0)),
  AV.ex (Px.t 73 (Px.t 118 (Px.t 107 (Px.g 3) (Px.g 1)) (Px.n 2)) (Px.v 0)),
  AV.lo (Px.call 1 1 []),
  AV.ex (Px.t 73 (Px.t 118 (Px.t 107 (Px.g 3) (Px.g 1)) (Px.n 2)) (Px.v 0)),
  AV.ex (Px.n 0),
  AV.lo (Px.tell (Px.n 0)),
  AV.lol [Px.tell (Px.n 0)],
  AV.lo (Px.when (Px.t 73 (Px.t 118 (Px.t 107 (Px.g 3) (Px.g 1)) (Px.n 2)) (Px.v 0)) [Px.tell (Px.n 0)]),
  AV.lol [Px.call 1 1 [], Px.when (Px.t 73 (Px.t 118 (Px.t 107 (Px.g 3) (Px.g 1)) (Px.n 2)) (Px.v 0)) [Px.tell (Px.n 0)]],
  AV.lo (Px.when (Px.t 73 (Px.t 118 (Px.t 107 (Px.g 3) (Px.g 1)) (Px.n 2)) (Px.v 0)) [Px.call 1 1 [], Px.when (Px.t 73 (Px.t 118 (Px.t 107 (Px.g 3) (Px.g 1)) (Px.n 2)) (Px.v 0)) [Px.tell (Px.n 0)]]),
  AV.ex (Px.g 1),
  AV.lo (Px.set 1 (Px.g 1)),
  AV.ex (Px.v 1),
  AV.ex (Px.v 0),
  AV.ex (Px.n 2),
  AV.ex (Px.t 116 (Px.v 0) (Px.n 2)),
  AV.ex (Px.add (Px.v 1) (Px.t 116 (Px.v 0) (Px.n 2))),
  AV.lo (Px.put 1 (Px.add (Px.v 1) (Px.t 116 (Px.v 0) (Px.n 2)))),
  AV.ex (Px.v 1),
  AV.lo (Px.tell (Px.v 1)),
  AV.lol [Px.when (Px.t 73 (Px.t 118 (Px.t 107 (Px.g 3) (Px.g 1)) (Px.n 2)) (Px.v 0)) [Px.call 1 1 [], Px.when (Px.t 73 (Px.t 118 (Px.t 107 (Px.g 3) (Px.g 1)) (Px.n 2)) (Px.v 0)) [Px.tell (Px.n 0)]], Px.set 1 (Px.g 1), Px.put 1 (Px.add (Px.v 1) (Px.t 116 (Px.v 0) (Px.n 2))), Px.tell (Px.v 1)],
  AV.fn 1 1 [Px.when (Px.t 73 (Px.t 118 (Px.t 107 (Px.g 3) (Px.g 1)) (Px.n 2)) (Px.v 0)) [Px.call 1 1 [], Px.when (Px.t 73 (Px.t 118 (Px.t 107 (Px.g 3) (Px.g 1)) (Px.n 2)) (Px.v 0)) [Px.tell (Px.n 0)]], Px.set 1 (Px.g 1), Px.put 1 (Px.add (Px.v 1) (Px.t 116 (Px.v 0) (Px.n 2))), Px.tell (Px.v 1)]]
noncomputable def takerCon  : List AV := [
  AV.fn 1 1 [Px.when (Px.t 73 (Px.t 118 (Px.t 107 (Px.g 3) (Px.g 1)) (Px.n 2)) (Px.v 0)) [Px.call 1 1 [], Px.when (Px.t 73 (Px.t 118 (Px.t 107 (Px.g 3) (Px.g 1)) (Px.n 2)) (Px.v 0)) [Px.tell (Px.n 0)]], Px.set 1 (Px.g 1), Px.put 1 (Px.add (Px.v 1) (Px.t 116 (Px.v 0) (Px.n 2))), Px.tell (Px.v 1)],
  AV.ex (Px.t 73 (Px.t 118 (Px.t 107 (Px.g 3) (Px.g 1)) (Px.n 2)) (Px.v 0))]
noncomputable def takerCx  (S : Nat → Prop) (w : World) : Cx := ⟨Try.prog, fun t => (takerTy ).getD t AV.any, fun x => (takerCon ).getD x AV.any, fun _ => 3, S, w, 30⟩

set_option maxRecDepth 100000 in
set_option maxHeartbeats 4000000 in
theorem loTaker (S : Nat → Prop)  (w : World) (hN : New S w) : Calls Try.prog 54 #[] w fun e w' => ∃ v, e = .returned v ∧ FnAt S w' 1 1 takerL v ∧ Below w.heap.size w w' := by
  go_enter Try.func54, Try.ntmps54
  have hM : ∀ b, (takerCx  S w).w0.heap.size ≤ b → (takerCx  S w).S b := hN
  refine wp_seq (typed_region (c := takerCx  S w) (by kernel_rfl) (by kernel_rfl) [] [] [([], [], [0])] (by kernel_rfl) ⟨st_allocFn (x := 0) rfl rfl (Nat.le_of_ble_eq_true rfl) rfl rfl rfl, trivial⟩ ?start fun a0 w0 h1 => ?rest0)
  case start => exact typed_start rfl rfl rfl fun t ht => absurd ht (by simp)
  simp only [Exit.then]
  replace h1 : Typed (takerCx  S w) (· ∈ ([0] : List Nat)) (· ∈ ([0] : List Nat)) a0 w0 := h1
  refine wp_seq (typed_region (c := takerCx  S w) (by kernel_rfl) (by kernel_rfl) [0] [0] [([], [], []), ([], [], []), ([2, 3], [], []), ([], [], []), ([4, 5], [], []), ([], [], []), ([6, 7], [], []), ([], [], [2]), ([1, 8], [], [3])] (by kernel_rfl) ⟨mk_global rfl hM rfl (Nat.le_of_ble_eq_true rfl) rfl rfl, mk_global rfl hM rfl (Nat.le_of_ble_eq_true rfl) rfl rfl, mk_two rfl hM rfl rfl rfl (Nat.le_of_ble_eq_true rfl) rfl rfl, mk_num rfl hM rfl (Nat.le_of_ble_eq_true rfl) rfl rfl, mk_two rfl hM rfl rfl rfl (Nat.le_of_ble_eq_true rfl) rfl rfl, mk_local rfl hM rfl (Nat.le_of_ble_eq_true rfl) rfl rfl, mk_two rfl hM rfl rfl rfl (Nat.le_of_ble_eq_true rfl) rfl rfl, st_allocEx (x := 1) rfl rfl (Nat.le_of_ble_eq_true rfl) rfl rfl rfl, st_storeEx (x := 1) rfl rfl rfl rfl rfl rfl (ex_agg3 _), trivial⟩ h1 fun a1 w1 h2 => ?rest1)
  simp only [Exit.then]
  replace h2 : Typed (takerCx  S w) (· ∈ ([0, 2, 3, 4, 5, 6, 7, 8, 1] : List Nat)) (· ∈ ([0, 2, 3] : List Nat)) a1 w1 := h2
  refine wp_seq (typed_region (c := takerCx  S w) (by kernel_rfl) (by kernel_rfl) [0, 2, 3, 4, 5, 6, 7, 8, 1] [0, 2, 3] [([1], [3], []), ([], [], []), ([1], [3], []), ([], [], []), ([12], [], []), ([13], [], []), ([11, 14], [], []), ([10, 15], [], []), ([9, 16], [], []), ([], [], []), ([18], [], []), ([], [], []), ([], [], []), ([], [], []), ([21, 22], [], []), ([20, 23], [], []), ([24], [], []), ([], [], []), ([26], [], []), ([17, 19, 25, 27], [], []), ([28], [], []), ([0, 29], [], [1])] (by kernel_rfl) ⟨st_loadEx (x := 1) rfl rfl rfl (Nat.le_of_ble_eq_true rfl) rfl rfl rfl, mk_callN rfl hM rfl (Nat.le_of_ble_eq_true rfl) rfl rfl, st_loadEx (x := 1) rfl rfl rfl (Nat.le_of_ble_eq_true rfl) rfl rfl rfl, mk_num rfl hM rfl (Nat.le_of_ble_eq_true rfl) rfl rfl, mk_tell rfl hM rfl rfl (Nat.le_of_ble_eq_true rfl) rfl rfl, st_los1 rfl hM rfl rfl (Nat.le_of_ble_eq_true rfl) rfl rfl, mk_when rfl hM rfl rfl rfl (Nat.le_of_ble_eq_true rfl) rfl rfl, st_los2 rfl hM rfl rfl rfl (Nat.le_of_ble_eq_true rfl) rfl rfl, mk_when rfl hM rfl rfl rfl (Nat.le_of_ble_eq_true rfl) rfl rfl, mk_global rfl hM rfl (Nat.le_of_ble_eq_true rfl) rfl rfl, mk_set rfl hM rfl rfl (Nat.le_of_ble_eq_true rfl) rfl rfl, mk_local rfl hM rfl (Nat.le_of_ble_eq_true rfl) rfl rfl, mk_local rfl hM rfl (Nat.le_of_ble_eq_true rfl) rfl rfl, mk_num rfl hM rfl (Nat.le_of_ble_eq_true rfl) rfl rfl, mk_two rfl hM rfl rfl rfl (Nat.le_of_ble_eq_true rfl) rfl rfl, mk_add rfl hM rfl rfl rfl (Nat.le_of_ble_eq_true rfl) rfl rfl, mk_put rfl hM rfl rfl (Nat.le_of_ble_eq_true rfl) rfl rfl, mk_local rfl hM rfl (Nat.le_of_ble_eq_true rfl) rfl rfl, mk_tell rfl hM rfl rfl (Nat.le_of_ble_eq_true rfl) rfl rfl, st_los4 rfl hM rfl rfl rfl rfl rfl (Nat.le_of_ble_eq_true rfl) rfl rfl, st_buildFn rfl rfl rfl (Nat.le_of_ble_eq_true rfl) rfl rfl, st_storeFn (x := 0) rfl rfl rfl rfl rfl rfl (fn_agg3 _ _ _), trivial⟩ h2 fun a2 w2 h3 => ?rest2)
  replace h3 : Typed (takerCx  S w) (· ∈ ([0, 2, 3, 4, 5, 6, 7, 8, 1, 9, 10, 11, 12, 13, 14, 15, 16, 17, 18, 19, 20, 21, 22, 23, 24, 25, 26, 27, 28, 29] : List Nat)) (· ∈ ([0, 2, 3, 1] : List Nat)) a2 w2 := h3
  obtain ⟨F, V, g, u0, u1, u2, e, c0, c1, c2, hv, hF, hb, hd, hp⟩ := typed_end3 h3 (p := 0) (x := 0) rfl (by decide) (by decide) rfl
  clear h3
  have he : a2.tmps[0]? = some (.pointer (some ⟨g, 0, none⟩)) := by rw [Array.getElem?_eq_getElem hp]; simpa [Array.getD, hp] using e
  refine wp_ret (bodyPost_ret (v := .agg #[u0, u1, u2]) (by simp [results, Try.results54, go_sem, he, c0, c1, c2]) hd ⟨_, rfl, ?_, hb⟩)
  exact (let ⟨u, e, k⟩ := hv; ⟨u, e, LoL.mono k fun b _ h => hF b h⟩)


end Go.Proofs.Ytgohnekaolgblaa
