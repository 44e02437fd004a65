/- heap.bytes: contract (printed by wip/gen_lofun.py). -/
import Derived.Test.YtgohnekaolgblaaTyL
namespace Go.Proofs.Ytgohnekaolgblaa
open Go.RowKit

/-- Parts of programs. -/
abbrev Px.v (n : Int) : Ex := .mk 2 n []
abbrev Px.g (n : Int) : Ex := .mk 3 n []
abbrev Px.n (n : Int) : Ex := .mk 1 n []
abbrev Px.t (op : Int) (a b : Ex) : Ex := .mk 7 op [a, b]
abbrev Px.add (a b : Ex) : Ex := .mk 7 106 [a, b]
abbrev Px.load (a : Ex) : Ex := .mk 4 0 [a]
abbrev Px.not (a : Ex) : Ex := .mk 6 69 [a]
abbrev Px.set (x : Int) (a : Ex) : Lo := .mk 1 x 0 [a] []
abbrev Px.put (x : Int) (a : Ex) : Lo := .mk 2 x 0 [a] []
abbrev Px.store (a b : Ex) : Lo := .mk 3 0 0 [a, b] []
abbrev Px.tell (a : Ex) : Lo := .mk 9 0 0 [a] []
abbrev Px.when (a : Ex) (l : List Lo) : Lo := .mk 5 0 0 [a] l
abbrev Px.loop (l : List Lo) : Lo := .mk 6 0 0 [] l
abbrev Px.leave : Lo := .mk 7 0 0 [] []
abbrev Px.call (x n : Int) (a : List Ex) : Lo := .mk 10 x n a []
/-- How many bytes there are with a head. -/
def sizeX (h : Ex) : Ex := Px.t 113 (Px.t 118 h (Px.n 3)) (Px.n 8191)
def isTextX (h : Ex) : Ex := Px.t 70 (Px.t 113 h (Px.n 6)) (Px.n 4)
def wordsX (h : Ex) : Ex := Px.t 118 (Px.add (sizeX h) (Px.t 108 (isTextX h) (Px.n 3))) (Px.t 116 (isTextX h) (Px.n 1))
def bytesX (h : Ex) : Ex := Px.t 116 (Px.add (wordsX h) (Px.n 1)) (Px.n 2)

noncomputable def bytesTy (t0 : Ex) : List AV := [
  AV.ex t0,
  AV.ptr 1 0,
  AV.ptr 2 0,
  AV.ptr 3 0,
  AV.ptr 4 0,
  AV.ptr 5 0,
  AV.ex t0,
  AV.ex (Px.n 3),
  AV.ex (Px.t 118 t0 (Px.n 3)),
  AV.ex (Px.n 8191),
  AV.ex (Px.t 113 (Px.t 118 t0 (Px.n 3)) (Px.n 8191)),
  AV.ex t0,
  AV.ex (Px.n 6),
  AV.ex (Px.t 113 t0 (Px.n 6)),
  AV.ex (Px.n 4),
  AV.ex (Px.t 70 (Px.t 113 t0 (Px.n 6)) (Px.n 4)),
  AV.ex (Px.t 113 (Px.t 118 t0 (Px.n 3)) (Px.n 8191)),
  AV.ex (Px.t 70 (Px.t 113 t0 (Px.n 6)) (Px.n 4)),
  AV.ex (Px.n 3),
  AV.ex (Px.t 108 (Px.t 70 (Px.t 113 t0 (Px.n 6)) (Px.n 4)) (Px.n 3)),
  AV.ex (Px.add (Px.t 113 (Px.t 118 t0 (Px.n 3)) (Px.n 8191)) (Px.t 108 (Px.t 70 (Px.t 113 t0 (Px.n 6)) (Px.n 4)) (Px.n 3))),
  AV.ex (Px.t 70 (Px.t 113 t0 (Px.n 6)) (Px.n 4)),
  AV.ex (Px.n 1),
  AV.ex (Px.t 116 (Px.t 70 (Px.t 113 t0 (Px.n 6)) (Px.n 4)) (Px.n 1)),
  AV.exl [Px.add (Px.t 113 (Px.t 118 t0 (Px.n 3)) (Px.n 8191)) (Px.t 108 (Px.t 70 (Px.t 113 t0 (Px.n 6)) (Px.n 4)) (Px.n 3)), Px.t 116 (Px.t 70 (Px.t 113 t0 (Px.n 6)) (Px.n 4)) (Px.n 1)],
  AV.ex (.mk 7 118 [Px.add (Px.t 113 (Px.t 118 t0 (Px.n 3)) (Px.n 8191)) (Px.t 108 (Px.t 70 (Px.t 113 t0 (Px.n 6)) (Px.n 4)) (Px.n 3)), Px.t 116 (Px.t 70 (Px.t 113 t0 (Px.n 6)) (Px.n 4)) (Px.n 1)]),
  AV.ex (.mk 7 118 [Px.add (Px.t 113 (Px.t 118 t0 (Px.n 3)) (Px.n 8191)) (Px.t 108 (Px.t 70 (Px.t 113 t0 (Px.n 6)) (Px.n 4)) (Px.n 3)), Px.t 116 (Px.t 70 (Px.t 113 t0 (Px.n 6)) (Px.n 4)) (Px.n 1)]),
  AV.ex (Px.n 1),
  AV.ex (Px.add (.mk 7 118 [Px.add (Px.t 113 (Px.t 118 t0 (Px.n 3)) (Px.n 8191)) (Px.t 108 (Px.t 70 (Px.t 113 t0 (Px.n 6)) (Px.n 4)) (Px.n 3)), Px.t 116 (Px.t 70 (Px.t 113 t0 (Px.n 6)) (Px.n 4)) (Px.n 1)]) (Px.n 1)),
  AV.ex (Px.n 2),
  AV.ex (Px.t 116 (Px.add (.mk 7 118 [Px.add (Px.t 113 (Px.t 118 t0 (Px.n 3)) (Px.n 8191)) (Px.t 108 (Px.t 70 (Px.t 113 t0 (Px.n 6)) (Px.n 4)) (Px.n 3)), Px.t 116 (Px.t 70 (Px.t 113 t0 (Px.n 6)) (Px.n 4)) (Px.n 1)]) (Px.n 1)) (Px.n 2))]
noncomputable def bytesCon (t0 : Ex) : List AV := [
  AV.any,
  AV.ex t0,
  AV.ex (Px.t 116 (Px.add (.mk 7 118 [Px.add (Px.t 113 (Px.t 118 t0 (Px.n 3)) (Px.n 8191)) (Px.t 108 (Px.t 70 (Px.t 113 t0 (Px.n 6)) (Px.n 4)) (Px.n 3)), Px.t 116 (Px.t 70 (Px.t 113 t0 (Px.n 6)) (Px.n 4)) (Px.n 1)]) (Px.n 1)) (Px.n 2)),
  AV.ex (Px.t 113 (Px.t 118 t0 (Px.n 3)) (Px.n 8191)),
  AV.ex (Px.t 70 (Px.t 113 t0 (Px.n 6)) (Px.n 4)),
  AV.ex (.mk 7 118 [Px.add (Px.t 113 (Px.t 118 t0 (Px.n 3)) (Px.n 8191)) (Px.t 108 (Px.t 70 (Px.t 113 t0 (Px.n 6)) (Px.n 4)) (Px.n 3)), Px.t 116 (Px.t 70 (Px.t 113 t0 (Px.n 6)) (Px.n 4)) (Px.n 1)])]
noncomputable def bytesCx (t0 : Ex) (S : Nat → Prop) (w : World) : Cx := ⟨Try.prog, fun t => (bytesTy t0).getD t AV.any, fun x => (bytesCon t0).getD x AV.any, fun _ => 3, S, w, 31⟩

set_option maxRecDepth 100000 in
set_option maxHeartbeats 4000000 in
theorem loBytes (S : Nat → Prop) (t0 : Ex) (v0 : Value) (w : World) (hN : New S w) (hx0 : Ex.at S w t0 v0) : Calls Try.prog 97 #[v0] w fun e w' => ∃ v, e = .returned v ∧ Ex.at S w' (bytesX t0) v ∧ Below w.heap.size w w' := by
  go_enter Try.func97, Try.ntmps97
  have hM : ∀ b, (bytesCx t0 S w).w0.heap.size ≤ b → (bytesCx t0 S w).S b := hN
  refine wp_seq (typed_region (c := bytesCx t0 S w) (by kernel_rfl) (by kernel_rfl) [0] [] [([0], [], [2, 3]), ([], [], [4])] (by kernel_rfl) ⟨st_boxEx (x := 1) rfl rfl (Nat.le_of_ble_eq_true rfl) rfl rfl rfl rfl rfl, st_allocEx (x := 2) rfl rfl (Nat.le_of_ble_eq_true rfl) rfl rfl rfl, trivial⟩ ?start fun a0 w0 h1 => ?rest0)
  case start => exact typed_start rfl rfl rfl fun t ht => by simp only [List.mem_singleton] at ht; subst ht; exact hx0.mono fun b hb hS => ⟨hS, hb⟩
  simp only [Exit.then]
  replace h1 : Typed (bytesCx t0 S w) (· ∈ ([0, 1, 2] : List Nat)) (· ∈ ([2, 3, 4] : List Nat)) a0 w0 := h1
  refine wp_seq (typed_region (c := bytesCx t0 S w) (by kernel_rfl) (by kernel_rfl) [0, 1, 2] [2, 3, 4] [([1], [3], []), ([], [], []), ([6, 7], [], []), ([], [], []), ([8, 9], [], []), ([], [], [6]), ([3, 10], [], [7])] (by kernel_rfl) ⟨st_loadEx (x := 1) rfl rfl rfl (Nat.le_of_ble_eq_true rfl) rfl rfl rfl, mk_num rfl hM rfl (Nat.le_of_ble_eq_true rfl) rfl rfl, mk_two rfl hM rfl rfl rfl (Nat.le_of_ble_eq_true rfl) rfl rfl, mk_num rfl hM rfl (Nat.le_of_ble_eq_true rfl) rfl rfl, mk_two rfl hM rfl rfl rfl (Nat.le_of_ble_eq_true rfl) rfl rfl, st_allocEx (x := 3) rfl rfl (Nat.le_of_ble_eq_true rfl) rfl rfl rfl, st_storeEx (x := 3) rfl rfl rfl rfl rfl rfl (ex_agg3 _), trivial⟩ h1 fun a1 w1 h2 => ?rest1)
  simp only [Exit.then]
  replace h2 : Typed (bytesCx t0 S w) (· ∈ ([0, 1, 2, 6, 7, 8, 9, 10, 3] : List Nat)) (· ∈ ([2, 3, 4, 6, 7] : List Nat)) a1 w1 := h2
  refine wp_seq (typed_region (c := bytesCx t0 S w) (by kernel_rfl) (by kernel_rfl) [0, 1, 2, 6, 7, 8, 9, 10, 3] [2, 3, 4, 6, 7] [([1], [3], []), ([], [], []), ([11, 12], [], []), ([], [], []), ([13, 14], [], []), ([], [], [8]), ([4, 15], [], [9])] (by kernel_rfl) ⟨st_loadEx (x := 1) rfl rfl rfl (Nat.le_of_ble_eq_true rfl) rfl rfl rfl, mk_num rfl hM rfl (Nat.le_of_ble_eq_true rfl) rfl rfl, mk_two rfl hM rfl rfl rfl (Nat.le_of_ble_eq_true rfl) rfl rfl, mk_num rfl hM rfl (Nat.le_of_ble_eq_true rfl) rfl rfl, mk_two rfl hM rfl rfl rfl (Nat.le_of_ble_eq_true rfl) rfl rfl, st_allocEx (x := 4) rfl rfl (Nat.le_of_ble_eq_true rfl) rfl rfl rfl, st_storeEx (x := 4) rfl rfl rfl rfl rfl rfl (ex_agg3 _), trivial⟩ h2 fun a2 w2 h3 => ?rest2)
  simp only [Exit.then]
  replace h3 : Typed (bytesCx t0 S w) (· ∈ ([0, 1, 2, 6, 7, 8, 9, 10, 3, 11, 12, 13, 14, 15, 4] : List Nat)) (· ∈ ([2, 3, 4, 6, 7, 8, 9] : List Nat)) a2 w2 := h3
  refine wp_seq (typed_region (c := bytesCx t0 S w) (by kernel_rfl) (by kernel_rfl) [0, 1, 2, 6, 7, 8, 9, 10, 3, 11, 12, 13, 14, 15, 4] [2, 3, 4, 6, 7, 8, 9] [([3], [7], []), ([4], [9], []), ([], [], []), ([17, 18], [], []), ([16, 19], [], []), ([4], [9], []), ([], [], []), ([21, 22], [], []), ([20, 23], [], []), ([24], [], []), ([], [], [10]), ([5, 25], [], [11])] (by kernel_rfl) ⟨st_loadEx (x := 3) rfl rfl rfl (Nat.le_of_ble_eq_true rfl) rfl rfl rfl, st_loadEx (x := 4) rfl rfl rfl (Nat.le_of_ble_eq_true rfl) rfl rfl rfl, mk_num rfl hM rfl (Nat.le_of_ble_eq_true rfl) rfl rfl, mk_two rfl hM rfl rfl rfl (Nat.le_of_ble_eq_true rfl) rfl rfl, mk_add rfl hM rfl rfl rfl (Nat.le_of_ble_eq_true rfl) rfl rfl, st_loadEx (x := 4) rfl rfl rfl (Nat.le_of_ble_eq_true rfl) rfl rfl rfl, mk_num rfl hM rfl (Nat.le_of_ble_eq_true rfl) rfl rfl, mk_two rfl hM rfl rfl rfl (Nat.le_of_ble_eq_true rfl) rfl rfl, st_exs2 rfl hM rfl rfl rfl (Nat.le_of_ble_eq_true rfl) rfl rfl, st_buildEx rfl rfl rfl (Nat.le_of_ble_eq_true rfl) rfl rfl, st_allocEx (x := 5) rfl rfl (Nat.le_of_ble_eq_true rfl) rfl rfl rfl, st_storeEx (x := 5) rfl rfl rfl rfl rfl rfl (ex_agg3 _), trivial⟩ h3 fun a3 w3 h4 => ?rest3)
  simp only [Exit.then]
  replace h4 : Typed (bytesCx t0 S w) (· ∈ ([0, 1, 2, 6, 7, 8, 9, 10, 3, 11, 12, 13, 14, 15, 4, 16, 17, 18, 19, 20, 21, 22, 23, 24, 25, 5] : List Nat)) (· ∈ ([2, 3, 4, 6, 7, 8, 9, 10, 11] : List Nat)) a3 w3 := h4
  refine wp_seq (typed_region (c := bytesCx t0 S w) (by kernel_rfl) (by kernel_rfl) [0, 1, 2, 6, 7, 8, 9, 10, 3, 11, 12, 13, 14, 15, 4, 16, 17, 18, 19, 20, 21, 22, 23, 24, 25, 5] [2, 3, 4, 6, 7, 8, 9, 10, 11] [([5], [11], []), ([], [], []), ([26, 27], [], []), ([], [], []), ([28, 29], [], []), ([2, 30], [], [5])] (by kernel_rfl) ⟨st_loadEx (x := 5) rfl rfl rfl (Nat.le_of_ble_eq_true rfl) rfl rfl rfl, mk_num rfl hM rfl (Nat.le_of_ble_eq_true rfl) rfl rfl, mk_add rfl hM rfl rfl rfl (Nat.le_of_ble_eq_true rfl) rfl rfl, mk_num rfl hM rfl (Nat.le_of_ble_eq_true rfl) rfl rfl, mk_two rfl hM rfl rfl rfl (Nat.le_of_ble_eq_true rfl) rfl rfl, st_storeEx (x := 2) rfl rfl rfl rfl rfl rfl (ex_agg3 _), trivial⟩ h4 fun a4 w4 h5 => ?rest4)
  replace h5 : Typed (bytesCx t0 S w) (· ∈ ([0, 1, 2, 6, 7, 8, 9, 10, 3, 11, 12, 13, 14, 15, 4, 16, 17, 18, 19, 20, 21, 22, 23, 24, 25, 5, 26, 27, 28, 29, 30] : List Nat)) (· ∈ ([2, 3, 4, 6, 7, 8, 9, 10, 11, 5] : List Nat)) a4 w4 := h5
  obtain ⟨F, V, g, u0, u1, u2, e, c0, c1, c2, hv, hF, hb, hd, hp⟩ := typed_end3 h5 (p := 2) (x := 2) rfl (by decide) (by decide) rfl
  clear h5
  have he : a4.tmps[2]? = some (.pointer (some ⟨g, 0, none⟩)) := by rw [Array.getElem?_eq_getElem hp]; simpa [Array.getD, hp] using e
  refine wp_ret (bodyPost_ret (v := .agg #[u0, u1, u2]) (by simp [results, Try.results97, go_sem, he, c0, c1, c2]) hd ⟨_, rfl, ?_, hb⟩)
  exact Ex.at.mono hv fun b _ h => hF b h

theorem mk_bytes {c : Cx} (hP : c.P = Try.prog) (hN : ∀ b, c.w0.heap.size ≤ b → c.S b) {Q : Exit → Act → World → Prop} {o : Oper} {d : Nat} {tys : Array TypeId} {s0 : Ex} {x0 : Nat} (hx0 : c.ty x0 = AV.ex s0) (hd : o.dst = some d) (hdn : d < c.n)
    (ho : o.op = .call { callee := .value (.func 97), args := #[.tmp x0], argTypes := tys }) (hty : c.ty d = AV.ex (bytesX s0)) : StepOk c Q o [x0] [] [] := by
  refine st_call hN (by rw [hP]; exact Try.func97) (by kernel_rfl) (by kernel_rfl) hd hdn ho fun F V Dt Dv a w h ht => ?_
  have k0 : Ex.at F w s0 (a.tmps.getD x0 undef) := by have := h.tmp x0 (ht _ (by simp)); rw [hx0] at this; exact this
  have e : (#[.tmp x0] : Array Operand).map a.eval = #[a.tmps.getD x0 undef] := by simp [Act.eval]
  rw [e, hP, hty]
  refine (loBytes (withNew F w) s0 _ w (New.withNew F w) k0.inn).mono ?_
  rintro _ w' ⟨v, rfl, hv, hb⟩
  exact ⟨v, rfl, hv.outt, hb⟩


end Go.Proofs.Ytgohnekaolgblaa
