/- word.Check: contract. -/
import Derived.Test.YtgohnekaolgblaaWdCheck
import Derived.Laws.EntriesVeiled
namespace Go.Proofs.Ytgohnekaolgblaa
open Go.RowKit

def Wd.chk (t : Tr) : Int := if 16384 < t.count ∨ 200 < t.deep then 141 else if t.fine = false then 2 else 0

set_option maxHeartbeats 1000000 in
theorem wdChk (t : Tr) (v : Value) (w : World) (ht : Tr.at (fun b _ => b < w.heap.size) w t v) (hcn : t.count ≤ 4611686018427387904) (hdp : t.deep ≤ 4611686018427387903) :
    Calls Try.prog 34 #[v] w fun e w' => e = .returned (.int .i64 (Wd.chk t)) ∧ Below w.heap.size w w' := by
  have hmf : ∀ (fn : Fn) (first cap : Array Value) (w : World), (Instr.makeFunc fn first cap).run Try.prog w = .ok (.func fn first cap) w := fun _ _ _ _ => rfl
  have HA := Lib.hid ht
  obtain ⟨A, cap, rfl, hl1, hl2, hl3⟩ := Tr.at_agg ht
  clear ht hl3
  unfold maxLen at hl2
  obtain ⟨r, hr⟩ : ∃ r, r = Wd.chk t := ⟨_, rfl⟩
  rw [← hr]
  have HR := Lib.hid hr; clear hr
  go_enter Try.func34, Try.ntmps34
  go_wp2_with fail
  have k1 := (((VB.new (w.alloc (.cells #[.int .i64 t.k, .int .i64 t.n, .string t.s, .slice A t.l.length cap] 58)) 3 #[.int .i64 0]).alloc (.cells #[.int .i64 0] 3)).alloc (.cells #[.bool true] 4)).alloc (.cells #[.func (.func 73) #[] #[.pointer (some ⟨w.heap.size + 1, 0, none⟩), .pointer (some ⟨w.heap.size + 1 + 1, 0, none⟩), .pointer (some ⟨w.heap.size + 1 + 1 + 1, 0, none⟩), .pointer (some ⟨w.heap.size + 1 + 1 + 1 + 1, 0, none⟩)]] 107)
  have k2 := ((VB.new ((w.alloc (.cells #[.int .i64 t.k, .int .i64 t.n, .string t.s, .slice A t.l.length cap] 58)).alloc (.cells #[.int .i64 0] 3)) 3 #[.int .i64 0]).alloc (.cells #[.bool true] 4)).alloc (.cells #[.func (.func 73) #[] #[.pointer (some ⟨w.heap.size + 1, 0, none⟩), .pointer (some ⟨w.heap.size + 1 + 1, 0, none⟩), .pointer (some ⟨w.heap.size + 1 + 1 + 1, 0, none⟩), .pointer (some ⟨w.heap.size + 1 + 1 + 1 + 1, 0, none⟩)]] 107)
  have k3 := (VB.new (((w.alloc (.cells #[.int .i64 t.k, .int .i64 t.n, .string t.s, .slice A t.l.length cap] 58)).alloc (.cells #[.int .i64 0] 3)).alloc (.cells #[.int .i64 0] 3)) 4 #[.bool true]).alloc (.cells #[.func (.func 73) #[] #[.pointer (some ⟨w.heap.size + 1, 0, none⟩), .pointer (some ⟨w.heap.size + 1 + 1, 0, none⟩), .pointer (some ⟨w.heap.size + 1 + 1 + 1, 0, none⟩), .pointer (some ⟨w.heap.size + 1 + 1 + 1 + 1, 0, none⟩)]] 107)
  have k4 := VB.new ((((w.alloc (.cells #[.int .i64 t.k, .int .i64 t.n, .string t.s, .slice A t.l.length cap] 58)).alloc (.cells #[.int .i64 0] 3)).alloc (.cells #[.int .i64 0] 3)).alloc (.cells #[.bool true] 4)) 107 #[.func (.func 73) #[] #[.pointer (some ⟨w.heap.size + 1, 0, none⟩), .pointer (some ⟨w.heap.size + 1 + 1, 0, none⟩), .pointer (some ⟨w.heap.size + 1 + 1 + 1, 0, none⟩), .pointer (some ⟨w.heap.size + 1 + 1 + 1 + 1, 0, none⟩)]]
  simp only [World.size_alloc] at k1 k2 k3 k4
  refine (wdCheck1 t w.heap.size _ _ 1 0 0 true _ _ _ _ 107 (Tr.at_alloc (Tr.at_alloc (Tr.at_alloc (Tr.at_alloc (Tr.at_alloc HA.out _) _) _) _) _) ⟨k1, k2, k3, k4, ⟨by omega, by omega, by omega⟩, by omega⟩ (by simp; omega) (by omega) (by omega) (by omega) (by omega)).mono ?_
  rintro _ w1 ⟨rfl, g1, c1⟩
  clear k1 k2 k3 k4
  have a1 := c1.hn.cell 0
  have a2 := c1.hm.cell 0
  have a3 := c1.hf.cell 0
  simp at a1 a2 a3
  have BW : Below w.heap.size w w1 := (B.alloc (B.alloc (B.alloc (B.alloc (B.alloc (B.refl w) _) _) _) _) _).trans (g1.toBelow (B := w.heap.size) (by simp; omega) (fun k hk => by omega))
  have HB := Lib.hid BW
  clear BW g1 c1
  obtain ⟨cn, hcn'⟩ : ∃ c : Nat, c = t.count := ⟨_, rfl⟩
  obtain ⟨dp, hdp'⟩ : ∃ c : Nat, c = t.deep := ⟨_, rfl⟩
  obtain ⟨fi, hfi'⟩ : ∃ c : Bool, c = t.fine := ⟨_, rfl⟩
  have hr := HR.out; clear HR
  unfold Wd.chk at hr
  rw [← hcn'] at a1 hcn hr
  rw [← hdp'] at a2 hdp hr
  rw [← hfi'] at a3 hr
  rw [show max 0 (1 + (dp : Int) - 1) = dp by omega] at a2
  clear hcn' hdp' hfi'
  go_wp2_with fail
  all_goals go_returns
  all_goals refine ⟨?_, HB.out⟩
  all_goals congr 2
  all_goals rw [hr]
  all_goals simp_all
  all_goals omega

end Go.Proofs.Ytgohnekaolgblaa
