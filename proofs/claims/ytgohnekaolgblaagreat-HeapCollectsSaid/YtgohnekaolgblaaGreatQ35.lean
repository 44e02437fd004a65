/- gimletlaw29.HeapCollects: where a guard ends it (printed by wip/gen_hca.py). -/
import Derived.Test.YtgohnekaolgblaaGreatQ05
import Derived.Test.YtgohnekaolgblaaGreatQ31
import Derived.Test.YtgohnekaolgblaaGreatQ34
import Derived.Test.YtgohnekaolgblaaGreatQ23
import Derived.Test.YtgohnekaolgblaaGreatQ32
import Derived.Test.YtgohnekaolgblaaGreatQ33
namespace Go.Proofs.YtgohnekaolgblaaGreat
open Go.RowKit

set_option maxRecDepth 100000 in
set_option maxHeartbeats 1000000 in
theorem hcNo1 (A1 A2 : Option Addr) (c1 c2 : Nat) (st : Int) (sec : Bool) (ls rs : List Int) (w : World) (h : 500 < ls.length) :
    Calls Tryz.prog 3 #[.int .u32 st, .slice A1 ls.length c1, .slice A2 rs.length c2, .bool sec] w fun e w' => e = .returned (.bool true) ∧ Below w.heap.size w w' := by
  have AW := Lib.hid (hpAwake w)
  go_enter Tryz.func3, Tryz.ntmps3
  go_wp2_with fail
  refine AW.out.mono ?_
  rintro _ w1 ⟨rfl, b1⟩
  have BB := Lib.hid b1
  clear b1
  go_wp2_with fail
  go_returns
  exact ⟨rfl, BB.out⟩

set_option maxRecDepth 100000 in
set_option maxHeartbeats 1000000 in
theorem hcNo2 (A1 A2 : Option Addr) (c1 c2 : Nat) (st : Int) (sec : Bool) (ls rs : List Int) (w : World) (h1 : ¬ 500 < ls.length) (h : 100 < rs.length) :
    Calls Tryz.prog 3 #[.int .u32 st, .slice A1 ls.length c1, .slice A2 rs.length c2, .bool sec] w fun e w' => e = .returned (.bool true) ∧ Below w.heap.size w w' := by
  have AW := Lib.hid (hpAwake w)
  go_enter Tryz.func3, Tryz.ntmps3
  go_wp2_with fail
  refine AW.out.mono ?_
  rintro _ w1 ⟨rfl, b1⟩
  have BB := Lib.hid b1
  clear b1
  go_wp2_with fail
  go_returns
  exact ⟨rfl, BB.out⟩

set_option maxRecDepth 100000 in
set_option maxHeartbeats 1000000 in
theorem hcNo3 (A1 A2 : Option Addr) (c1 c2 : Nat) (st : Int) (sec : Bool) (ls rs : List Int) (w : World) (h1 : ¬ 500 < ls.length) (h2 : ¬ 100 < rs.length) (h : 1000 < st) :
    Calls Tryz.prog 3 #[.int .u32 st, .slice A1 ls.length c1, .slice A2 rs.length c2, .bool sec] w fun e w' => e = .returned (.bool true) ∧ Below w.heap.size w w' := by
  have AW := Lib.hid (hpAwake w)
  go_enter Tryz.func3, Tryz.ntmps3
  go_wp2_with fail
  refine AW.out.mono ?_
  rintro _ w1 ⟨rfl, b1⟩
  have BB := Lib.hid b1
  clear b1
  go_wp2_with fail
  go_returns
  exact ⟨rfl, BB.out⟩

set_option maxRecDepth 100000 in
set_option maxHeartbeats 1000000 in
theorem hcNo4 (A1 A2 : Option Addr) (c1 c2 : Nat) (st : Int) (sec : Bool) (ls rs : List Int) (w : World) (hl : Sees .u32 w (.slice A1 ls.length c1) ls) (hv : Sees .u32 w (.slice A2 rs.length c2) rs) (hr : ∀ x ∈ ls, 0 ≤ x ∧ x < 4294967296) (hrr : ∀ x ∈ rs, 0 ≤ x ∧ x < 4294967296) (h1 : ¬ 500 < ls.length) (h2 : ¬ 100 < rs.length) (h3 : ¬ 1000 < st) (h : Hp.chk ls 16 rs ≠ 0) :
    Calls Tryz.prog 3 #[.int .u32 st, .slice A1 ls.length c1, .slice A2 rs.length c2, .bool sec] w fun e w' => e = .returned (.bool true) ∧ Below w.heap.size w w' := by
  have CK := fun w' (hb : Below w.heap.size w w') => rhCheck _ _ ls rs 16 w' (hl.below hb (Nat.le_refl _)) (hv.below hb (Nat.le_refl _)) hr hrr (by omega) (by omega) (by omega)
  obtain ⟨q, hq⟩ : ∃ q, q = Hp.chk ls 16 rs := ⟨_, rfl⟩
  rw [← hq] at h CK
  replace CK := Lib.hid CK
  clear hl hv hr hrr hq
  have hb : (q != 0) = true := by simp [h]
  have AW := Lib.hid (hpAwake w)
  go_enter Tryz.func3, Tryz.ntmps3
  go_wp2_with fail
  refine AW.out.mono ?_
  rintro _ w1 ⟨rfl, b1⟩
  have BB := Lib.hid b1
  clear b1
  go_wp2_with fail
  refine (CK.out _ BB.out).mono ?_
  rintro _ w2 ⟨rfl, b2⟩
  replace BB := Lib.hid (BB.out.trans (b2.mono BB.out.size))
  clear b2
  go_wp2_with fail
  go_returns
  exact ⟨rfl, BB.out⟩

/-- lays, in either space. -/
theorem hcLays (sec : Bool) (w : World) (st : Int) (vl vr : Value) (ls rs : List Int) (h0 : 0 ≤ st) (h1 : st ≤ 1000) (hl : Sees .u32 w vl ls) (hv : Sees .u32 w vr rs) (hlr : ∀ x ∈ ls, 0 ≤ x ∧ x < 4294967296) (hrr : ∀ x ∈ rs, 0 ≤ x ∧ x < 4294967296) (hll : ls.length ≤ 500) (hrl : rs.length ≤ 100) :
    Calls Tryz.prog 6 #[.int .u32 st, vl, vr, .bool sec] w fun e w' => ∃ v, e = .returned v ∧ LaysEnd w (heapFns (Wd.stack st)) (Wd.stack st) (Wd.one 4 st) (Wd.one 4 st + Wd.space 4 st) (Wd.one 4 st + 2 * Wd.space 4 st) (if sec then Wd.one 4 st + Wd.space 4 st else Wd.one 4 st) ls rs v w' := by
  have hp : Wd.planOk 4 st := ⟨by decide, by decide, by omega⟩
  have l := pl_of st h0 h1 (Wd.one 4 st) (.inl rfl)
  have hPr := fun wr => loProgOk (fun b => wr.heap.size ≤ b) 4 st wr (fun _ h => h) h0 (by omega) hp ⟨by have := l.p1l; omega, by have := l.one; have := l.two; have := l.end_; have := l.hi; omega⟩
  have hPl := fun wr => refPlanAll 4 st wr h0 (by omega)
  rw [pair_ok 4 st hp] at hPl
  have hst : 16 ≤ Wd.stack st ∧ Wd.stack st + 400 ≤ Wd.one 4 st ∧ Wd.one 4 st + 2000 ≤ Wd.one 4 st + Wd.space 4 st ∧ Wd.one 4 st + Wd.space 4 st + 2000 ≤ 262144 := ⟨l.p1l, l.one, l.two, by have := l.end_; have := l.hi; omega⟩
  cases sec with
  | false => exact rlLaysF w st _ _ _ _ _ vl vr ls rs hPr hPl rfl hl hv hlr hrr hll hrl hst
  | true => exact rlLaysT w st _ _ _ _ _ vl vr ls rs hPr hPl rfl hl hv hlr hrr hll hrl hst

end Go.Proofs.YtgohnekaolgblaaGreat

/- gimletlaw29.HeapCollects: the walk. -/
namespace Go.Proofs.YtgohnekaolgblaaGreat
open Go.RowKit

theorem heapCollectsWalk (st : Int) (vl vr : Value) (sec : Bool) (ls rs : List Int) (w : World) (ks : (Lit.int .u32 st).wf = true) (hl : Sees .u32 w vl ls) (hlr : ∀ n ∈ ls, (Lit.int .u32 n).wf = true) (hv : Sees .u32 w vr rs) (hvr : ∀ n ∈ rs, (Lit.int .u32 n).wf = true) :
    Calls Tryz.prog 3 #[.int .u32 st, vl, vr, .bool sec] w fun e w' => e = .returned (.bool true) ∧ Below w.heap.size w w' := by
  have hst := wf_u32 ks
  have hr1 : ∀ x ∈ ls, 0 ≤ x ∧ x < 4294967296 := fun x hx => wf_u32 (hlr x hx)
  have hr2 : ∀ x ∈ rs, 0 ≤ x ∧ x < 4294967296 := fun x hx => wf_u32 (hvr x hx)
  obtain ⟨A1, c1, rfl, -, -⟩ := hl.len
  obtain ⟨A2, c2, rfl, -, -⟩ := hv.len
  by_cases h1 : 500 < ls.length
  · exact hcNo1 A1 A2 c1 c2 st sec ls rs w h1
  by_cases h2 : 100 < rs.length
  · exact hcNo2 A1 A2 c1 c2 st sec ls rs w h1 h2
  by_cases h3 : 1000 < st
  · exact hcNo3 A1 A2 c1 c2 st sec ls rs w h1 h2 h3
  by_cases hc : Hp.chk ls 16 rs = 0
  · obtain ⟨hs, ok⟩ := Hp.chk_ok hc
    refine hcYes A1 A2 c1 c2 st sec ls rs hs w _ _ _ _ _ (pl_of st hst.1 (by omega) (if sec then Wd.one 4 st + Wd.space 4 st else Wd.one 4 st) (by cases sec; exact .inl rfl; exact .inr rfl)) hl hv hr1 hr2 (by omega) (by omega) (by omega) hc ok fun wr vz b s => ?_
    exact hcLays sec wr st vz _ _ rs hst.1 (by omega) s (hv.below b (Nat.le_refl _)) (fun x hx => by rw [List.mem_replicate] at hx; omega) hr2 (by rw [List.length_replicate]; omega) (by omega)
  · exact hcNo4 A1 A2 c1 c2 st sec ls rs w hl hv hr1 hr2 h1 h2 h3 hc

end Go.Proofs.YtgohnekaolgblaaGreat
