/- The law NameBack: the walk. -/
import Derived.Test.YtdlfmchpaohoaaaDoorNmBackA
import Derived.Test.YtdlfmchpaohoaaaDoorNmBackB
import Derived.Test.YtdlfmchpaohoaaaDoorNmBackC
import Derived.Test.YtdlfmchpaohoaaaDoorNmBackD
namespace Go.Proofs.YtdlfmchpaohoaaaDoor
open Go.RowKit

theorem nameBack_small (v u : Value) (l xs zs : List Int) (w : World) (hv : Sees .i64 w v l) (hu : Sees .u8 w u zs) (hb : Byt xs) (hbz : Byt zs) (hT : Tabs w) (hl : l.length ≤ 500) (hm : xs.length ≤ 2000) (hz : zs.length ≤ 100) :
    Calls Tryd.prog 7 #[v, .string (str xs), u] w fun e w' => e = .returned (.bool true) ∧ Below w.heap.size w w' := by
  by_cases ha : l.all Nm.isRune = true
  · have hall := List.all_eq_true.1 ha
    rcases Nm.badAt_cases xs with hbad | ⟨a, hbad, _⟩
    · exact nameBack_a v u l xs zs w hv hu hb hbz hT hl hm hz hall hbad
    · exact nameBack_b v u l xs zs w hv hu hb hbz hT hl hm hz hall a hbad
  · have hof : Nm.ofRes l = ([], 5) := by unfold Nm.ofRes; rw [if_neg ha]
    rcases Nm.badAt_cases xs with hbad | ⟨a, hbad, _⟩
    · exact nameBack_c v u l xs zs w hv hu hb hbz hT hl hm hz hof hbad
    · exact nameBack_d v u l xs zs w hv hu hb hbz hT hl hm hz hof a hbad

theorem nameBack_big (v u : Value) (l xs zs : List Int) (w : World) (hv : Sees .i64 w v l) (hu : Sees .u8 w u zs) (hT : Tabs w) (h : 500 < l.length ∨ 2000 < xs.length ∨ 100 < zs.length) :
    Calls Tryd.prog 7 #[v, .string (str xs), u] w fun e w' => e = .returned (.bool true) ∧ Below w.heap.size w w' := by
  have hss := str_size xs
  obtain ⟨A, cap, rfl, _, _⟩ := hv.len
  obtain ⟨A', cap', rfl, _, _⟩ := hu.len
  have HT := Lib.hid hT
  clear hv hu hT
  by_cases h1 : 500 < (l.length : Int)
  · clear h
    go_enter Tryd.func7, Tryd.ntmps7
    go_wp2_with fail
    refine (awake02 _ HT.out).mono ?_
    rintro _ w1 ⟨rfl, b1⟩
    go_wp2_with fail
    go_returns
    exact ⟨rfl, b1⟩
  · by_cases h2 : 2000 < (xs.length : Int)
    · clear h
      go_enter Tryd.func7, Tryd.ntmps7
      go_wp2_with fail
      refine (awake02 _ HT.out).mono ?_
      rintro _ w1 ⟨rfl, b1⟩
      go_wp2_with fail
      go_returns
      exact ⟨rfl, b1⟩
    · have h3 : 100 < (zs.length : Int) := by omega
      clear h
      go_enter Tryd.func7, Tryd.ntmps7
      go_wp2_with fail
      refine (awake02 _ HT.out).mono ?_
      rintro _ w1 ⟨rfl, b1⟩
      go_wp2_with fail
      go_returns
      exact ⟨rfl, b1⟩

theorem nameBackWalk (a : Option Addr) (len cap : Nat) (zs : List Int) (s : ByteArray) (a' : Option Addr) (len' cap' : Nat) (zs' : List Int) (w : World) (hT : Tabs w) (h1 : IsRow .i64 w a len cap zs) (h2 : IsRow .u8 w a' len' cap' zs') :
    Calls Tryd.prog 7 #[.slice a len cap, .string s, .slice a' len' cap'] w fun e w' => e = .returned (.bool true) ∧ Below w.heap.size w w' := by
  obtain ⟨s1, l1, b1⟩ := h1.sees
  obtain ⟨s2, l2, b2⟩ := h2.sees
  rw [← str_bts s]
  by_cases h : (zs.take len).length ≤ 500 ∧ (bts s).length ≤ 2000 ∧ (zs'.take len').length ≤ 100
  · exact nameBack_small _ _ _ _ _ w s1 s2 (bts_byt s) (Byt.of_wf b2) hT h.1 h.2.1 h.2.2
  · exact nameBack_big _ _ _ _ _ w s1 s2 hT (by omega)

end Go.Proofs.YtdlfmchpaohoaaaDoor
