/- The law KindBack: the walk. -/
import Derived.Test.YtdlfmchpaohoaaaKindBackA
import Derived.Test.YtdlfmchpaohoaaaKindBackB
import Derived.Test.YtdlfmchpaohoaaaKindBackC
import Derived.Test.YtdlfmchpaohoaaaKindBackD
namespace Go.Proofs.Ytdlfmchpaohoaaa
open Go.RowKit

theorem kindBack_small (v : Value) (bs : List Int) (p r mn mx most : Int) (c : Bool) (w : World) (hv : Sees .u8 w v bs) (hb : Byt bs) (hm : bs.length ≤ 100) (hb0 : 0 ≤ mn) (hb1 : mn < 4294967296) (hb2 : 0 ≤ mx) (hb3 : mx < 4294967296) :
    Calls Try.prog 10 #[.agg #[.int .i64 p, .int .i64 r], .agg #[.int .u32 mn, .int .u32 mx, .bool c], .int .u32 most, v] w fun e w' => e = .returned (.bool true) ∧ Below w.heap.size w w' := by
  obtain ⟨x, y, q, e1, q1, hG, hX⟩ : ∃ x y q e1 q1 : Int, Kind.getAt bs 0 = (x, y, q, e1, q1) ∧ ((e1 = 0 ∧ Kind.chk x y = 0 ∧ ((Kind.put x y).length : Int) ≤ q) ∨ ¬ e1 = 0) := by
    rcases Kind.getAt_put bs hb with ⟨x, y, q, h, h1, h2⟩ | ⟨e, p, h, he⟩
    · exact ⟨x, y, q, 0, 0, h, .inl ⟨rfl, h1, h2⟩⟩
    · exact ⟨0, 0, 0, e, p, h, .inr he⟩
  obtain ⟨x2, y2, c2, q2, e2, p2, hL, hx0, hx1, hy0, hy1, hY⟩ : ∃ x2 y2 c2 q2 e2 p2 : Int, Kind.limitsAt bs 0 most = (x2, y2, c2, q2, e2, p2) ∧ 0 ≤ x2 ∧ x2 < 4294967296 ∧ 0 ≤ y2 ∧ y2 < 4294967296 ∧
      ((e2 = 0 ∧ Kind.lim x2 y2 (decide (c2 = 1)) most = 0 ∧ ((Kind.putLim x2 y2 (decide (c2 = 1)) most).length : Int) ≤ q2) ∨ ¬ e2 = 0) := by
    rcases Kind.limitsAt_put bs most hb with ⟨x, y, c, q, h, h0, h1, h2, h3, h4, h5⟩ | ⟨e, p, h, he⟩
    · exact ⟨x, y, c, q, 0, 0, h, h0, h1, h2, h3, .inl ⟨rfl, h4, h5⟩⟩
    · exact ⟨0, 0, 0, 0, e, p, h, by omega, by omega, by omega, by omega, .inr he⟩
  rcases (Kind.chk_cases p r).imp (fun h => h.1) id with h | h <;> rcases Kind.lim_cases mn mx c most with k | k
  · exact kindBack_a v bs p r mn mx most c w hv hb hm hb0 hb1 hb2 hb3 h k x y q e1 q1 hG hX x2 y2 c2 q2 e2 p2 hL hx0 hx1 hy0 hy1 hY
  · exact kindBack_b v bs p r mn mx most c w hv hb hm hb0 hb1 hb2 hb3 h k x y q e1 q1 hG hX x2 y2 c2 q2 e2 p2 hL hx0 hx1 hy0 hy1 hY
  · exact kindBack_c v bs p r mn mx most c w hv hb hm hb0 hb1 hb2 hb3 h k x y q e1 q1 hG hX x2 y2 c2 q2 e2 p2 hL hx0 hx1 hy0 hy1 hY
  · exact kindBack_d v bs p r mn mx most c w hv hb hm hb0 hb1 hb2 hb3 h k x y q e1 q1 hG hX x2 y2 c2 q2 e2 p2 hL hx0 hx1 hy0 hy1 hY

theorem kindBack_big (v : Value) (bs : List Int) (p r mn mx most : Int) (c : Bool) (w : World) (hv : Sees .u8 w v bs) (hm : 100 < bs.length) :
    Calls Try.prog 10 #[.agg #[.int .i64 p, .int .i64 r], .agg #[.int .u32 mn, .int .u32 mx, .bool c], .int .u32 most, v] w fun e w' => e = .returned (.bool true) ∧ Below w.heap.size w w' := by
  have hla : 100 < (bs.length : Int) := by omega
  obtain ⟨A, cap, rfl, _, _⟩ := hv.len
  clear hv
  go_enter Try.func10, Try.ntmps10
  go_wp2_with fail
  refine (awake04 _).mono ?_
  rintro _ w1 ⟨rfl, b1⟩
  go_wp2_with fail
  go_returns
  exact ⟨rfl, B.call (B.alloc (B.alloc (B.refl w) _) _) b1⟩

theorem kindBackWalk (p r mn mx : Int) (c : Bool) (most : Int) (a : Option Addr) (len cap : Nat) (zs : List Int) (w : World) (_h1 : (Lit.int .i64 p).wf = true) (_h2 : (Lit.int .i64 r).wf = true) (h3 : (Lit.int .u32 mn).wf = true) (h4 : (Lit.int .u32 mx).wf = true) (_h5 : (Lit.int .u32 most).wf = true) (h6 : IsRow .u8 w a len cap zs) (_hr : cap * 1 ≤ 140737488351232) :
    Calls Try.prog 10 #[.agg #[.int .i64 p, .int .i64 r], .agg #[.int .u32 mn, .int .u32 mx, .bool c], .int .u32 most, .slice a len cap] w fun e w' => e = .returned (.bool true) ∧ Below w.heap.size w w' := by
  obtain ⟨s1, l1, b1⟩ := h6.sees
  by_cases h : (zs.take len).length ≤ 100
  · exact kindBack_small _ _ p r mn mx most c w s1 (Byt.of_wf b1) h (wf_u32 h3).1 (wf_u32 h3).2 (wf_u32 h4).1 (wf_u32 h4).2
  · exact kindBack_big _ _ p r mn mx most c w s1 (by omega)

end Go.Proofs.Ytdlfmchpaohoaaa
