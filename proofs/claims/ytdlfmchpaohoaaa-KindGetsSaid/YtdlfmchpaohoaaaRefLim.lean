/- gimletref04.GetLimits: its contract. -/
import Derived.Test.YtdlfmchpaohoaaaRefLimB
import Derived.Test.YtdlfmchpaohoaaaRefLimC
namespace Go.Proofs.Ytdlfmchpaohoaaa
open Go.RowKit

theorem refLim (v : Value) (bs : List Int) (at_ most : Int) (w : World) (hv : Sees .u8 w v bs) (hb : Byt bs) (hm : bs.length ≤ 140737488351232) :
    Calls Try.prog 25 #[v, .int .i64 at_, .int .u32 most] w fun e w' => e = .returned (tupL (Kind.limitsAt bs at_ most)) ∧ Below w.heap.size w w' := by
  rcases Kind.byteAt_cases bs at_ with ⟨h, hby⟩ | ⟨a, rfl, ha, hby⟩ | ⟨a, hl, rfl, hby⟩
  · have hr : Kind.limitsAt bs at_ most = (0, 0, 0, 0, 5, 0) := by unfold Kind.limitsAt; rw [if_pos h]
    rw [hr]; exact refLim_a v bs at_ most w hv hb hm 5 0 hby (by decide)
  · have hr : Kind.limitsAt bs a most = (0, 0, 0, 0, 4, (bs.length : Int)) := by unfold Kind.limitsAt; rw [if_neg (by omega), Int.toNat_natCast]; unfold Kind.limits; rw [List.getElem?_eq_none (by omega)]
    rw [hr]; exact refLim_a v bs a most w hv hb hm 4 _ hby (by decide)
  · have hr : Kind.limitsAt bs a most = Kind.limits bs a most := by unfold Kind.limitsAt; rw [if_neg (by omega), Int.toNat_natCast]
    rw [hr]
    have hget : bs[a]? = some bs[a] := List.getElem?_eq_getElem hl
    have hc0 := (hb _ (List.getElem_mem hl)).1
    generalize hcd : bs[a] = c at hby hget hc0
    by_cases hc1 : 1 < c
    · have hres : Kind.limits bs a most = (0, 0, 0, 0, 140, (a : Int)) := by unfold Kind.limits; rw [hget]; simp only [ne_eq]; rw [if_pos (by omega)]
      rw [hres]; exact refLim_b v bs a most w hv hb hm _ _ hby hc1
    · have hc01 : c = 0 ∨ c = 1 := by omega
      have hng : ¬ (c ≠ 0 ∧ c ≠ 1) := by omega
      rcases Kind.num_cases bs ((a + 1 : Nat) : Int) 0 most hb with ⟨x, q, hP, hG, -, hxm, -, -, -, -⟩ | ⟨e1, p1, hP, he1, hG | ⟨x, q, hG, hxr, rfl, rfl⟩⟩
      · have hnx : ¬ most < (x : Int) := by omega
        rcases hc01 with rfl | rfl
        · have hres : Kind.limits bs a most = ((x : Int), 0, 0, (q : Int), 0, 0) := by unfold Kind.limits; rw [hget]; simp only [hP]; simp
          rw [hres]; exact refLim_e v bs a most w hv hb hm _ hby _ _ hG hnx
        · rcases Kind.num_cases bs (q : Int) x most hb with ⟨y, r, hQ, hH, hxy, hym, -, -, -, -⟩ | ⟨e2, p2, hQ, he2, hH | ⟨y, r, hH, hyr, rfl, rfl⟩⟩
          · have hres : Kind.limits bs a most = ((x : Int), (y : Int), 1, (r : Int), 0, 0) := by unfold Kind.limits; rw [hget]; simp only [hP, hQ]; simp
            rw [hres]; exact refLim_i v bs a most w hv hb hm _ hby _ _ hG hnx _ _ hH (by omega) (by omega)
          · have hres : Kind.limits bs a most = (0, 0, 0, 0, e2, p2) := by unfold Kind.limits; rw [hget]; simp only [hP, hQ]; simp [he2]
            rw [hres]; exact refLim_f v bs a most w hv hb hm _ hby _ _ hG hnx e2 p2 hH he2
          · have hres : Kind.limits bs a most = (0, 0, 0, 0, 141, (q : Int)) := by unfold Kind.limits; rw [hget]; simp only [hP, hQ]; simp
            rw [hres]
            by_cases hy : most < y
            · exact refLim_g v bs a most w hv hb hm _ hby _ _ hG hnx _ _ hH hy
            · exact refLim_h v bs a most w hv hb hm _ hby _ _ hG hnx _ _ hH hy (by omega)
      · have hres : Kind.limits bs a most = (0, 0, 0, 0, e1, p1) := by unfold Kind.limits; rw [hget]; simp only; rw [if_neg hng]; simp only [hP]; simp [he1]
        rw [hres]; exact refLim_c v bs a most w hv hb hm c _ hby hc01 e1 p1 hG he1
      · have hx0 : 0 ≤ x := by
          rcases Leb.getU_cases bs ((a + 1 : Nat) : Int) hb with ⟨x', q', hg, x0, _⟩ | ⟨e0, p0, hg, he⟩
          · rw [hG] at hg; injection hg with h1 _; omega
          · rw [hG] at hg; injection hg with h1 _; omega
        have hres : Kind.limits bs a most = (0, 0, 0, 0, 141, ((a + 1 : Nat) : Int)) := by unfold Kind.limits; rw [hget]; simp only; rw [if_neg hng]; simp only [hP]; simp
        rw [hres]; exact refLim_d v bs a most w hv hb hm c _ hby hc01 _ _ hG (by omega)

end Go.Proofs.Ytdlfmchpaohoaaa
