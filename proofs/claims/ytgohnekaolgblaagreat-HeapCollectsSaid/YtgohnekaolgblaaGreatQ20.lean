/- The document's machine is made: contract (gimletref28.New). -/
import Derived.Test.YtgohnekaolgblaaGreatQ19
namespace Go.Proofs.YtgohnekaolgblaaGreat
open Go.RowKit

/-- A machine ahead of its first step. -/
def St.start (gs : List Nat) (bs : List Int) (pages steps : Nat) : St := { L := Mm.lay [] 16 bs bs.length, N := pages, g := gs, own := [], out := [], left := steps, used := 0, told := 0, n := 0, deep := 0 }
theorem Mm.lay_mem {L : List (Int × Int)} {a : Int} {bs : List Int} : ∀ (k : Nat) (q : Int × Int), q ∈ Mm.lay L a bs k → q ∈ L ∨ ∃ j : Nat, j < k ∧ q.1 = a + j ∧ q.2 = bs.getD j 0
  | 0, q, h => .inl h
  | k + 1, q, h => by
    rcases Mm.set_mem h with rfl | h
    · exact .inr ⟨k, by omega, rfl, rfl⟩
    · rcases Mm.lay_mem k q h with h | ⟨j, h1, h2⟩
      · exact .inl h
      · exact .inr ⟨j, by omega, h2⟩
theorem St.start_ok {gs : List Nat} {bs : List Int} {pages steps : Nat} (hup : Mm.Up (Mm.lay [] 16 bs bs.length)) (hpg : pages ≤ 12) (hbs : 16 + bs.length ≤ pages * 65536) (hgl : gs.length ≤ 1000) (hgr : ∀ v ∈ gs, v < 4294967296) (hbr : ∀ x ∈ bs, 0 ≤ x ∧ x < 256) (hst : steps ≤ 1000000000) : (St.start gs bs pages steps).ok := by
  refine ⟨hup, fun q hq => ?_, fun q hq => ?_, hpg, hgr, hgl, fun v hv => (by cases hv), by simp [St.start], by simp [St.start], by simp only [St.start]; omega, by simp [St.start], by simp [St.start], by simp [St.start]⟩
  · rcases Mm.lay_mem _ q hq with h | ⟨j, h1, h2, h3⟩
    · cases h
    · simp only [St.start]
      omega
  · rcases Mm.lay_mem _ q hq with h | ⟨j, h1, h2, h3⟩
    · cases h
    · rw [h3, List.getD_eq_getElem?_getD, List.getElem?_eq_getElem h1]
      exact hbr _ (List.getElem_mem h1)

theorem MemAt.below4 {w w' : World} {B m : Nat} {N Most : Int} {sv : Value} {L : List (Int × Int)} (h : MemAt w B m N Most sv L) (b : Below w.heap.size w w') : MemAt w' B m N Most sv L := h.call b

set_option maxRecDepth 100000 in
set_option maxHeartbeats 2000000 in
theorem maNew (F : Nat → Prop) (fs : List Fx) (w : World) (vF vG vD : Value) (pages steps : Nat) (main : Int) (gs : List Nat) (bs : List Int) (hF : ∀ b, F b → b < w.heap.size) (hfs : FxL F w fs vF) (hG : Sees .u32 w vG (gs.map fun n : Nat => (n : Int))) (hD : Sees .u8 w vD bs) (hpg : pages ≤ 12) (hbs : 16 + bs.length ≤ pages * 65536) (hg0 : 0 < gs.length) (hgl : gs.length ≤ 1000) (hgr : ∀ v ∈ gs, v < 4294967296) (hbr : ∀ x ∈ bs, 0 ≤ x ∧ x < 256) (hst : steps ≤ 1000000000) :
    Calls Tryz.prog 31 #[.agg #[vF, vG, vD, .int .i64 (pages : Int), .int .i64 main], .slice none 0 0, .int .i64 (steps : Int)] w fun e w' => ∃ K : Mx, K.lo = w.heap.size ∧ e = .returned (.pointer (some ⟨K.x, 0, none⟩)) ∧ (∃ sv, MaAt F fs K w' sv (.slice none 0 0) (.slice none 0 0) (St.start gs bs pages steps)) ∧ Below w.heap.size w w' := by
  obtain ⟨AF, cF, rfl, -⟩ := id hfs
  obtain ⟨AG, cG, rfl, -, -⟩ := hG.len
  obtain ⟨AD, cD, rfl, -, -⟩ := hD.len
  rw [List.length_map] at hG ⊢
  obtain ⟨iC, hiC, hzC, hsC, hbC⟩ := info_parts3 (show (Tryz.prog.info? 22).map (fun i => (i.zero, i.size, i.bytes)) = some (some (.int .u32 0), 1, 4) by kernel_rfl)
  replace hiC := Lib.hid hiC
  replace hzC := Lib.hid hzC
  replace hsC := Lib.hid hsC
  replace hbC := Lib.hid hbC
  have hgl1 : (gs.map fun n : Nat => (n : Int)).length = gs.length := by simp
  have hgls := hgl1
  have hpw : IntKind.u32.wrap (pages : Int) = (pages : Int) := IntWalk.u32_in _ (by omega)
  have hfsH := Lib.hid hfs
  have hGH := Lib.hid hG
  have hDH := Lib.hid hD
  clear hfs hG hD
  replace hgl1 := Lib.hid hgl1
  replace hgls := Lib.hid hgls
  replace hgr := Lib.hid hgr
  replace hbr := Lib.hid hbr
  replace hF := Lib.hid hF
  go_enter Tryz.func31, Tryz.ntmps31
  go_wp2_with fail
  refine (mmNew _ _ (by omega)).mono ?_
  rintro _ w2 ⟨m, hm, rfl, M2, hsz2, b2⟩
  simp only [World.size_alloc] at hm
  have B2 : Below w.heap.size w w2 := by
    refine (B.alloc (B.refl w) _).trans (b2.mono ?_)
    simp
  have V2 := (VB.new w 30 #[.slice AF fs.length cF, .slice AG gs.length cG, .slice AD bs.length cD, .int .i64 (pages : Int), .int .i64 main]).call b2
  have hs2 := B2.size
  have y2 := V2.cell 2
  simp at y2
  have CW := Lib.hid (mmWrite w2 (m + 1) m pages 65536 (.slice none 0 0) [] 16 (.slice AD bs.length cD) bs M2 (fun wr hg => hDH.out.below (B2.trans ((hg.toBelow (B := m) (by omega) (fun k e => by rcases e with e | e; exact Nat.le_of_eq e.symm; cases e)).mono (by omega))) (Nat.le_refl _)) (by simp; omega) (by omega) (by omega) (by omega) (by omega))
  replace B2 := Lib.hid B2
  clear b2 M2
  go_wp2_with fail
  refine CW.out.mono ?_
  rintro _ w3 ⟨sv, rfl, M3, G3, N3⟩
  have b3 : Below m w2 w3 := G3.toBelow (B := m) (by omega) (fun k e => by rcases e with e | e; exact Nat.le_of_eq e.symm; cases e)
  have B3 : Below w.heap.size w w3 := B2.out.trans (b3.mono (by omega))
  have V3 := V2.below b3 (by omega)
  have hs3 := B3.size
  have hlt3 := V3.lt
  have hlt4 : w.heap.size ≠ w3.heap.size := by omega
  have hs23 := b3.size
  have z0 := V3.cell 0
  have z1 := V3.cell 1
  have z2 := V3.cell 2
  have z3 := V3.cell 3
  have z4 := V3.cell 4
  simp at z0 z1 z2 z3 z4
  have hG3 := Lib.hid (hGH.out.below B3 (Nat.le_refl _))
  replace B3 := Lib.hid B3
  replace M3 := Lib.hid M3
  replace V3 := Lib.hid V3
  clear CW G3 N3 b3 V2
  go_wp2_with fail
  go_region_law (refine step_app (B := w3.heap.size) (w0 := w3) Tryz.underlying23 hiC.out hzC.out hsC.out hbC.out rfl (.tmp 23) (.tmp 25) rfl (by simp [go_sem]) (by simp [go_sem]) (hG3.out.below (below_drew (B.alloc (B.refl w3) (.cells #[] 22))) (Nat.le_refl _)) (Owns.empty 22 .u32 w3) (below_drew (B.alloc (B.refl w3) (.cells #[] 22))) (by simp) (by rw [hgls.out]; simp only [List.length_nil]; omega) (by rw [hgls.out]; simp only [List.length_nil]; unfold maxLen; omega) ?_; intro v4 w4 own4 b4 l4 g4; obtain ⟨A4, k4, rfl, -, -⟩ := own4.sees.len; have V4 := V3.out.below b4 (by omega); have u0 := V4.cell 0; have u1 := V4.cell 1; have u2 := V4.cell 2; have u3 := V4.cell 3; have u4 := V4.cell 4; simp at u0 u1 u2 u3 u4)
  all_goals (
    have O4 : OwnW w4 w.heap.size (.slice A4 gs.length k4) gs := row_low (OwnW.owns.2 (by simpa [hgls.out] using own4)) B3.out.size
    obtain ⟨gb, gc, hA4, hgb1, hgb2, -⟩ := row_some O4 hg0
    simp only [Value.slice.injEq, true_and] at hA4
    obtain ⟨rfl, rfl⟩ := hA4
    have M4 := M3.out.below4 b4
    clear own4 g4 V4
    go_wp2_with fail
    go_returns
    have B4 : Below w.heap.size w w4 := B3.out.trans (b4.mono B3.out.size)
    have hs4 := B4.size
    refine ⟨⟨w.heap.size, w4.heap.size, m, gb, k4, .slice AF fs.length cF, .slice AG gs.length cG, .slice AD bs.length cD, .slice none 0 0, (pages : Int), main⟩, rfl, rfl, ⟨sv, ?_⟩, ?_⟩
    · exact ⟨VB.new w4 _ _, M4.call (B.alloc (B.refl w4) _), O4.below (B.alloc (B.refl w4) _), World.ownsRow_nil _ _ _ _, World.ownsRow_nil _ _ _ _, hfsH.out.below (B.alloc B4 _), hF.out, hs4, by simp only; omega, by simp [Value.ownBlock], St.start_ok M3.out.up hpg hbs hgl hgr.out hbr.out hst⟩
    · exact B.alloc B4 _)

end Go.Proofs.YtgohnekaolgblaaGreat
