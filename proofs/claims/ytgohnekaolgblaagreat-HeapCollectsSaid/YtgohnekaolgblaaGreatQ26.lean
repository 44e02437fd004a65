/- gimletlaw29.withHeap: contract. -/
import Derived.Test.YtgohnekaolgblaaGreatQ25
import Derived.Test.YtgohnekaolgblaaGreatQ12
import Derived.Test.YtgohnekaolgblaaGreatQ10
import Derived.Test.YtgohnekaolgblaaGreatQ04
namespace Go.Proofs.YtgohnekaolgblaaGreat
open Go.RowKit

/-- Words are laid as bytes, one behind the other. -/
def putWs (bs : List Int) (p : Nat) : List Int → List Int
  | [] => bs
  | x :: l => putWs (putN bs p x 4) (p + 4) l
theorem putWs_length : ∀ (l : List Int) (bs : List Int) (p : Nat), (putWs bs p l).length = bs.length
  | [], _, _ => rfl
  | x :: l, bs, p => by rw [putWs, putWs_length l, putN_length]
theorem putWs_snoc : ∀ (l : List Int) (bs : List Int) (p : Nat) (x : Int), putWs bs p (l ++ [x]) = putN (putWs bs p l) (p + 4 * l.length) x 4
  | [], bs, p, x => by simp [putWs]
  | y :: l, bs, p, x => by
    rw [List.cons_append, putWs, putWs_snoc l, putWs, List.length_cons, show p + 4 + 4 * l.length = p + 4 * (l.length + 1) by omega]
theorem putWs_take (bs : List Int) (p : Nat) (ls : List Int) (i : Nat) (hi : i < ls.length) : putWs bs p (ls.take (i + 1)) = putN (putWs bs p (ls.take i)) (p + 4 * i) ls[i] 4 := by
  rw [List.take_add_one, List.getElem?_eq_getElem hi]
  have := putWs_snoc (ls.take i) bs p ls[i]
  rw [List.length_take, Nat.min_eq_left (by omega)] at this
  exact this

theorem putN_range {bs : List Int} {p : Nat} {x : Int} (h : ∀ y ∈ bs, 0 ≤ y ∧ y < 256) : ∀ k, ∀ y ∈ putN bs p x k, 0 ≤ y ∧ y < 256
  | 0 => h
  | k + 1 => fun y hy => by
    rcases List.mem_or_eq_of_mem_set hy with hy | rfl
    · exact putN_range h k y hy
    · exact ⟨Int.emod_nonneg _ (by decide), Int.emod_lt_of_pos _ (by decide)⟩
theorem putWs_range : ∀ (l : List Int) (bs : List Int) (p : Nat), (∀ y ∈ bs, 0 ≤ y ∧ y < 256) → ∀ y ∈ putWs bs p l, 0 ≤ y ∧ y < 256
  | [], _, _, h => h
  | _ :: l, _, _, h => putWs_range l _ _ (putN_range h 4)

set_option maxRecDepth 100000 in
set_option maxHeartbeats 1000000 in
theorem rlWithHeap (w : World) (AF AG Al As : Option Addr) (nF cF nG cG cl nS cS gD cD : Nat) (bs ws : List Int) (pages main p0 p1 p2 p3 p4 at_ : Int) (q lo : Nat) (hD : Owns 5 .u8 lo w (.slice (some ⟨gD, 0, none⟩) bs.length cD) bs) (hat : at_ = 16 + (q : Int)) (hfit : q + 4 * ws.length ≤ bs.length) (hb : bs.length ≤ 1000000) (hr : ∀ x ∈ ws, 0 ≤ x ∧ x < 4294967296)
    (hws : ∀ wr, GrowS (fun k => k = gD) w wr → Sees .u32 wr (.slice Al ws.length cl) ws) :
    Calls Tryz.prog 9 #[.agg #[.slice AF nF cF, .slice AG nG cG, .slice (some ⟨gD, 0, none⟩) bs.length cD, .int .i64 pages, .int .i64 main], .agg #[.int .u32 p0, .int .u32 p1, .int .u32 p2, .int .u32 p3, .int .u32 p4, .slice Al ws.length cl, .int .u32 at_, .slice As nS cS]] w fun e w' => e = .returned (.agg #[.slice AF nF cF, .slice AG nG cG, .slice (some ⟨gD, 0, none⟩) bs.length cD, .int .i64 pages, .int .i64 main]) ∧ Owns 5 .u8 lo w' (.slice (some ⟨gD, 0, none⟩) bs.length cD) (putWs bs q ws) ∧ GrowS (fun k => k = gD) w w' := by
  subst hat
  have hgD := (hD.lt gD rfl).2
  have hwl : ws.length ≤ 250000 := by omega
  have hwlI : (ws.length : Int) ≤ 250000 := by omega
  have hqI : (q : Int) + 4 * (ws.length : Int) ≤ 1000000 := by omega
  have G1 := ((GrowS.refl (fun k => k = gD) w).alloc (.cells #[.slice AF nF cF, .slice AG nG cG, .slice (some ⟨gD, 0, none⟩) bs.length cD, .int .i64 pages, .int .i64 main] 30))
  have V1 := VB.new w 30 #[.slice AF nF cF, .slice AG nG cG, .slice (some ⟨gD, 0, none⟩) bs.length cD, .int .i64 pages, .int .i64 main]
  have D1 := hD.alloc (.cells #[.slice AF nF cF, .slice AG nG cG, .slice (some ⟨gD, 0, none⟩) bs.length cD, .int .i64 pages, .int .i64 main] 30)
  obtain ⟨w1, hw1⟩ : ∃ w1, w1 = w.alloc (.cells #[.slice AF nF cF, .slice AG nG cG, .slice (some ⟨gD, 0, none⟩) bs.length cD, .int .i64 pages, .int .i64 main] 30) := ⟨_, rfl⟩
  have hz1 : w1.heap.size = w.heap.size + 1 := by rw [hw1]; simp
  rw [← hw1] at G1 V1 D1
  have G2 := G1.alloc (.cells #[.int .u32 p0, .int .u32 p1, .int .u32 p2, .int .u32 p3, .int .u32 p4, .slice Al ws.length cl, .int .u32 (16 + (q : Int)), .slice As nS cS] 34)
  have V2 := V1.alloc (.cells #[.int .u32 p0, .int .u32 p1, .int .u32 p2, .int .u32 p3, .int .u32 p4, .slice Al ws.length cl, .int .u32 (16 + (q : Int)), .slice As nS cS] 34)
  have R2 := VB.new w1 34 #[.int .u32 p0, .int .u32 p1, .int .u32 p2, .int .u32 p3, .int .u32 p4, .slice Al ws.length cl, .int .u32 (16 + (q : Int)), .slice As nS cS]
  have D2 := D1.alloc (.cells #[.int .u32 p0, .int .u32 p1, .int .u32 p2, .int .u32 p3, .int .u32 p4, .slice Al ws.length cl, .int .u32 (16 + (q : Int)), .slice As nS cS] 34)
  obtain ⟨w2, hw2⟩ : ∃ w2, w2 = w1.alloc (.cells #[.int .u32 p0, .int .u32 p1, .int .u32 p2, .int .u32 p3, .int .u32 p4, .slice Al ws.length cl, .int .u32 (16 + (q : Int)), .slice As nS cS] 34) := ⟨_, rfl⟩
  have hz2 : w2.heap.size = w.heap.size + 1 + 1 := by rw [hw2]; simp [hz1]
  rw [← hw2] at G2 V2 R2 D2
  rw [hz1] at R2
  replace hD := Lib.hid hD
  replace hws := Lib.hid hws
  replace hr := Lib.hid hr
  replace V2 := Lib.hid V2
  replace R2 := Lib.hid R2
  replace D2 := Lib.hid D2
  replace G2 := Lib.hid G2
  clear G1 V1 D1
  go_enter Tryz.func9, Tryz.ntmps9
  go_wp2_with fail
  rw [← hw1, ← hw2]
  have G3 := Lib.hid (G2.out.alloc (.cells #[.slice none 0 0, .slice none 0 0, .slice none 0 0, .int .i64 0, .int .i64 0] 30))
  have V3 := Lib.hid (V2.out.alloc (.cells #[.slice none 0 0, .slice none 0 0, .slice none 0 0, .int .i64 0, .int .i64 0] 30))
  have R3 := Lib.hid (R2.out.alloc (.cells #[.slice none 0 0, .slice none 0 0, .slice none 0 0, .int .i64 0, .int .i64 0] 30))
  have D3 := Lib.hid (D2.out.alloc (.cells #[.slice none 0 0, .slice none 0 0, .slice none 0 0, .int .i64 0, .int .i64 0] 30))
  have U3 := VB.new w2 30 #[.slice none 0 0, .slice none 0 0, .slice none 0 0, .int .i64 0, .int .i64 0]
  rw [hz2] at U3
  obtain ⟨w3, hw3⟩ : ∃ w3, w3 = w2.alloc (.cells #[.slice none 0 0, .slice none 0 0, .slice none 0 0, .int .i64 0, .int .i64 0] 30) := ⟨_, rfl⟩
  have hz3 : w3.heap.size = w.heap.size + 3 := by rw [hw3]; simp [hz2]
  rw [← hw3] at G3 V3 R3 D3 U3 ⊢
  replace U3 := Lib.hid U3
  clear hw1 hw2 hw3 V2 R2 D2 G2 hz1 hz2
  go_loopw [5] (fun p wr => ∃ (i : Nat), p = .int .i64 (i : Int) ∧ i ≤ ws.length ∧ Owns 5 .u8 lo wr (.slice (some ⟨gD, 0, none⟩) bs.length cD) (putWs bs q (ws.take i)) ∧ GrowS (fun k => k = gD) w3 wr)
    (fun p _ => ws.length - (intOf p).toNat)
  case atStart => exact ⟨0, rfl, by omega, D3.out, GrowS.refl _ _⟩
  case round =>
    obtain ⟨i, rfl, hi, hown, hg⟩ := hrel
    have hsz := hg.size
    have Vr := hg.vb V3.out (by omega)
    have Rr := hg.vb R3.out (by omega)
    have Ur := hg.vb U3.out (by omega)
    have v2 := Vr.cell 2
    have r5 := Rr.cell 5
    have r6 := Rr.cell 6
    simp at v2 r5 r6
    by_cases hil : i < ws.length
    · obtain ⟨A', c', he, -, -, h3⟩ := hws.out wr (G3.out.trans hg)
      simp only [Value.slice.injEq] at he
      obtain ⟨rfl, -, rfl⟩ := he
      obtain ⟨b, off, rfl, hc⟩ := h3 (by intro e; subst e; simp at hil)
      have hci := hc i hil
      have hri := hr.out _ (List.getElem_mem hil)
      have htk := putWs_take bs q ws i hil
      obtain ⟨x, hx⟩ : ∃ x, x = ws[i] := ⟨_, rfl⟩
      rw [← hx] at hci hri htk
      have hlen : (putWs bs q (ws.take i)).length = bs.length := putWs_length _ _ _
      have hw1 : IntKind.u32.wrap (16 + (q : Int) + IntKind.u32.wrap (4 * IntKind.u32.wrap (i : Int))) = 16 + (q : Int) + 4 * (i : Int) := by
        rw [IntWalk.u32_in (i : Int) (by omega), IntWalk.u32_in (4 * (i : Int)) (by omega), IntWalk.u32_in _ (by omega)]
      have hC : ∀ wx, wx = wr ∨ wx = wr.drew → Calls Tryz.prog 26 #[.slice (some ⟨gD, 0, none⟩) bs.length cD, .int .u32 (IntKind.u32.wrap (16 + (q : Int) + IntKind.u32.wrap (4 * IntKind.u32.wrap (i : Int)))), .int .u32 x] wx fun e w' => e = .returned (.tuple #[]) ∧ Owns 5 .u8 lo w' (.slice (some ⟨gD, 0, none⟩) bs.length cD) (putWs bs q (ws.take (i + 1))) ∧ GrowS (fun k => k = gD) w3 w' := by
        intro wx hwx
        rw [hw1]
        have hwx2 : Owns 5 .u8 lo wx (.slice (some ⟨gD, 0, none⟩) bs.length cD) (putWs bs q (ws.take i)) ∧ GrowS (fun k => k = gD) w3 wx := by
          rcases hwx with rfl | rfl
          · exact ⟨hown, hg⟩
          · exact ⟨hown, hg.drew⟩
        refine (rlPut _ _ (16 + (q : Int) + 4 * (i : Int)) x (q + 4 * i) lo wx hwx2.1 (by omega) (by rw [hlen]; omega) (by rw [hlen]; exact hb) hri).mono ?_
        rintro _ w' ⟨rfl, o, g⟩
        refine ⟨rfl, by rw [htk]; exact o, hwx2.2.trans (g.mono fun k _ e => ?_)⟩
        simp only [Value.ownBlock, Option.some.injEq] at e
        exact e.symm
      have hilI : (i : Int) < (ws.length : Int) := by omega
      replace hC := Lib.hid hC
      clear hc h3 hx htk hlen hown hg Vr Rr Ur hw1
      go_wp2_with fail
      go_region_law (go_simp; go_at_call 26; with_reducible refine (hC.out _ (by first | exact .inl rfl | exact .inr rfl)).mono ?_; rintro _ w6 ⟨rfl, o6, g6⟩; replace o6 := Lib.hid o6; replace g6 := Lib.hid g6)
      all_goals go_wp2_with fail
      all_goals first
        | exact ⟨⟨i + 1, by rw [show ((i + 1 : Nat) : Int) = (i : Int) + 1 by omega], by omega, o6.out, g6.out⟩, by simp only [intOf]; omega⟩
        | exact ⟨⟨i + 1, by rw [show ((i + 1 : Nat) : Int) = (i : Int) + 1 by omega], by omega, o6.out, g6.out.drew⟩, by simp only [intOf]; omega⟩
    · obtain rfl : i = ws.length := by omega
      rw [List.take_of_length_le (Nat.le_refl _)] at hown
      have v0 := Vr.cell 0
      have v1 := Vr.cell 1
      have v3 := Vr.cell 3
      have v4 := Vr.cell 4
      simp at v0 v1 v3 v4
      have u0 := Ur.cell 0
      have u1 := Ur.cell 1
      have u2 := Ur.cell 2
      have u3 := Ur.cell 3
      have u4 := Ur.cell 4
      simp at u0 u1 u2 u3 u4
      have q0 := Ur.free 0
      have q1 := Ur.free 1
      have q2 := Ur.free 2
      have q3 := Ur.free 3
      have q4 := Ur.free 4
      have ul := Ur.lt
      replace Ur := Lib.hid Ur
      replace hown := Lib.hid hown
      replace hg := Lib.hid hg
      clear Vr Rr
      go_wp2_with fail
      have U7 := Ur.out.set5 (.slice AF nF cF) (.slice AG nG cG) (.slice (some ⟨gD, 0, none⟩) bs.length cD) (.int .i64 pages) (.int .i64 main)
      have t0 := U7.cell 0
      have t1 := U7.cell 1
      have t2 := U7.cell 2
      have t3 := U7.cell 3
      have t4 := U7.cell 4
      simp at t0 t1 t2 t3 t4
      refine bodyPost_ret (v := .agg #[.slice AF nF cF, .slice AG nG cG, .slice (some ⟨gD, 0, none⟩) bs.length cD, .int .i64 pages, .int .i64 main]) (by simp [results, Tryz.results9, go_sem, t0, t1, t2, t3, t4]) rfl ⟨rfl, ?_, ?_⟩
      · refine row_keep hown.out fun g hg' => ?_
        simp only [Value.ownBlock, Option.some.injEq] at hg'
        subst hg'
        have hb : gD ≠ w.heap.size + 1 + 1 := by omega
        exact (Below.heap_setCell _ ⟨w.heap.size + 1 + 1, 4, none⟩ _ gD hb).trans ((Below.heap_setCell _ ⟨w.heap.size + 1 + 1, 3, none⟩ _ gD hb).trans ((Below.heap_setCell _ ⟨w.heap.size + 1 + 1, 2, none⟩ _ gD hb).trans ((Below.heap_setCell _ ⟨w.heap.size + 1 + 1, 1, none⟩ _ gD hb).trans (Below.heap_setCell _ ⟨w.heap.size + 1 + 1, 0, none⟩ _ gD hb))))
      · exact (((((G3.out.trans hg.out).setNew (by omega) _).setNew (by omega) _).setNew (by omega) _).setNew (by omega) _).setNew (by omega) _

end Go.Proofs.YtgohnekaolgblaaGreat

/- Words of a memory; how what is done is followed, thing by thing: plain. -/
namespace Go.Proofs.YtgohnekaolgblaaGreat

theorem Mm.up_put {L : List (Int × Int)} (h : Mm.Up L) (a v : Int) : ∀ k, Mm.Up (Mm.put L a v k)
  | 0 => h
  | k + 1 => Mm.up_set (Mm.up_put h a v k)
theorem Mm.get_put {L : List (Int × Int)} (h : Mm.Up L) (a v x : Int) : ∀ n : Nat, Mm.get (Mm.put L a v n) x = if a ≤ x ∧ x < a + n then v / 256 ^ (x - a).toNat % 256 else Mm.get L x
  | 0 => by rw [if_neg (by omega)]; rfl
  | n + 1 => by
    rw [Mm.put, Mm.get_set (Mm.up_put h a v n), Mm.get_put h a v x n]
    by_cases hx : x = a + n
    · subst hx
      rw [if_pos rfl, if_pos (by omega), show (a + (n : Int) - a).toNat = n by omega]
    · rw [if_neg hx]
      by_cases h2 : a ≤ x ∧ x < a + n
      · rw [if_pos h2, if_pos (by omega)]
      · rw [if_neg h2, if_neg (by omega)]
theorem Mm.byt_put {L : List (Int × Int)} (h : Mm.Byt L) (a v : Int) : ∀ k, Mm.Byt (Mm.put L a v k)
  | 0 => h
  | k + 1 => fun q hq => by
    rcases Mm.set_mem hq with rfl | hq
    · exact ⟨Int.emod_nonneg _ (by decide), Int.emod_lt_of_pos _ (by decide)⟩
    · exact Mm.byt_put h a v k q hq

/-- The memory's words. -/
structure Mw (L : List (Int × Int)) (M : Nat → Nat) : Prop where
  up : Mm.Up L
  byt : Mm.Byt L
  word : ∀ k : Nat, Mm.word L (4 * (k : Int)) = (M k : Int)
def upd (M : Nat → Nat) (k v : Nat) : Nat → Nat := fun j => if j = k then v else M j
theorem upd_same (M : Nat → Nat) (k v : Nat) : upd M k v k = v := if_pos rfl
theorem upd_other {M : Nat → Nat} {k v j : Nat} (h : j ≠ k) : upd M k v j = M j := if_neg h
theorem Mw.lt {L : List (Int × Int)} {M : Nat → Nat} (h : Mw L M) (k : Nat) : M k < 4294967296 := by
  have := Mm.word_lt h.byt (4 * (k : Int))
  rw [h.word k] at this
  omega
theorem Mw.put {L : List (Int × Int)} {M : Nat → Nat} (h : Mw L M) (k v : Nat) (hv : v < 4294967296) : Mw (Mm.put L (4 * (k : Int)) (v : Int) 4) (upd M k v) := by
  refine ⟨Mm.up_put h.up _ _ _, Mm.byt_put h.byt _ _ _, fun j => ?_⟩
  have g := fun x => Mm.get_put h.up (4 * (k : Int)) (v : Int) x 4
  unfold Mm.word upd
  rw [g, g, g, g]
  by_cases hj : j = k
  · subst hj
    rw [if_pos (by omega), if_pos (by omega), if_pos (by omega), if_pos (by omega), if_pos rfl]
    rw [show (4 * (j : Int) - 4 * (j : Int)).toNat = 0 by omega, show (4 * (j : Int) + 1 - 4 * (j : Int)).toNat = 1 by omega, show (4 * (j : Int) + 2 - 4 * (j : Int)).toNat = 2 by omega, show (4 * (j : Int) + 3 - 4 * (j : Int)).toNat = 3 by omega]
    simp only [show (256 : Int) ^ 0 = 1 from rfl, show (256 : Int) ^ 1 = 256 from rfl, show (256 : Int) ^ 2 = 65536 from rfl, show (256 : Int) ^ 3 = 16777216 from rfl]
    omega
  · rw [if_neg (by omega), if_neg (by omega), if_neg (by omega), if_neg (by omega), if_neg hj]
    have := h.word j
    unfold Mm.word at this
    exact this

/-- Deeper is no less. -/
theorem Runs.more {fs : List Fx} {k : Nat} {t : Task} {s s1 : St} {h : Nat} (r : Runs fs k t s s1 h) : Runs fs (k + 1) t s s1 h := by
  induction r with
  | nil => exact .nil
  | cons h0 _ _ i1 i2 => exact .cons h0 i1 i2
  | stop h0 _ hn i => exact .stop h0 i hn
  | set h1 h2 => exact .set h1 h2
  | put h1 h2 => exact .put h1 h2
  | store h1 h2 => exact .store h1 h2
  | when_ h1 h2 _ i => exact .when_ h1 h2 i
  | skip h1 => exact .skip h1
  | loop _ i => exact .loop i
  | brk h1 => exact .brk h1
  | tell h1 => exact .tell h1
  | call h1 h2 h3 _ i => exact .call h1 h2 h3 i
  | out h1 h2 => exact .out h1 h2
  | again _ h0 _ i1 i2 => exact .again i1 h0 i2
  | leave _ h i => exact .leave i h
  | leaves _ h i => exact .leaves i h
  | tells _ i => exact .tells i
  | fn h1 h2 h3 h4 h5 h6 _ i => exact .fn h1 h2 h3 h4 h5 h6 i
theorem Runs.atLeast {fs : List Fx} {k : Nat} {t : Task} {s s1 : St} {h : Nat} (r : Runs fs k t s s1 h) (m : Nat) : Runs fs (k + m) t s s1 h := by
  induction m with
  | zero => exact r
  | succ m ih => exact ih.more

/-- What is done ends, so. -/
def Does (fs : List Fx) (k : Nat) (t : Task) (s : St) (Q : St → Nat → Prop) : Prop := ∃ s1 h, Runs fs k t s s1 h ∧ Q s1 h
theorem Does.mono {fs : List Fx} {k : Nat} {t : Task} {s : St} {Q Q' : St → Nat → Prop} (h : Does fs k t s Q) (hq : ∀ s1 h, Q s1 h → Q' s1 h) : Does fs k t s Q' := by
  obtain ⟨s1, e, r, q⟩ := h
  exact ⟨s1, e, r, hq _ _ q⟩
theorem Does.atLeast {fs : List Fx} {k : Nat} {t : Task} {s : St} {Q : St → Nat → Prop} (h : Does fs k t s Q) (m : Nat) : Does fs (k + m) t s Q := by
  obtain ⟨s1, e, r, q⟩ := h
  exact ⟨s1, e, r.atLeast m, q⟩

/-- What is seen of a state: its own words, lasting words, memory, how many steps are left at least; calls, what was written. -/
structure Vw (d : Nat) (out : List Nat) (s : St) (own g : List Nat) (M : Nat → Nat) (l : Nat) : Prop where
  own : s.own = own
  g : s.g = g
  mem : Mw s.L M
  n : s.N = 4
  left : l ≤ s.left
  deep : s.deep = d
  out : s.out = out
theorem Vw.pos {d : Nat} {out : List Nat} {s : St} {own g : List Nat} {M : Nat → Nat} {l : Nat} (h : Vw d out s own g M (l + 1)) : 0 < s.left := by have := h.left; omega
theorem Vw.step {d : Nat} {out : List Nat} {s : St} {own g : List Nat} {M : Nat → Nat} {l : Nat} (h : Vw d out s own g M (l + 1)) : Vw d out s.step own g M l :=
  ⟨h.own, h.g, h.mem, h.n, by have := h.left; simp only [St.step]; omega, h.deep, h.out⟩
theorem Vw.less {d : Nat} {out : List Nat} {s : St} {own g : List Nat} {M : Nat → Nat} {l : Nat} (h : Vw d out s own g M l) {l' : Nat} (hl : l' ≤ l) : Vw d out s own g M l' :=
  ⟨h.own, h.g, h.mem, h.n, Nat.le_trans hl h.left, h.deep, h.out⟩
/-- What an expression tells there. -/
def Evl (own g : List Nat) (M : Nat → Nat) (e : Ex) (v : Nat) : Prop := ∀ s : St, s.own = own → s.g = g → Mw s.L M → s.N = 4 → Ex.ev s e = some v
theorem Vw.ev {d : Nat} {out : List Nat} {s : St} {own g : List Nat} {M : Nat → Nat} {l : Nat} (h : Vw d out s own g M l) {e : Ex} {v : Nat} (he : Evl own g M e v) : Ex.evs s [e] = some [v] := by
  have := he s h.own h.g h.mem h.n
  simp only [Ex.evs, this]

section
variable {own gs : List Nat} {M : Nat → Nat}
theorem Evl.v {x : Int} {v : Nat} (h0 : 0 ≤ x) (h : own[x.toNat]? = some v) : Evl own gs M (Px.v x) v := fun s h1 _ _ _ => by simp [Ex.ev, Ex.evs, Ex.val, h0, h1, h]
theorem Evl.g {x : Int} {v : Nat} (h0 : 0 ≤ x) (h : gs[x.toNat]? = some v) : Evl own gs M (Px.g x) v := fun s _ h1 _ _ => by simp [Ex.ev, Ex.evs, Ex.val, h0, h1, h]
theorem Evl.n {x : Int} (v : Nat) (h0 : x = (v : Int)) (h : v < 4294967296) : Evl own gs M (Px.n x) v := fun s _ _ _ _ => by subst h0; simp [Ex.ev, Ex.evs, Ex.val]; omega
theorem Evl.load {e : Ex} {k : Nat} (h : Evl own gs M e (4 * k)) (hk : 4 * k + 4 ≤ 262144) : Evl own gs M (Px.load e) (M k) := fun s h1 h2 h3 h4 => by
  have he := h s h1 h2 h3 h4
  have hw := h3.word k
  simp only [Ex.ev, Ex.evs, he, Ex.val]
  rw [if_neg (by decide), if_neg (by decide), if_neg (by decide)]
  rw [Ex.val2, if_pos rfl, if_pos ⟨rfl, by rw [h4]; omega⟩, show ((4 * k : Nat) : Int) = 4 * (k : Int) by omega, hw]
  rfl
theorem Evl.not {e : Ex} {v : Nat} (h : Evl own gs M e v) : Evl own gs M (Px.not e) (if v = 0 then 1 else 0) := fun s h1 h2 h3 h4 => by
  have he := h s h1 h2 h3 h4
  simp only [Ex.ev, Ex.evs, he, Ex.val]
  rw [if_neg (by decide), if_neg (by decide), if_neg (by decide)]
  rw [Ex.val2, if_neg (by decide), if_pos rfl, if_pos rfl]
theorem Evl.t {op : Int} {a b : Ex} {x y : Nat} (ha : Evl own gs M a x) (hb : Evl own gs M b y) (hop : op ∈ opsOf 7) (hm : op = 108 → x < 2147483648 ∧ y < 2147483648) : Evl own gs M (Px.t op a b) (rkTwoV op x y) := fun s h1 h2 h3 h4 => by
  have e1 := ha s h1 h2 h3 h4
  have e2 := hb s h1 h2 h3 h4
  simp only [Ex.ev, Ex.evs, e1, e2, Ex.val]
  rw [if_neg (by decide), if_neg (by decide), if_neg (by decide)]
  rw [Ex.val2, if_pos rfl, if_pos ⟨hop, hm⟩]
theorem Evl.cast {e : Ex} {v v' : Nat} (h : Evl own gs M e v) (hv : v = v') : Evl own gs M e v' := hv ▸ h
theorem Evl.add {a b : Ex} {x y : Nat} (ha : Evl own gs M a x) (hb : Evl own gs M b y) (h : x + y < 4294967296) : Evl own gs M (Px.add a b) (x + y) :=
  (Evl.t (op := 106) ha hb (by decide) (fun h => absurd h (by decide))).cast (by unfold rkTwoV; rw [if_neg (by decide), if_pos rfl]; exact Nat.mod_eq_of_lt h)
theorem Evl.sub {a b : Ex} {x y : Nat} (ha : Evl own gs M a x) (hb : Evl own gs M b y) (h : y ≤ x) (hx : x < 4294967296) : Evl own gs M (Px.t 107 a b) (x - y) :=
  (Evl.t (op := 107) ha hb (by decide) (fun h => absurd h (by decide))).cast (by unfold rkTwoV; rw [if_neg (by decide), if_neg (by decide), if_pos rfl]; omega)
theorem Evl.lt {a b : Ex} {x y : Nat} (ha : Evl own gs M a x) (hb : Evl own gs M b y) : Evl own gs M (Px.t 73 a b) (if x < y then 1 else 0) :=
  (Evl.t (op := 73) ha hb (by decide) (fun h => absurd h (by decide))).cast (by unfold rkTwoV rkCmp; simp; try omega)
theorem Evl.ge {a b : Ex} {x y : Nat} (ha : Evl own gs M a x) (hb : Evl own gs M b y) : Evl own gs M (Px.t 79 a b) (if y ≤ x then 1 else 0) :=
  (Evl.t (op := 79) ha hb (by decide) (fun h => absurd h (by decide))).cast (by unfold rkTwoV rkCmp; simp; try omega)
theorem Evl.eq {a b : Ex} {x y : Nat} (ha : Evl own gs M a x) (hb : Evl own gs M b y) : Evl own gs M (Px.t 70 a b) (if x = y then 1 else 0) :=
  (Evl.t (op := 70) ha hb (by decide) (fun h => absurd h (by decide))).cast (by by_cases h : x = y <;> (unfold rkTwoV rkCmp; simp [h]); omega)
theorem Evl.and1 {a : Ex} {x : Nat} (ha : Evl own gs M a x) : Evl own gs M (Px.t 113 a (Px.n 1)) (x % 2) :=
  (Evl.t (op := 113) ha (Evl.n 1 rfl (by decide)) (by decide) (fun h => absurd h (by decide))).cast (by unfold rkTwoV rkBitwise; simp)
theorem Evl.mask {a : Ex} {x : Nat} (ha : Evl own gs M a x) : Evl own gs M (Px.t 113 a (Px.n 8191)) (x % 8192) :=
  (Evl.t (op := 113) ha (Evl.n 8191 rfl (by decide)) (by decide) (fun h => absurd h (by decide))).cast (by unfold rkTwoV rkBitwise; simp; exact Nat.and_two_pow_sub_one_eq_mod x 13)
theorem and_six (x : Nat) : x &&& 6 = 2 * (x / 2 % 4) := by
  have h1 : (x &&& 6) / 2 = x / 2 &&& 3 := Nat.and_div_two
  have h2 : (x &&& 6) % 2 = 0 := by
    have := Nat.and_mod_two_pow (a := x) (b := 6) (n := 1)
    simpa using this
  have h3 : x / 2 &&& 3 = x / 2 % 4 := Nat.and_two_pow_sub_one_eq_mod (x / 2) 2
  rw [h3] at h1
  omega
theorem Evl.and6 {a : Ex} {x : Nat} (ha : Evl own gs M a x) : Evl own gs M (Px.t 113 a (Px.n 6)) (2 * (x / 2 % 4)) :=
  (Evl.t (op := 113) ha (Evl.n 6 rfl (by decide)) (by decide) (fun h => absurd h (by decide))).cast (by unfold rkTwoV rkBitwise; simp; exact and_six x)
theorem Evl.shr {a b : Ex} {x y : Nat} (ha : Evl own gs M a x) (hb : Evl own gs M b y) (hy : y < 32) : Evl own gs M (Px.t 118 a b) (x / 2 ^ y) :=
  (Evl.t (op := 118) ha hb (by decide) (fun h => absurd h (by decide))).cast (by unfold rkTwoV rkBitwise; simp; rw [Nat.mod_eq_of_lt hy])
theorem Evl.shl {a b : Ex} {x y : Nat} (ha : Evl own gs M a x) (hb : Evl own gs M b y) (hy : y < 32) (h : x * 2 ^ y < 4294967296) : Evl own gs M (Px.t 116 a b) (x * 2 ^ y) :=
  (Evl.t (op := 116) ha hb (by decide) (fun h => absurd h (by decide))).cast (by unfold rkTwoV rkBitwise; simp; rw [Nat.mod_eq_of_lt hy, Nat.mod_eq_of_lt h])
theorem Evl.mul {a b : Ex} {x y : Nat} (ha : Evl own gs M a x) (hb : Evl own gs M b y) (hx : x < 2147483648 ∧ y < 2147483648) (h : x * y < 4294967296) : Evl own gs M (Px.t 108 a b) (x * y) :=
  (Evl.t (op := 108) ha hb (by decide) (fun _ => hx)).cast (by unfold rkTwoV; rw [if_neg (by decide), if_neg (by decide), if_neg (by decide), if_pos rfl]; exact Nat.mod_eq_of_lt h)
theorem Evl.or0 {a b : Ex} (ha : Evl own gs M a 0) (hb : Evl own gs M b 0) : Evl own gs M (Px.t 114 a b) 0 :=
  (Evl.t (op := 114) ha hb (by decide) (fun h => absurd h (by decide))).cast (by decide)
theorem Evl.or1 {a b : Ex} {x y : Nat} (ha : Evl own gs M a x) (hb : Evl own gs M b y) (h : x ≠ 0 ∨ y ≠ 0) : ∃ v, v ≠ 0 ∧ Evl own gs M (Px.t 114 a b) v := by
  refine ⟨x ||| y, ?_, (Evl.t (op := 114) ha hb (by decide) (fun h => absurd h (by decide))).cast (by unfold rkTwoV rkBitwise; simp)⟩
  intro e
  rw [Nat.or_eq_zero_iff] at e
  omega

/-- Which words are texts' heads. -/
theorem Evl.text {a : Ex} {x : Nat} (ha : Evl own gs M a x) : Evl own gs M (isTextX a) (if x / 2 % 4 = 2 then 1 else 0) :=
  (Evl.eq (Evl.and6 ha) (Evl.n 4 rfl (by decide))).cast (by by_cases h : x / 2 % 4 = 2 <;> simp [h]; omega)
/-- How many bytes there are with a head. -/
theorem Evl.bytes {a : Ex} {x : Nat} (ha : Evl own gs M a x) : Evl own gs M (bytesX a) (4 * (1 + if x / 2 % 4 = 2 then (x / 8 % 8192 + 3) / 4 else x / 8 % 8192)) := by
  have h1 : Evl own gs M (sizeX a) (x / 8 % 8192) := Evl.mask (Evl.shr ha (Evl.n 3 rfl (by decide)) (by decide))
  have h2 := Evl.text ha
  have hm : x / 8 % 8192 < 8192 := Nat.mod_lt _ (by decide)
  unfold bytesX wordsX
  by_cases h : x / 2 % 4 = 2
  · rw [if_pos h] at h2 ⊢
    have h3 := Evl.mul h2 (Evl.n (own := own) (gs := gs) (M := M) 3 rfl (by decide)) (by decide) (by decide)
    have h4 := Evl.shl h2 (Evl.n (own := own) (gs := gs) (M := M) 1 rfl (by decide)) (by decide) (by decide)
    have h5 := Evl.shr (Evl.add h1 h3 (by omega)) h4 (by decide)
    have h6 := Evl.add h5 (Evl.n (own := own) (gs := gs) (M := M) 1 rfl (by decide)) (by omega)
    exact (Evl.shl h6 (Evl.n 2 rfl (by decide)) (by decide) (by omega)).cast (by omega)
  · rw [if_neg h] at h2 ⊢
    have h3 := Evl.mul h2 (Evl.n (own := own) (gs := gs) (M := M) 3 rfl (by decide)) (by decide) (by decide)
    have h4 := Evl.shl h2 (Evl.n (own := own) (gs := gs) (M := M) 1 rfl (by decide)) (by decide) (by decide)
    have h5 := Evl.shr (Evl.add h1 h3 (by omega)) h4 (by decide)
    have h6 := Evl.add h5 (Evl.n (own := own) (gs := gs) (M := M) 1 rfl (by decide)) (by omega)
    exact (Evl.shl h6 (Evl.n 2 rfl (by decide)) (by decide) (by omega)).cast (by omega)
end

end Go.Proofs.YtgohnekaolgblaaGreat

/- How what is done is followed: rules for each kind of thing: plain. -/
namespace Go.Proofs.YtgohnekaolgblaaGreat

/-- A list is done so, from whatever is seen so. -/
def Dv (fs : List Fx) (k d : Nat) (out : List Nat) (l : List Lo) (own g : List Nat) (M : Nat → Nat) (n : Nat) (Q : St → Nat → Prop) : Prop := ∀ s, Vw d out s own g M n → Does fs k (.list l) s Q

section
variable {fs : List Fx} {k d : Nat} {out : List Nat} {ts l : List Lo} {own g : List Nat} {M : Nat → Nat} {n : Nat} {Q : St → Nat → Prop}
theorem Dv.nil (h : ∀ s, Vw d out s own g M n → Q s 0) : Dv fs k d out [] own g M n Q := fun s hs => ⟨s, 0, .nil, h s hs⟩
theorem Does.cons {t : Lo} {s s1 : St} (h0 : 0 < s.left) (r : Runs fs k (.one t) s.step s1 0) (h : Does fs k (.list ts) s1 Q) : Does fs k (.list (t :: ts)) s Q := by
  obtain ⟨s2, e, r2, q⟩ := h
  exact ⟨s2, e, .cons h0 r r2, q⟩
theorem Vw.set {s : St} (h : Vw d out s own g M n) (x v : Nat) : Vw d out { s with own := s.own.set x v } (own.set x v) g M n := ⟨by rw [← h.own], h.g, h.mem, h.n, h.left, h.deep, h.out⟩
theorem Vw.put {s : St} (h : Vw d out s own g M n) (x v : Nat) : Vw d out { s with g := s.g.set x v } own (g.set x v) M n := ⟨h.own, by rw [← h.g], h.mem, h.n, h.left, h.deep, h.out⟩
theorem Vw.store {s : St} (h : Vw d out s own g M n) (j v : Nat) (hv : v < 4294967296) : Vw d out { s with L := Mm.put s.L ((4 * j : Nat) : Int) (v : Int) 4 } own g (upd M j v) n :=
  ⟨h.own, h.g, by rw [show ((4 * j : Nat) : Int) = 4 * (j : Int) by omega]; exact h.mem.put j v hv, h.n, h.left, h.deep, h.out⟩
theorem Dv.set {e : Ex} {v : Nat} (x : Nat) {xi : Int} (hxi : xi = (x : Int)) (he : Evl own g M e v) (hx : x < own.length) (own' : List Nat) (ho : own.set x v = own') (h : Dv fs k d out ts own' g M n Q) : Dv fs k d out (Px.set xi e :: ts) own g M (n + 1) Q := by
  subst hxi ho
  intro s hs
  have h1 := hs.step
  exact Does.cons hs.pos (Runs.set (h1.ev he) (by rw [h1.own]; exact hx)) (h _ (h1.set x v))
theorem Dv.put {e : Ex} {v : Nat} (x : Nat) {xi : Int} (hxi : xi = (x : Int)) (he : Evl own g M e v) (hx : x < g.length) (g' : List Nat) (ho : g.set x v = g') (h : Dv fs k d out ts own g' M n Q) : Dv fs k d out (Px.put xi e :: ts) own g M (n + 1) Q := by
  subst hxi ho
  intro s hs
  have h1 := hs.step
  exact Does.cons hs.pos (Runs.put (h1.ev he) (by rw [h1.g]; exact hx)) (h _ (h1.put x v))
theorem Dv.store {a b : Ex} {v : Nat} (j : Nat) (ha : Evl own g M a (4 * j)) (hb : Evl own g M b v) (hv : v < 4294967296) (hj : 4 * j + 4 ≤ 262144) (h : Dv fs k d out ts own g (upd M j v) n Q) : Dv fs k d out (Px.store a b :: ts) own g M (n + 1) Q := by
  intro s hs
  have h1 := hs.step
  have e : Ex.evs s.step [a, b] = some [4 * j, v] := by
    have e1 := ha _ h1.own h1.g h1.mem h1.n
    have e2 := hb _ h1.own h1.g h1.mem h1.n
    simp only [Ex.evs, e1, e2]
  exact Does.cons hs.pos (Runs.store (x := 0) e (by rw [h1.n]; omega)) (h _ (h1.store j v hv))
/-- What is not done. -/
theorem Dv.skip {c : Ex} (hc : Evl own g M c 0) (h : Dv fs k d out ts own g M n Q) : Dv fs k d out (Px.when c l :: ts) own g M (n + 1) Q := by
  intro s hs
  have h1 := hs.step
  exact Does.cons hs.pos (Runs.skip (x := 0) (n := 0) (h1.ev hc)) (h _ h1)
/-- What is done, and ends the list. -/
theorem Dv.stop {c : Ex} {v : Nat} (hc : Evl own g M c v) (hv : v ≠ 0) (h : Dv fs k d out l own g M n fun s1 e => e ≠ 0 ∧ Q s1 e) : Dv fs (k + 1) d out (Px.when c l :: ts) own g M (n + 1) Q := by
  intro s hs
  have h1 := hs.step
  obtain ⟨s1, e, r, hne, q⟩ := h _ h1
  exact ⟨s1, e, .stop hs.pos (Runs.when_ (x := 0) (n := 0) (h1.ev hc) hv r) hne, q⟩
/-- What is done, and goes on. -/
theorem Dv.when_ {c : Ex} {v : Nat} (hc : Evl own g M c v) (hv : v ≠ 0) (h : Dv fs k d out l own g M n fun s1 e => e = 0 ∧ Does fs (k + 1) (.list ts) s1 Q) : Dv fs (k + 1) d out (Px.when c l :: ts) own g M (n + 1) Q := by
  intro s hs
  have h1 := hs.step
  obtain ⟨s1, e, r, rfl, q⟩ := h _ h1
  exact Does.cons hs.pos (Runs.when_ (x := 0) (n := 0) (h1.ev hc) hv r) q
theorem Dv.tell {e : Ex} {v : Nat} (he : Evl own g M e v) (h : ∀ s, Vw d out s own g M n → s.told = v → Q s 2) : Dv fs k d out (Px.tell e :: ts) own g M (n + 1) Q := by
  intro s hs
  have h1 := hs.step
  exact ⟨_, 2, .stop hs.pos (Runs.tell (x := 0) (n := 0) (h1.ev he)) (by decide), h _ ⟨h1.own, h1.g, h1.mem, h1.n, h1.left, h1.deep, h1.out⟩ rfl⟩
theorem Dv.leave (h : ∀ s, Vw d out s own g M n → s.n = 0 → Q s 1) : Dv fs k d out (Px.leave :: ts) own g M (n + 1) Q := by
  intro s hs
  have h1 := hs.step
  exact ⟨_, 1, .stop hs.pos (Runs.brk (x := 0) (n := 0) (by decide)) (by decide), h _ ⟨h1.own, h1.g, h1.mem, h1.n, h1.left, h1.deep, h1.out⟩ rfl⟩
/-- A loop. -/
def Lp (fs : List Fx) (k d : Nat) (out : List Nat) (l : List Lo) (own g : List Nat) (M : Nat → Nat) (n : Nat) (Q : St → Nat → Prop) : Prop := ∀ s, Vw d out s own g M n → Does fs k (.loop l) s Q
theorem Dv.loop (h : Lp fs k d out l own g M n fun s1 e => e = 0 ∧ Does fs (k + 1) (.list ts) s1 Q) : Dv fs (k + 1) d out (Px.loop l :: ts) own g M (n + 1) Q := by
  intro s hs
  have h1 := hs.step
  obtain ⟨s1, e, r, rfl, q⟩ := h _ h1
  exact Does.cons hs.pos (Runs.loop (x := 0) (n := 0) (a := []) r) q
/-- A round: the loop is left, or the next round is done. -/
theorem Lp.round (h : Dv fs k d out l own g M n fun s1 e => (e = 1 ∧ s1.n = 0 ∧ Q s1 0) ∨ (e = 0 ∧ ∃ own' g' M' n', Vw d out s1 own' g' M' (n' + 1) ∧ Lp fs k d out l own' g' M' n' Q)) : Lp fs k d out l own g M n Q := by
  intro s hs
  obtain ⟨s1, e, r, (⟨rfl, hn, q⟩ | ⟨rfl, own', g', M', n', hv, hl⟩)⟩ := h s hs
  · exact ⟨s1, 0, .leave r hn, q⟩
  · obtain ⟨s2, e2, r2, q⟩ := hl _ hv.step
    exact ⟨s2, e2, .again r hv.pos r2, q⟩
/-- A function is called. -/
theorem Dv.call {as_ : List Ex} {vs : List Nat} (x f : Nat) {xi : Int} (hxi : xi = (x : Int)) (he : ∀ s, Vw d out s own g M n → Ex.evs s as_ = some vs) (hal : as_.length ≤ 20) (hx : x < own.length)
    (h : ∀ s, Vw d out s own g M n → Does fs k (.call f vs) s fun s1 e => e = 0 ∧ s1.own = own ∧ Does fs (k + 1) (.list ts) { s1 with own := own.set x s1.told } Q) : Dv fs (k + 1) d out (Px.call xi f as_ :: ts) own g M (n + 1) Q := by
  subst hxi
  intro s hs
  have h1 := hs.step
  obtain ⟨s1, e, r, rfl, ho, q⟩ := h _ h1
  have r' := Runs.call (x := x) (n := f) (l := []) (he _ h1) hal (by rw [h1.own]; exact hx) r
  rw [h1.own] at r'
  exact Does.cons hs.pos r' q
/-- A function, of words. -/
theorem Does.fn {f : Nat} {vs : List Nat} {c : Nat} {p : Int} {s : St} (hf : fs[f]? = some ⟨p, c, l⟩) (hc : c ≤ 1000) (hvs : vs.length ≤ 20) (hd : d < 5000) (hs : Vw d out s own g M n)
    (h : Dv fs k (d + 1) out l (vs ++ List.replicate c 0) g M n fun s1 e => e ≠ 1 ∧ Q { s1 with own := own, deep := d, told := if e = 0 then 0 else s1.told } 0) : Does fs k (.call f vs) s Q := by
  obtain ⟨s1, e, r, hne, q⟩ := h { s with deep := s.deep + 1, own := vs ++ List.replicate c 0, told := 0 } ⟨rfl, hs.g, hs.mem, hs.n, hs.left, by rw [← hs.deep], hs.out⟩
  have r' := Runs.fn (c := c) (by rw [hs.deep]; exact hd) hf rfl hc hvs hne r
  rw [hs.own, hs.deep] at r'
  exact ⟨_, 0, r', q⟩
end

end Go.Proofs.YtgohnekaolgblaaGreat

/- The code that moves one thing moves it: plain. -/
namespace Go.Proofs.YtgohnekaolgblaaGreat

theorem Dv.weaken {fs : List Fx} {k d : Nat} {out : List Nat} {l : List Lo} {own g : List Nat} {M : Nat → Nat} {n n' : Nat} {Q : St → Nat → Prop} (h : Dv fs k d out l own g M n Q) (hn : n ≤ n') : Dv fs k d out l own g M n' Q := fun s hs => h s (hs.less hn)
theorem Lp.weaken {fs : List Fx} {k d : Nat} {out : List Nat} {l : List Lo} {own g : List Nat} {M : Nat → Nat} {n n' : Nat} {Q : St → Nat → Prop} (h : Lp fs k d out l own g M n Q) (hn : n ≤ n') : Lp fs k d out l own g M n' Q := fun s hs => h s (hs.less hn)

/-! ### heads -/
theorem Wd.head_of {h : Int} (hw : (Wd.words h).2 = true) : Wd.head (h / 2 % 4) (h / 65536) (h / 8 % 8192) = (h, 0) := by
  refine Decidable.byContradiction fun hn => ?_
  have h2 := (Wd.words_pos hw).2.1
  rw [Wd.unhead_no hn] at h2
  cases h2
theorem Wd.head_nat {X : Nat} {h : Int} (e : (X : Int) = h) (hw : (Wd.words h).2 = true) : X % 2 = 1 ∧ Hp.wn h = 1 + (if X / 2 % 4 = 2 then (X / 8 % 8192 + 3) / 4 else X / 8 % 8192) ∧ ((Wd.unhead h).1 = 2 ↔ X / 2 % 4 = 2) ∧ Hp.sz h = X / 8 % 8192 := by
  have h1 := Wd.head_of hw
  have h2 := Wd.unhead_yes h1
  have h3 : h % 2 = 1 := by
    by_cases hk : Wd.headOk (h / 2 % 4) (h / 65536) (h / 8 % 8192)
    · rw [Wd.head_yes hk] at h1
      simp only [Prod.mk.injEq, and_true] at h1
      omega
    · rw [Wd.head_no hk] at h1
      simp only [Prod.mk.injEq] at h1
      omega
  subst e
  refine ⟨by omega, ?_, ?_, ?_⟩
  · unfold Hp.wn Wd.words
    rw [h2]
    simp only [if_true]
    by_cases hk : X / 2 % 4 = 2
    · rw [if_pos hk, if_pos (by omega)]
      simp only
      omega
    · rw [if_neg hk, if_neg (by omega)]
      simp only
      omega
  · rw [h2]
    simp only
    omega
  · unfold Hp.sz
    rw [h2]
    simp only
    omega
/-- Things do not meet. -/
theorem Hp.from_gap (ls : List Int) : ∀ (m i0 : Nat) (hs : List Nat), ls.length - i0 ≤ m → Hp.from ls i0 = some hs → ∀ i ∈ hs, ∀ k ∈ hs, i < k → i + Hp.wnAt ls i ≤ k := by
  intro m
  induction m with
  | zero =>
    intro i0 hs hm h
    rw [Hp.from_end ls i0 (by omega)] at h
    cases h
    intro i hi
    cases hi
  | succ m ih =>
    intro i0 hs hm h i hi k hk hik
    by_cases hl : i0 < ls.length
    · by_cases hb : (Wd.words ls[i0]).2 = false ∨ ls.length < i0 + Hp.wn ls[i0]
      · rw [Hp.from_bad ls i0 hl hb] at h; cases h
      · simp only [not_or] at hb
        have hw : (Wd.words ls[i0]).2 = true := by simpa using hb.1
        have hp := (Wd.words_pos hw).1
        rw [Hp.from_next ls i0 hl hw (by omega)] at h
        obtain ⟨hs', h1, rfl⟩ := Option.map_eq_some_iff.1 h
        have hat : Hp.wnAt ls i0 = Hp.wn ls[i0] := by unfold Hp.wnAt; rw [List.getElem?_eq_getElem hl]
        rcases List.mem_cons.1 hk with hk2 | hk2
        · rcases List.mem_cons.1 hi with hi2 | hi2
          · omega
          · have := (Hp.from_head ls _ _ _ (Nat.le_refl _) h1 i hi2).1
            omega
        · rcases List.mem_cons.1 hi with hi2 | hi2
          · have := (Hp.from_head ls _ _ _ (Nat.le_refl _) h1 k hk2).1
            subst hi2
            omega
          · exact ih _ _ (by omega) h1 i hi2 k hk2 hik
    · rw [Hp.from_end ls i0 (by omega)] at h
      cases h
      cases hk
theorem Hp.heads_gap {ls : List Int} {hs : List Nat} (h : Hp.heads ls = some hs) {i k : Nat} (hi : i ∈ hs) (hk : k ∈ hs) (hik : i < k) : i + Hp.wnAt ls i ≤ k :=
  Hp.from_gap ls _ _ _ (Nat.le_refl _) (show Hp.from ls 0 = some hs from h) i hi k hk hik

/-- Two spaces: a heap stands in the one, its words may be laid in the other. -/
structure Sp (ls : List Int) (hs : List Nat) (ka kt : Nat) : Prop where
  heads : Hp.heads ls = some hs
  range : ∀ x ∈ ls, 0 ≤ x ∧ x < 4294967296
  apart : ka + ls.length ≤ kt ∨ kt + ls.length ≤ ka
  a : 4 * (ka + ls.length) ≤ 262144
  t : 4 * (kt + ls.length) ≤ 262144
/-- How far it was moved: what was moved, in order; the new words. The rest stands as it stood. -/
structure Gc (ls : List Int) (ka kt : Nat) (M0 : Nat → Nat) (o : List Nat) (out : List Int) (M : Nat → Nat) : Prop where
  to : ∀ j x, out[j]? = some x → (M (kt + j) : Int) = x
  from_ : ∀ p x, ls[p]? = some x → (M (ka + p) : Int) = match Hp.pos ls o 0 p with | some n => 4 * ((kt + n : Nat) : Int) | none => x
  rest : ∀ q, ¬ (ka ≤ q ∧ q < ka + ls.length) → ¬ (kt ≤ q ∧ q < kt + ls.length) → M q = M0 q
theorem Gc.outside {ls : List Int} {ka kt : Nat} {M0 : Nat → Nat} {o : List Nat} {out : List Int} {M : Nat → Nat} (h : Gc ls ka kt M0 o out M) (hl : out.length ≤ ls.length) (q v : Nat) (h1 : ¬ (ka ≤ q ∧ q < ka + ls.length)) (h2 : ¬ (kt ≤ q ∧ q < kt + ls.length)) : Gc ls ka kt (upd M0 q v) o out (upd M q v) := by
  refine ⟨fun j x hx => ?_, fun p x hx => ?_, fun r h3 h4 => ?_⟩
  · have := (List.getElem?_eq_some_iff.1 hx).1
    rw [upd_other (by omega)]
    exact h.to j x hx
  · have := (List.getElem?_eq_some_iff.1 hx).1
    rw [upd_other (by omega)]
    exact h.from_ p x hx
  · unfold upd
    split
    · rfl
    · exact h.rest r h3 h4
theorem Gc.inside {ls : List Int} {ka kt : Nat} {M0 : Nat → Nat} {o : List Nat} {out : List Int} {M : Nat → Nat} {hs : List Nat} (sp : Sp ls hs ka kt) (h : Gc ls ka kt M0 o out M) (hl : out.length ≤ ls.length) (p v : Nat) (hp : p < out.length) : Gc ls ka kt M0 o (out.set p (v : Int)) (upd M (kt + p) v) := by
  have ha := sp.apart
  refine ⟨fun j x hx => ?_, fun q x hx => ?_, fun r h3 h4 => ?_⟩
  · rw [List.getElem?_set] at hx
    by_cases hj : p = j
    · subst hj
      rw [if_pos rfl, if_pos hp] at hx
      rw [upd_same]
      exact Option.some.inj hx
    · rw [if_neg hj] at hx
      rw [upd_other (by omega)]
      exact h.to j x hx
  · have := (List.getElem?_eq_some_iff.1 hx).1
    rw [upd_other (by omega)]
    exact h.from_ q x hx
  · rw [upd_other (by omega)]
    exact h.rest r h3 h4
/-- Words are copied. -/
def cpy (M : Nat → Nat) (dst src j : Nat) : Nat → Nat := fun q => if dst ≤ q ∧ q < dst + j then M (src + (q - dst)) else M q
theorem cpy_zero (M : Nat → Nat) (dst src : Nat) : cpy M dst src 0 = M := by
  funext q
  unfold cpy
  rw [if_neg (by omega)]
theorem cpy_succ (M : Nat → Nat) (dst src j : Nat) (h : src + j < dst ∨ dst + j ≤ src + j) : upd (cpy M dst src j) (dst + j) (cpy M dst src j (src + j)) = cpy M dst src (j + 1) := by
  funext q
  unfold upd cpy
  by_cases hq : q = dst + j
  · subst hq
    rw [if_pos rfl, if_neg (by omega), if_pos (by omega), show dst + j - dst = j by omega]
  · rw [if_neg hq]
    by_cases h2 : dst ≤ q ∧ q < dst + j
    · rw [if_pos h2, if_pos (by omega)]
    · rw [if_neg h2, if_neg (by omega)]

/-- What stands where a thing was moved. -/
theorem Gc.moved {ls : List Int} {ka kt : Nat} {M0 : Nat → Nat} {o : List Nat} {out : List Int} {M : Nat → Nat} {hs : List Nat} (sp : Sp ls hs ka kt) (h : Gc ls ka kt M0 o out M) (hi : Hp.Inv ls hs o out) {i : Nat} (hih : i ∈ hs) (hio : i ∉ o) (hfit : out.length + Hp.wnAt ls i ≤ ls.length) :
    Gc ls ka kt M0 (o ++ [i]) (out ++ Hp.thing ls i) (upd (cpy M (kt + out.length) (ka + i) (Hp.wnAt ls i)) (ka + i) (4 * (kt + out.length))) := by
  have ha := sp.apart
  have hh := Hp.heads_head sp.heads hih
  have hlt := hh.lt
  have hfits := hh.fits
  have hwn : Hp.wnAt ls i = Hp.wn ls[i] := by unfold Hp.wnAt; rw [List.getElem?_eq_getElem hlt]
  have hnone : Hp.pos ls o 0 i = none := (Hp.pos_none ls i o 0).2 hio
  have hone : ∀ j, j < Hp.wnAt ls i → Hp.pos ls o 0 (i + j) = none := by
    intro j hj
    refine (Hp.pos_none ls _ o 0).2 fun hm => ?_
    by_cases hj0 : j = 0
    · subst hj0
      exact hio hm
    · have := Hp.heads_gap sp.heads hih (hi.sub _ hm) (by omega)
      omega
  have hth : (Hp.thing ls i).length = Hp.wnAt ls i := (Hp.thing_head hh).2
  refine ⟨fun j x hx => ?_, fun p x hx => ?_, fun r h3 h4 => ?_⟩
  · have hjl := (List.getElem?_eq_some_iff.1 hx).1
    rw [List.length_append, hth] at hjl
    rw [upd_other (by omega)]
    unfold cpy
    by_cases hj : j < out.length
    · rw [if_neg (by omega)]
      rw [List.getElem?_append_left hj] at hx
      exact h.to j x hx
    · rw [if_pos (by omega), show ka + i + (kt + j - (kt + out.length)) = ka + (i + (j - out.length)) by omega]
      rw [List.getElem?_append_right (by omega)] at hx
      unfold Hp.thing at hx
      rw [List.getElem?_take, if_pos (by omega), List.getElem?_drop] at hx
      have := h.from_ _ x hx
      rw [hone _ (by omega)] at this
      exact this
  · have hpl := (List.getElem?_eq_some_iff.1 hx).1
    by_cases hp : p = i
    · subst hp
      rw [upd_same, Hp.pos_snoc ls _ _ o 0 hnone, if_pos rfl, ← hi.len]
      simp only
      omega
    · rw [upd_other (by omega), Hp.pos_snoc ls _ _ o 0 hnone, if_neg hp]
      unfold cpy
      rw [if_neg (by omega)]
      exact h.from_ p x hx
  · rw [upd_other (by omega)]
    unfold cpy
    rw [if_neg (by omega)]
    exact h.rest r h3 h4

end Go.Proofs.YtgohnekaolgblaaGreat

/- The code that moves one thing: what it tells and leaves: plain. -/
namespace Go.Proofs.YtgohnekaolgblaaGreat

def copyL : List Lo := [
  Px.when (Px.t 79 (Px.v 3) (Px.g 1)) [Px.leave],
  Px.store (Px.v 3) (Px.load (Px.v 4)),
  Px.set 3 (Px.add (Px.v 3) (Px.n 4)),
  Px.set 4 (Px.add (Px.v 4) (Px.n 4))]

theorem copyLoop {fs : List Fx} {k d : Nat} {outp : List Nat} {w hd f0 top fr en to : Nat} {M : Nat → Nat} {dst src wn n : Nat} {Q : St → Nat → Prop} (hM : ∀ q, M q < 4294967296) (hds : src + wn ≤ dst ∨ dst + wn ≤ src) (hb : 4 * (dst + wn) ≤ 262144 ∧ 4 * (src + wn) ≤ 262144)
    (hQ : ∀ s1, Vw d outp s1 [w, hd, f0, 4 * (dst + wn), 4 * (src + wn)] [top, 4 * (dst + wn), fr, en, to] (cpy M dst src wn) n → Q s1 0) :
    ∀ (m j : Nat), j + m = wn → Lp fs (k + 1) d outp copyL [w, hd, f0, 4 * (dst + j), 4 * (src + j)] [top, 4 * (dst + wn), fr, en, to] (cpy M dst src j) (n + 5 * m + 2) Q := by
  intro m
  induction m with
  | zero =>
    intro j hj
    obtain rfl : j = wn := by omega
    refine Lp.round ?_
    have hge := Evl.ge (Evl.v (own := [w, hd, f0, 4 * (dst + j), 4 * (src + j)]) (gs := [top, 4 * (dst + j), fr, en, to]) (M := cpy M dst src j) (x := 3) (by decide) rfl) (Evl.g (x := 1) (by decide) rfl)
    rw [if_pos (Nat.le_refl _)] at hge
    exact Dv.stop hge (by decide) (Dv.leave fun s hs hn => ⟨by decide, .inl ⟨rfl, hn, hQ s hs⟩⟩)
  | succ m ih =>
    intro j hj
    refine Lp.weaken (n := (n + 5 * m + 2) + 5) ?_ (by omega)
    refine Lp.round ?_
    have hge := Evl.ge (Evl.v (own := [w, hd, f0, 4 * (dst + j), 4 * (src + j)]) (gs := [top, 4 * (dst + wn), fr, en, to]) (M := cpy M dst src j) (x := 3) (by decide) rfl) (Evl.g (x := 1) (by decide) rfl)
    rw [if_neg (by omega)] at hge
    refine Dv.skip hge ?_
    refine Dv.store (dst + j) (Evl.v (x := 3) (by decide) rfl) (Evl.load (Evl.v (x := 4) (by decide) rfl) (by omega)) ?_ (by omega) ?_
    · unfold cpy
      split <;> exact hM _
    rw [cpy_succ M dst src j (by omega)]
    refine Dv.set 3 rfl (Evl.add (Evl.v (x := 3) (by decide) rfl) (Evl.n 4 rfl (by decide)) (by omega)) (by simp) [w, hd, f0, 4 * (dst + (j + 1)), 4 * (src + j)] (by simp; omega) ?_
    refine Dv.set 4 rfl (Evl.add (Evl.v (x := 4) (by decide) rfl) (Evl.n 4 rfl (by decide)) (by omega)) (by simp) [w, hd, f0, 4 * (dst + (j + 1)), 4 * (src + (j + 1))] (by simp; omega) ?_
    exact Dv.nil fun s hs => .inr ⟨rfl, _, _, _, _, hs, ih (j + 1) (by omega)⟩

theorem Vw.ret {d : Nat} {out : List Nat} {s : St} {own g : List Nat} {M : Nat → Nat} {n : Nat} (h : Vw (d + 1) out s own g M n) (own' : List Nat) (t : Nat) : Vw d out { s with own := own', deep := d, told := t } own' g M n := ⟨rfl, h.g, h.mem, h.n, h.left, rfl, h.out⟩

/-- What is told of a word, and left. -/
theorem moveWord {fs : List Fx} {ls : List Int} {hs : List Nat} {ka kt : Nat} {M0 M : Nat → Nat} {o : List Nat} {out : List Int} (sp : Sp ls hs ka kt) (hi : Hp.Inv ls hs o out) (hfs : fs[3]? = some ⟨1, 4, movingL⟩) (gc : Gc ls ka kt M0 o out M) {w : Nat} (hw : w < 4294967296)
    (hok : Hp.okw (Hp.mem hs) ((4 * ka : Nat) : Int) (w : Int) = true) {d : Nat} (hd : d < 5000) {own outp : List Nat} {top en n : Nat} {s : St}
    (hv : Vw d outp s own [top, 4 * (kt + out.length), 4 * ka, en, 4 * kt] M (n + 12 + 5 * ((Hp.word ls ((4 * ka : Nat) : Int) ((4 * kt : Nat) : Int) o out (w : Int)).2.2.length - out.length))) :
    Does fs 2 (.call 3 [w]) s fun s1 e => e = 0 ∧ (s1.told : Int) = (Hp.word ls ((4 * ka : Nat) : Int) ((4 * kt : Nat) : Int) o out (w : Int)).1 ∧ ∃ M', Vw d outp s1 own [top, 4 * (kt + (Hp.word ls ((4 * ka : Nat) : Int) ((4 * kt : Nat) : Int) o out (w : Int)).2.2.length), 4 * ka, en, 4 * kt] M' n ∧ Gc ls ka kt M0 (Hp.word ls ((4 * ka : Nat) : Int) ((4 * kt : Nat) : Int) o out (w : Int)).2.1 (Hp.word ls ((4 * ka : Nat) : Int) ((4 * kt : Nat) : Int) o out (w : Int)).2.2 M' := by
  have hbnd := hi.bound sp.heads
  have hat := sp.a
  have htt := sp.t
  have hap := sp.apart
  by_cases hA : Hp.isAdr ((4 * ka : Nat) : Int) (w : Int) = true
  · obtain ⟨h1, h2, h3⟩ := Hp.okw_head sp.heads hok hA
    have hin : ∃ i, i = Hp.idx ((4 * ka : Nat) : Int) (w : Int) := ⟨_, rfl⟩
    obtain ⟨i, hidx⟩ := hin
    rw [← hidx] at h2 h3
    have hwi : w = 4 * (ka + i) ∧ w % 2 = 0 := by
      unfold Hp.isAdr at hA
      unfold Hp.whole at h1
      unfold Hp.idx at hidx
      simp only [Bool.and_eq_true, beq_iff_eq, decide_eq_true_eq] at hA h1
      omega
    have hlt := h3.lt
    have hwn : Hp.wnAt ls i = Hp.wn ls[i] := by unfold Hp.wnAt; rw [List.getElem?_eq_getElem hlt]
    have hfit := h3.fits
    have hfrom := gc.from_ i ls[i] (List.getElem?_eq_getElem hlt)
    have hor : Evl [w, 0, 0, 0, 0] [top, 4 * (kt + out.length), 4 * ka, en, 4 * kt] M (Px.t 114 (Px.t 113 (Px.v 0) (Px.n 1)) (Px.t 73 (Px.v 0) (Px.g 2))) 0 := by
      have e1 := Evl.and1 (Evl.v (own := [w, 0, 0, 0, 0]) (gs := [top, 4 * (kt + out.length), 4 * ka, en, 4 * kt]) (M := M) (x := 0) (by decide) rfl)
      have e2 := Evl.lt (Evl.v (own := [w, 0, 0, 0, 0]) (gs := [top, 4 * (kt + out.length), 4 * ka, en, 4 * kt]) (M := M) (x := 0) (by decide) rfl) (Evl.g (x := 2) (by decide) rfl)
      rw [hwi.2] at e1
      rw [if_neg (by omega)] at e2
      exact Evl.or0 e1 e2
    unfold Hp.word at hv ⊢
    rw [if_pos ⟨hA, h1⟩] at hv ⊢
    rw [← hidx] at hv ⊢
    cases hp : Hp.pos ls o 0 i with
    | some q =>
      rw [hp] at hv hfrom
      simp only at hv hfrom ⊢
      rw [Nat.sub_self, Nat.mul_zero, Nat.add_zero] at hv
      refine Does.fn (c := 4) (k := 2) (n := n + 12) hfs (by decide) (by simp) hd hv ?_
      show Dv _ _ _ _ _ [w, 0, 0, 0, 0] _ _ _ _
      unfold movingL
      refine Dv.skip hor ?_
      refine Dv.set 1 rfl (Evl.load (k := ka + i) ((Evl.v (x := 0) (by decide) rfl).cast hwi.1) (by omega)) (by simp) [w, M (ka + i), 0, 0, 0] rfl ?_
      have hn := Evl.not (Evl.and1 (Evl.v (own := [w, M (ka + i), 0, 0, 0]) (gs := [top, 4 * (kt + out.length), 4 * ka, en, 4 * kt]) (M := M) (x := 1) (by decide) rfl))
      rw [if_pos (by omega)] at hn
      refine Dv.stop hn (by decide) (Dv.tell (Evl.v (x := 1) (by decide) rfl) fun s1 hs1 ht => ?_)
      refine ⟨by decide, by decide, rfl, ?_, M, (hs1.less (by omega)).ret _ _, gc⟩
      simp only
      rw [if_neg (by decide), ht]
      omega
    | none =>
      rw [hp] at hv hfrom
      simp only at hv hfrom ⊢
      have hio := (Hp.pos_none ls i o 0).1 hp
      have hth : (Hp.thing ls i).length = Hp.wnAt ls i := (Hp.thing_head h3).2
      have hnew : out.length + Hp.wnAt ls i ≤ ls.length := by
        have h4 : Hp.Inv ls hs (o ++ [i]) (out ++ Hp.thing ls i) := by
          refine ⟨List.nodup_append.2 ⟨hi.nodup, by simp, fun a ha b hb => ?_⟩, fun j hj => ?_, ?_⟩
          · simp only [List.mem_singleton] at hb
            subst hb
            intro e
            exact hio (e ▸ ha)
          · rcases List.mem_append.1 hj with hj | hj
            · exact hi.sub j hj
            · simp only [List.mem_singleton] at hj
              exact hj ▸ h2
          · rw [List.length_append, hth, Hp.sum_snoc, hi.len]
        have := (h4.bound sp.heads).1
        rw [List.length_append, hth] at this
        exact this
      have hgc := gc.moved sp hi h2 hio hnew
      rw [List.length_append, hth] at hv ⊢
      rw [show out.length + Hp.wnAt ls i - out.length = Hp.wnAt ls i by omega] at hv
      obtain ⟨e1, e2, -, -⟩ := Wd.head_nat hfrom h3.yes
      rw [← hwn] at e2
      have hMw := hv.mem.lt
      have hwpos := (Wd.words_pos h3.yes).1
      have hx := hMw (ka + i)
      refine Does.fn (c := 4) (k := 2) (n := n + 12 + 5 * Hp.wnAt ls i) hfs (by decide) (by simp) hd hv ?_
      show Dv _ _ _ _ _ [w, 0, 0, 0, 0] _ _ _ _
      unfold movingL
      refine Dv.weaken (n := (n + 5 * Hp.wnAt ls i + 2) + 10) ?_ (by omega)
      refine Dv.skip hor ?_
      refine Dv.set 1 rfl (Evl.load (k := ka + i) ((Evl.v (x := 0) (by decide) rfl).cast hwi.1) (by omega)) (by simp) [w, M (ka + i), 0, 0, 0] rfl ?_
      have hn := Evl.not (Evl.and1 (Evl.v (own := [w, M (ka + i), 0, 0, 0]) (gs := [top, 4 * (kt + out.length), 4 * ka, en, 4 * kt]) (M := M) (x := 1) (by decide) rfl))
      rw [if_neg (by omega)] at hn
      refine Dv.skip hn ?_
      refine Dv.set 2 rfl (Evl.g (x := 1) (by decide) rfl) (by simp) [w, M (ka + i), 4 * (kt + out.length), 0, 0] rfl ?_
      refine Dv.put 1 rfl (Evl.add (Evl.v (x := 2) (by decide) rfl) (Evl.bytes (Evl.v (x := 1) (by decide) rfl)) (by rw [← e2]; omega)) (by simp) [top, 4 * (kt + out.length + Hp.wnAt ls i), 4 * ka, en, 4 * kt] (by rw [← e2]; simp; omega) ?_
      refine Dv.set 3 rfl (Evl.v (x := 2) (by decide) rfl) (by simp) [w, M (ka + i), 4 * (kt + out.length), 4 * (kt + out.length + 0), 0] rfl ?_
      refine Dv.set 4 rfl (Evl.v (x := 0) (by decide) rfl) (by simp) [w, M (ka + i), 4 * (kt + out.length), 4 * (kt + out.length + 0), 4 * (ka + i + 0)] (by simp; omega) ?_
      have hlp := copyLoop (fs := fs) (k := 0) (d := d + 1) (outp := outp) (w := w) (hd := M (ka + i)) (f0 := 4 * (kt + out.length)) (top := top) (fr := 4 * ka) (en := en) (to := 4 * kt) (M := M) (dst := kt + out.length) (src := ka + i) (wn := Hp.wnAt ls i) (n := n + 2)
        (Q := fun s1 e => e = 0 ∧ Does fs 2 (.list [Px.store (Px.v 0) (Px.v 2), Px.tell (Px.v 2)]) s1 fun s1 e => e ≠ 1 ∧ e = e ∧ (0 = 0 ∧ (({ s1 with own := own, deep := d, told := if e = 0 then 0 else s1.told } : St).told : Int) = ((4 * kt : Nat) : Int) + 4 * (out.length : Int) ∧ ∃ M', Vw d outp { s1 with own := own, deep := d, told := if e = 0 then 0 else s1.told } own [top, 4 * (kt + (out.length + Hp.wnAt ls i)), 4 * ka, en, 4 * kt] M' n ∧ Gc ls ka kt M0 (o ++ [i]) (out ++ Hp.thing ls i) M'))
        hMw (by omega) (by omega) (fun s1 hs1 => ⟨rfl, ?_⟩) (Hp.wnAt ls i) 0 (by omega)
      · rw [cpy_zero] at hlp
        refine Dv.loop (k := 1) (Lp.weaken (n := n + 2 + 5 * Hp.wnAt ls i + 2) ?_ (by omega))
        intro s1 hs1
        obtain ⟨s2, e, r, h0, h5⟩ := hlp s1 hs1
        exact ⟨s2, e, r, h0, h5.mono fun s3 e3 h6 => ⟨h6.1, h6.2.2⟩⟩
      · refine (Dv.store (n := n + 1) (ka + i) ((Evl.v (x := 0) (by decide) rfl).cast hwi.1) (Evl.v (x := 2) (by decide) rfl) (by omega) (by omega) (Dv.tell (Evl.v (x := 2) (by decide) rfl) fun s2 hs2 ht => ?_)) s1 hs1
        refine ⟨by decide, rfl, rfl, ?_, _, ?_, hgc⟩
        · simp only
          rw [if_neg (by decide), ht]
          omega
        · rw [show 4 * (kt + (out.length + Hp.wnAt ls i)) = 4 * (kt + out.length + Hp.wnAt ls i) by omega]
          exact hs2.ret _ _
  · have hA' : Hp.isAdr ((4 * ka : Nat) : Int) (w : Int) = false := by simpa using hA
    unfold Hp.word at hv ⊢
    rw [if_neg (fun h => hA h.1)] at hv ⊢
    simp only at hv ⊢
    rw [Nat.sub_self, Nat.mul_zero, Nat.add_zero] at hv
    refine Does.fn (c := 4) (k := 2) (n := n + 12) hfs (by decide) (by simp) hd hv ?_
    show Dv _ _ _ _ _ [w, 0, 0, 0, 0] _ _ _ _
    unfold movingL
    obtain ⟨v, hv0, hor⟩ := Evl.or1 (Evl.and1 (Evl.v (own := [w, 0, 0, 0, 0]) (gs := [top, 4 * (kt + out.length), 4 * ka, en, 4 * kt]) (M := M) (x := 0) (by decide) rfl)) (Evl.lt (Evl.v (own := [w, 0, 0, 0, 0]) (gs := [top, 4 * (kt + out.length), 4 * ka, en, 4 * kt]) (M := M) (x := 0) (by decide) rfl) (Evl.g (x := 2) (by decide) rfl)) (by
      unfold Hp.isAdr at hA'
      by_cases h2 : w < 4 * ka
      · right; rw [if_pos h2]; decide
      · left
        intro h3
        rw [show decide (((4 * ka : Nat) : Int) ≤ (w : Int)) = true by rw [decide_eq_true_eq]; omega, show ((w : Int) % 2 == 0) = true by rw [beq_iff_eq]; omega] at hA'
        cases hA')
    refine Dv.stop hor hv0 (Dv.tell (Evl.v (x := 0) (by decide) rfl) fun s1 hs1 ht => ?_)
    refine ⟨by decide, by decide, rfl, ?_, M, (hs1.less (by omega)).ret _ _, gc⟩
    simp only
    rw [if_neg (by decide), ht]

end Go.Proofs.YtgohnekaolgblaaGreat

/- The code that collects: its loops over the roots and over a thing's words: plain. -/
namespace Go.Proofs.YtgohnekaolgblaaGreat

theorem Hp.word_pre (ls : List Int) (a t : Int) (o : List Nat) (out : List Int) (w : Int) : out <+: (Hp.word ls a t o out w).2.2 := by
  unfold Hp.word
  split
  · split
    · exact List.prefix_refl _
    · exact List.prefix_append _ _
  · exact List.prefix_refl _
theorem Hp.roots_pre (ls : List Int) (a t : Int) : ∀ (ws : List Int) (o : List Nat) (out : List Int), out.length ≤ (Hp.roots ls a t ws o out).2.2.length
  | [], _, _ => Nat.le_refl _
  | w :: ws, o, out => Nat.le_trans (Hp.word_pre ls a t o out w).length_le (Hp.roots_pre ls a t ws _ _)
theorem Hp.fill_pre (ls : List Int) (a t : Int) : ∀ (ws : List Int) (p : Nat) (o : List Nat) (out : List Int), out.length ≤ (Hp.fill ls a t ws p o out).2.length
  | [], _, _, _ => Nat.le_refl _
  | w :: ws, p, o, out => by
    have h1 := (Hp.word_pre ls a t o out w).length_le
    have h2 := Hp.fill_pre ls a t ws (p + 1) (Hp.word ls a t o out w).2.1 ((Hp.word ls a t o out w).2.2.set p (Hp.word ls a t o out w).1)
    rw [List.length_set] at h2
    rw [Hp.fill]
    exact Nat.le_trans h1 h2
/-- Words are laid, one behind the other. -/
def putAll : List Int → Nat → (Nat → Nat) → (Nat → Nat)
  | [], _, M => M
  | x :: l, k, M => putAll l (k + 1) (upd M k x.toNat)

/-- One word is moved where it stands. -/
theorem eachStep {fs : List Fx} {ls : List Int} {hs : List Nat} {ka kt : Nat} {M0 M : Nat → Nat} {o : List Nat} {out : List Int} (sp : Sp ls hs ka kt) (hi : Hp.Inv ls hs o out) (hfs : fs[3]? = some ⟨1, 4, movingL⟩) (gc : Gc ls ka kt M0 o out M) {A T : Int} (hA : A = ((4 * ka : Nat) : Int)) (hT : T = ((4 * kt : Nat) : Int))
    {w : Int} {q : Nat} (hw : (M q : Int) = w) (hq : 4 * (q + 1) ≤ 262144) (hok : Hp.okw (Hp.mem hs) A w = true) {d : Nat} (hd : d < 5000) {outp : List Nat} {top en n v1 v2 v3 v4 bound : Nat} {b : Ex}
    (hb : Evl [4 * q, v1, v2, v3, v4] [top, 4 * (kt + out.length), 4 * ka, en, 4 * kt] M b bound) (hqb : 4 * q < bound) {Q : St → Nat → Prop}
    (hQ : ∀ s1 M' (v : Nat), (v : Int) = (Hp.word ls A T o out w).1 → Vw d outp s1 [4 * (q + 1), v, v2, v3, v4] [top, 4 * (kt + (Hp.word ls A T o out w).2.2.length), 4 * ka, en, 4 * kt] (upd M' q v) n → Gc ls ka kt M0 (Hp.word ls A T o out w).2.1 (Hp.word ls A T o out w).2.2 M' → Q s1 0) :
    Dv fs 3 d outp (Px.when (Px.t 79 (Px.v 0) b) [Px.leave] :: eachL) [4 * q, v1, v2, v3, v4] [top, 4 * (kt + out.length), 4 * ka, en, 4 * kt] M (n + 16 + 5 * ((Hp.word ls A T o out w).2.2.length - out.length)) Q := by
  subst hA hT hw
  refine Dv.weaken (n := (n + 2 + 12 + 5 * ((Hp.word ls ((4 * ka : Nat) : Int) ((4 * kt : Nat) : Int) o out (M q : Int)).2.2.length - out.length)) + 2) ?_ (by omega)
  have hge := Evl.ge (Evl.v (own := [4 * q, v1, v2, v3, v4]) (gs := [top, 4 * (kt + out.length), 4 * ka, en, 4 * kt]) (M := M) (x := 0) (by decide) rfl) hb
  rw [if_neg (by omega)] at hge
  refine Dv.skip hge ?_
  have hbnd := hi.bound sp.heads
  have htt := sp.t
  refine Dv.call (vs := [M q]) 1 3 rfl (fun s hs => hs.ev (Evl.load (Evl.v (x := 0) (by decide) rfl) (by omega))) (by simp) (by simp) fun s hs => ?_
  have hM := hs.mem.lt q
  refine (moveWord sp hi hfs gc hM hok hd hs).mono ?_
  rintro s1 e ⟨rfl, ht, M', hv, gc'⟩
  have hf := Hp.word_fst (ls := ls) (a := ((4 * ka : Nat) : Int)) (to := ((4 * kt : Nat) : Int)) (o := o) (out := out) (u := (M q : Int)) (by omega) (by omega) hi.len (by omega)
  refine ⟨rfl, hv.own, ?_⟩
  have hv2 := hv.set 1 s1.told
  rw [hv.own] at hv2
  refine (Dv.store (n := n + 1) q (Evl.v (x := 0) (by decide) rfl) (Evl.v (x := 1) (by decide) rfl) (by omega) (by omega) ?_ : Dv fs 3 d outp _ [4 * q, s1.told, v2, v3, v4] _ M' _ Q) _ hv2
  refine Dv.set 0 rfl (Evl.add (Evl.v (x := 0) (by decide) rfl) (Evl.n 4 rfl (by decide)) (by omega)) (by simp) [4 * (q + 1), s1.told, v2, v3, v4] (by simp; omega) ?_
  exact Dv.nil fun s2 hs2 => hQ s2 M' s1.told ht hs2 gc'

/-- The loop is left. -/
theorem eachLeave {fs : List Fx} {d : Nat} {outp own g : List Nat} {M : Nat → Nat} {n q bound : Nat} {b : Ex} {ts : List Lo} (h0 : own[0]? = some q) (hb : Evl own g M b bound) (hqb : bound ≤ q) {Q : St → Nat → Prop} {k : Nat}
    (hQ : ∀ s1, Vw d outp s1 own g M n → Q s1 0) : Lp fs (k + 1) d outp (Px.when (Px.t 79 (Px.v 0) b) [Px.leave] :: ts) own g M (n + 2) Q := by
  refine Lp.round ?_
  have hge := Evl.ge (Evl.v (own := own) (gs := g) (M := M) (x := 0) (by decide) h0) hb
  rw [if_pos hqb] at hge
  exact Dv.stop hge (by decide) (Dv.leave fun s hs hn => ⟨by decide, .inl ⟨rfl, hn, hQ s hs⟩⟩)

theorem rootsLoop {fs : List Fx} {ls : List Int} {hs : List Nat} {ka kt : Nat} (sp : Sp ls hs ka kt) (hfs : fs[3]? = some ⟨1, 4, movingL⟩) {A T : Int} (hA : A = ((4 * ka : Nat) : Int)) (hT : T = ((4 * kt : Nat) : Int)) {d : Nat} (hd : d < 5000) {outp : List Nat} {en n v2 v3 v4 : Nat} {Q : St → Nat → Prop} :
    ∀ (ws : List Int) (kr v1 : Nat) (M0 M : Nat → Nat) (o : List Nat) (out : List Int), Hp.Inv ls hs o out → Gc ls ka kt M0 o out M → Hp.okws (Hp.mem hs) A ws = true → (∀ j x, ws[j]? = some x → (M (kr + j) : Int) = x) →
      (∀ q, kr ≤ q → q < kr + ws.length → ¬ (ka ≤ q ∧ q < ka + ls.length) ∧ ¬ (kt ≤ q ∧ q < kt + ls.length)) → 4 * (kr + ws.length) ≤ 262144 →
      (∀ s1 v1' M', Vw d outp s1 [4 * (kr + ws.length), v1', v2, v3, v4] [4 * (kr + ws.length), 4 * (kt + (Hp.roots ls A T ws o out).2.2.length), 4 * ka, en, 4 * kt] M' n → Gc ls ka kt (putAll (Hp.roots ls A T ws o out).1 kr M0) (Hp.roots ls A T ws o out).2.1 (Hp.roots ls A T ws o out).2.2 M' → Hp.Inv ls hs (Hp.roots ls A T ws o out).2.1 (Hp.roots ls A T ws o out).2.2 → Q s1 0) →
      Lp fs 3 d outp rootsL [4 * kr, v1, v2, v3, v4] [4 * (kr + ws.length), 4 * (kt + out.length), 4 * ka, en, 4 * kt] M (n + 2 + 17 * ws.length + 5 * ((Hp.roots ls A T ws o out).2.2.length - out.length)) Q := by
  intro ws
  induction ws with
  | nil =>
    intro kr v1 M0 M o out hi gc _ _ _ _ hQ
    refine Lp.weaken (n := n + 2) ?_ (by omega)
    exact eachLeave (k := 2) (bound := 4 * (kr + 0)) rfl (Evl.g (x := 0) (by decide) rfl) (by omega) fun s1 hs1 => hQ s1 v1 M (by simpa [Hp.roots] using hs1) (by simpa [Hp.roots, putAll] using gc) (by simpa [Hp.roots] using hi)
  | cons w ws ih =>
    intro kr v1 M0 M o out hi gc hok hM hout hb hQ
    unfold Hp.okws at hok
    rw [List.all_cons, Bool.and_eq_true] at hok
    have hi2 := (hi.word sp.heads (to := T) hok.1).1
    have hp1 := (Hp.word_pre ls A T o out w).length_le
    have hp2 := Hp.roots_pre ls A T ws (Hp.word ls A T o out w).2.1 (Hp.word ls A T o out w).2.2
    have hbd := (hi.bound sp.heads).1
    have hbd2 := (hi2.bound sp.heads).1
    rw [List.length_cons] at hout hb hQ ⊢
    rw [Hp.roots] at hQ ⊢
    simp only at hQ ⊢
    refine Lp.weaken (n := (n + 2 + 17 * ws.length + 5 * ((Hp.roots ls A T ws (Hp.word ls A T o out w).2.1 (Hp.word ls A T o out w).2.2).2.2.length - (Hp.word ls A T o out w).2.2.length)) + 1 + 16 + 5 * ((Hp.word ls A T o out w).2.2.length - out.length)) ?_ (by omega)
    refine Lp.round ?_
    have hkr := hout kr (Nat.le_refl _) (by omega)
    refine eachStep sp hi hfs gc hA hT (w := w) (q := kr) (bound := 4 * (kr + (ws.length + 1))) (by simpa using hM 0 w rfl) (by omega) hok.1 hd (Evl.g (x := 0) (by decide) rfl) (by omega) ?_
    intro s1 M' v hv hs1 gc'
    refine .inr ⟨rfl, _, _, _, _, hs1, ?_⟩
    have gc2 := gc'.outside hbd2 kr v hkr.1 hkr.2
    have hvt : v = (Hp.word ls A T o out w).1.toNat := by omega
    have := ih (kr + 1) v (upd M0 kr v) (upd M' kr v) _ _ hi2 gc2 hok.2 (fun j x hx => ?_) (fun q h1 h2 => hout q (by omega) (by omega)) (by omega) ?_
    · rw [show kr + (ws.length + 1) = kr + 1 + ws.length by omega]
      exact this
    · have hj := (List.getElem?_eq_some_iff.1 hx).1
      have ho := hout (kr + 1 + j) (by omega) (by omega)
      rw [upd_other (by omega), gc'.rest _ ho.1 ho.2, ← gc.rest _ ho.1 ho.2]
      have := hM (j + 1) x (by simpa using hx)
      rw [show kr + 1 + j = kr + (j + 1) by omega]
      exact this
    · intro s2 v1' M2 hs2 gc3 hi3
      rw [show kr + 1 + ws.length = kr + (ws.length + 1) by omega] at hs2
      refine hQ s2 v1' M2 hs2 ?_ hi3
      rw [putAll, ← hvt]
      exact gc3

theorem fillLoop {fs : List Fx} {ls : List Int} {hs : List Nat} {ka kt : Nat} (sp : Sp ls hs ka kt) (hfs : fs[3]? = some ⟨1, 4, movingL⟩) {A T : Int} (hA : A = ((4 * ka : Nat) : Int)) (hT : T = ((4 * kt : Nat) : Int)) {d : Nat} (hd : d < 5000) {outp : List Nat} {top en n v2 v4 : Nat} {M0 : Nat → Nat} {Q : St → Nat → Prop} :
    ∀ (ws : List Int) (p v1 : Nat) (M : Nat → Nat) (o : List Nat) (out : List Int), Hp.Inv ls hs o out → Gc ls ka kt M0 o out M → Hp.okws (Hp.mem hs) A ws = true → (∀ j x, ws[j]? = some x → out[p + j]? = some x) → p + ws.length ≤ out.length →
      (∀ s1 v1' M', Vw d outp s1 [4 * (kt + p + ws.length), v1', v2, 4 * (kt + p + ws.length), v4] [top, 4 * (kt + (Hp.fill ls A T ws p o out).2.length), 4 * ka, en, 4 * kt] M' n → Gc ls ka kt M0 (Hp.fill ls A T ws p o out).1 (Hp.fill ls A T ws p o out).2 M' → Q s1 0) →
      Lp fs 3 d outp wordsL [4 * (kt + p), v1, v2, 4 * (kt + p + ws.length), v4] [top, 4 * (kt + out.length), 4 * ka, en, 4 * kt] M (n + 2 + 17 * ws.length + 5 * ((Hp.fill ls A T ws p o out).2.length - out.length)) Q := by
  intro ws
  induction ws with
  | nil =>
    intro p v1 M o out hi gc _ _ _ hQ
    refine Lp.weaken (n := n + 2) ?_ (by omega)
    exact eachLeave (k := 2) (bound := 4 * (kt + p + 0)) rfl (Evl.v (x := 3) (by decide) rfl) (by omega) fun s1 hs1 => hQ s1 v1 M (by simpa [Hp.fill] using hs1) (by simpa [Hp.fill] using gc)
  | cons w ws ih =>
    intro p v1 M o out hi gc hok hM hb hQ
    unfold Hp.okws at hok
    rw [List.all_cons, Bool.and_eq_true] at hok
    have hi2 := (hi.word sp.heads (to := T) hok.1).1
    have hp0 := Hp.word_pre ls A T o out w
    have hp1 := hp0.length_le
    have hp2 := Hp.fill_pre ls A T ws (p + 1) (Hp.word ls A T o out w).2.1 ((Hp.word ls A T o out w).2.2.set p (Hp.word ls A T o out w).1)
    rw [List.length_set] at hp2
    have hbd := (hi.bound sp.heads).1
    have hbd2 := (hi2.bound sp.heads).1
    have htt := sp.t
    rw [List.length_cons] at hb hQ ⊢
    rw [Hp.fill] at hQ ⊢
    refine Lp.weaken (n := (n + 2 + 17 * ws.length + 5 * ((Hp.fill ls A T ws (p + 1) (Hp.word ls A T o out w).2.1 ((Hp.word ls A T o out w).2.2.set p (Hp.word ls A T o out w).1)).2.length - (Hp.word ls A T o out w).2.2.length)) + 1 + 16 + 5 * ((Hp.word ls A T o out w).2.2.length - out.length)) ?_ (by omega)
    refine Lp.round ?_
    refine eachStep sp hi hfs gc hA hT (w := w) (q := kt + p) (bound := 4 * (kt + p + (ws.length + 1))) (gc.to p w (by simpa using hM 0 w rfl)) (by omega) hok.1 hd (Evl.v (x := 3) (by decide) rfl) (by omega) ?_
    intro s1 M' v hv hs1 gc'
    refine .inr ⟨rfl, _, _, _, _, hs1, ?_⟩
    have gc2 := gc'.inside sp hbd2 p v (by omega)
    rw [hv] at gc2
    have := ih (p + 1) v (upd M' (kt + p) v) _ _ ⟨hi2.nodup, hi2.sub, by rw [List.length_set]; exact hi2.len⟩ gc2 hok.2 (fun j x hx => ?_) (by rw [List.length_set]; omega) ?_
    · rw [show kt + (p + 1) + ws.length = kt + p + (ws.length + 1) by omega, show kt + (p + 1) = kt + p + 1 by omega, List.length_set] at this
      exact this
    · have hj := (List.getElem?_eq_some_iff.1 hx).1
      rw [List.getElem?_set_ne (by omega)]
      have h2 := hM (j + 1) x (by simpa using hx)
      rw [show p + 1 + j = p + (j + 1) by omega]
      obtain ⟨t, ht⟩ := hp0
      rw [← ht, List.getElem?_append_left (by omega)]
      exact h2
    · intro s2 v1' M2 hs2 gc3
      rw [show kt + (p + 1) + ws.length = kt + p + (ws.length + 1) by omega] at hs2
      exact hQ s2 v1' M2 hs2 gc3

end Go.Proofs.YtgohnekaolgblaaGreat
