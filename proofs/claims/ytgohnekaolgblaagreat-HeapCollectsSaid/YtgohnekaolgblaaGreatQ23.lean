/- A program is done, from its Main: contract (gimletref28.Call). -/
import Derived.Test.YtgohnekaolgblaaGreatQ20
import Derived.Test.YtgohnekaolgblaaGreatQ22
import Derived.Test.YtgohnekaolgblaaGreatQ05
import Derived.Test.YtgohnekaolgblaaGreatQ04
namespace Go.Proofs.YtgohnekaolgblaaGreat
open Go.RowKit

/-- What is left of a program's run. -/
def RanEnd (w : World) (s1 : St) (at_ : Int) (nB : Nat) (r : Value) (w' : World) : Prop := ∃ g outv, r = .tuple #[.int .u32 (s1.told : Int), .slice (some ⟨g, 0, none⟩) nB nB, .agg #[.int .i64 0, .int .i64 0, .int .i64 0, .int .i64 (s1.used : Int), outv]] ∧ w'.rowIs g 5 nB (fun k => .int .u8 (Mm.get s1.L (at_ + (k : Int)))) ∧ OwnY w' w.heap.size outv s1.out ∧ Below w.heap.size w w'

set_option maxRecDepth 100000 in
set_option maxHeartbeats 2000000 in
theorem ma28Call (S : Nat → Prop) (fs : List Fx) (w : World) (A Ag Ad : Option Addr) (cf cg cd : Nat) (pages steps main nB k : Nat) (gs : List Nat) (bs : List Int) (at_ : Int) (s1 : St) (hfs : FxL S w fs (.slice A fs.length cf)) (hG : Sees .u32 w (.slice Ag gs.length cg) (gs.map fun n : Nat => (n : Int))) (hD : Sees .u8 w (.slice Ad bs.length cd) bs)
    (hpg : 4 ≤ pages ∧ pages ≤ 7) (hbs : 16 + bs.length ≤ pages * 65536) (hg0 : 0 < gs.length) (hgl : gs.length ≤ 100) (hgr : ∀ v ∈ gs, v < 4294967296) (hbr : ∀ x ∈ bs, 0 ≤ x ∧ x < 256) (hst : steps ≤ 1000000000) (hfl : fs.length ≤ 16384) (hok : ∀ f ∈ fs, f.ok gs.length (fs.map Fx.p)) (hm1 : main < fs.length) (hm2 : fs[main].p = 0)
    (hat : 0 ≤ at_ ∧ at_ < 4294967296) (hin : at_ + nB ≤ (pages : Int) * 65536) (hR : Runs fs k (.call main []) (St.start gs bs pages steps) s1 0) :
    Calls Tryz.prog 12 #[.agg #[.slice A fs.length cf, .slice Ag gs.length cg, .slice Ad bs.length cd, .int .i64 (pages : Int), .int .i64 (main : Int)], .int .i64 (main : Int), .slice none 0 0, .int .i64 (steps : Int), .int .u32 at_, .int .u32 (nB : Int)] w fun e w' => ∃ r, e = .returned r ∧ RanEnd w s1 at_ nB r w' := by
  obtain ⟨F, hF⟩ : ∃ F : Nat → Prop, F = fun b => S b ∧ b < w.heap.size := ⟨_, rfl⟩
  have hFw : ∀ b, F b → b < w.heap.size := by subst hF; exact fun b h => h.2
  replace hfs : FxL F w fs (.slice A fs.length cf) := hfs.mono (by subst hF; exact fun b hb hS => ⟨hS, hb⟩)
  clear hF
  obtain ⟨b0, off, A1, k1, rfl, hbw, hFb, c0, -, -, -⟩ := hfs.elem main hm1
  rw [hm2] at c0
  have hmI : (main : Int) < (fs.length : Int) := by omega
  have hflI : (fs.length : Int) ≤ 16384 := by omega
  have hstI : (steps : Int) ≤ 1000000000 := by omega
  have hnBI : (nB : Int) ≤ 1048576 := by omega
  obtain ⟨told, htold⟩ : ∃ told, told = s1.told := ⟨_, rfl⟩
  have hCk := fun wr (hb : Below w.heap.size w wr) => rCheck F fs (some ⟨b0, off, none⟩) Ag Ad cf gs.length cg bs.length cd pages main wr (hfs.below hb) hfl hgl (by omega) hok (by omega) (by simpa using hm1) (by simpa using hm2) (by omega)
  have hNw := fun wr (hb : Below w.heap.size w wr) => maNew F fs wr _ _ _ pages steps main gs bs (fun b h => Nat.lt_of_lt_of_le (hFw b h) hb.size) (hfs.below hb) (hG.below hb (Nat.le_refl _)) (hD.below hb (Nat.le_refl _)) (by omega) hbs hg0 (by omega) hgr hbr hst
  have V1 := VB.new w 30 #[.slice (some ⟨b0, off, none⟩) fs.length cf, .slice Ag gs.length cg, .slice Ad bs.length cd, .int .i64 (pages : Int), .int .i64 (main : Int)]
  replace hCk := Lib.hid hCk
  replace hNw := Lib.hid hNw
  replace hR := Lib.hid hR
  replace htold := Lib.hid htold
  replace hok := Lib.hid hok
  replace hgr := Lib.hid hgr
  replace hbr := Lib.hid hbr
  replace hFw := Lib.hid hFw
  replace hfs := Lib.hid hfs
  clear hG hD
  go_enter Tryz.func12, Tryz.ntmps12
  go_wp2_with fail
  refine (hCk.out _ (B.alloc (B.alloc (B.refl w) _) _)).mono ?_
  rintro _ w3 ⟨rfl, b3⟩
  have B3 : Below w.heap.size w w3 := by
    refine (B.alloc (B.alloc (B.refl w) _) _).trans (b3.mono ?_)
    simp
    omega
  have V3 := (V1.alloc (.cells #[.int .i64 0, .int .i64 0, .int .i64 0, .int .i64 0, .slice none 0 0] 44)).call b3
  have U3 := VB.call (VB.new (w.alloc (.cells #[.slice (some ⟨b0, off, none⟩) fs.length cf, .slice Ag gs.length cg, .slice Ad bs.length cd, .int .i64 (pages : Int), .int .i64 (main : Int)] 30)) 44 #[.int .i64 0, .int .i64 0, .int .i64 0, .int .i64 0, .slice none 0 0]) b3
  simp only [World.size_alloc] at U3
  have hs3 := U3.lt
  have y0 := V3.cell 0
  have y1 := V3.cell 1
  have y2 := V3.cell 2
  have y3 := V3.cell 3
  have y4 := V3.cell 4
  simp at y0 y1 y2 y3 y4
  have c03 := (B3.cell (p := ⟨b0, off + main * 3, none⟩) hbw).trans c0
  have hN3 := Lib.hid (hNw.out w3 B3)
  replace B3 := Lib.hid B3
  clear b3 hCk hNw V1
  go_wp2_with fail
  refine hN3.out.mono ?_
  rintro _ w4 ⟨K, hK, rfl, ⟨sv, M4⟩, b4⟩
  have C5 := Lib.hid (maCalls F fs K k w4 sv _ _ (.slice none 0 0) _ s1 0 main 0 [] M4 (World.ownsRow_nil _ _ _ _) (by simp) hR.out)
  replace M4 := Lib.hid M4
  clear hN3
  go_wp2_with fail
  refine C5.out.mono ?_
  rintro _ w5 ⟨rfl, sv5, outv5, M5, G5, -⟩
  have b5 : Below w3.heap.size w4 w5 := G5.toBelow b4.size fun k e => hK ▸ M4.out.lo k e.s
  have b35 := b4.trans b5
  have x5 := M5.vb.cell 5
  have xl := M5.vb.lt
  simp [Mx.cells] at x5
  have hlen5 := M5.ok.len
  have hml5 := M5.mem.vb.lt
  have hN5 : s1.N = pages := hR.out.same.2.2.1
  have hRd := mmRead w5 (K.m + 1) K.m (s1.N : Int) 65536 sv5 s1.L at_ nB M5.mem (by omega) (by omega) (by omega) (by omega)
  have hlx := M5.lox
  replace M5 := Lib.hid M5
  replace hRd := Lib.hid hRd
  clear C5 G5 M4 b5
  go_wp2_with fail
  refine hRd.out.mono ?_
  rintro _ w6 ⟨gB, hgB, rfl, row6, b6⟩
  have M6 := M5.out.below b6
  have b36 := b35.trans (b6.mono b35.size)
  have U6 := U3.call b36
  have hsz6 := b36.size
  have hsz5 := b35.size
  have l8 := M6.vb.cell 8
  have l9 := M6.vb.cell 9
  have l10 := M6.vb.cell 10
  have l11 := M6.vb.cell 11
  have l12 := M6.vb.cell 12
  have l15 := M6.vb.cell 15
  simp [Mx.cells] at l8 l9 l10 l11 l12 l15
  have e0 := U6.cell 0
  have e1 := U6.cell 1
  have e2 := U6.cell 2
  have e3 := U6.cell 3
  have e4 := U6.cell 4
  simp at e0 e1 e2 e3 e4
  have q0 := U6.free 0
  have q1 := U6.free 1
  have q2 := U6.free 2
  have q3 := U6.free 3
  have q4 := U6.free 4
  have ul := U6.lt
  have hne : w.heap.size + 1 ≠ K.x := by omega
  obtain ⟨outA, outc, rfl⟩ := row_slice M6.out
  replace M6 := Lib.hid M6
  replace U6 := Lib.hid U6
  replace row6 := Lib.hid row6
  replace b36 := Lib.hid b36
  clear hRd M5 b6 b35 b4 U3 V3
  go_wp2_with fail
  go_region
  all_goals (
    have U7 := (U6.out.set5 (.int .i64 0) (.int .i64 0) (.int .i64 0) (.int .i64 (s1.used : Int)) (.slice outA s1.out.length outc)).drew
    have r0 := U7.cell 0
    have r1 := U7.cell 1
    have r2 := U7.cell 2
    have r3 := U7.cell 3
    have r4 := U7.cell 4
    simp at r0 r1 r2 r3 r4
    go_wp2_with fail
    refine bodyPost_ret (v := .tuple #[.int .u32 (s1.told : Int), .slice (some ⟨gB, 0, none⟩) nB nB, .agg #[.int .i64 0, .int .i64 0, .int .i64 0, .int .i64 (s1.used : Int), .slice outA s1.out.length outc]]) (by simp [results, Tryz.results12, go_sem, r0, r1, r2, r3, r4]) rfl ⟨_, rfl, ?_⟩
    have hk : ∀ b, b ≠ w.heap.size + 1 → (((((w6.setCell ⟨w.heap.size + 1, 0, none⟩ (.int .i64 0)).setCell ⟨w.heap.size + 1, 1, none⟩ (.int .i64 0)).setCell ⟨w.heap.size + 1, 2, none⟩ (.int .i64 0)).setCell ⟨w.heap.size + 1, 3, none⟩ (.int .i64 (s1.used : Int))).setCell ⟨w.heap.size + 1, 4, none⟩ (.slice outA s1.out.length outc)).drew.heap[b]? = w6.heap[b]? := fun b hb => by
      exact (Below.heap_setCell _ ⟨w.heap.size + 1, 4, none⟩ _ b hb).trans ((Below.heap_setCell _ ⟨w.heap.size + 1, 3, none⟩ _ b hb).trans ((Below.heap_setCell _ ⟨w.heap.size + 1, 2, none⟩ _ b hb).trans ((Below.heap_setCell _ ⟨w.heap.size + 1, 1, none⟩ _ b hb).trans (Below.heap_setCell _ ⟨w.heap.size + 1, 0, none⟩ _ b hb))))
    refine ⟨gB, _, rfl, ?_, row_keep (row_low M6.out.out (by omega)) fun b hb => hk b (fun e => ?_), below_drew (B.set5 (B3.out.trans (b36.out.mono (by omega))) (by omega) _ _ _ _ _)⟩
    · exact World.rowIs.of_block row6.out (hk gB (by omega))
    · have := (World.ownsRow.lt M6.out.out b hb).1
      omega)

end Go.Proofs.YtgohnekaolgblaaGreat

/- gimletref29.place, Fields, starts: contracts (printed by wip/gen_rha.py). -/
namespace Go.Proofs.YtgohnekaolgblaaGreat
open Go.RowKit

theorem rhPlace (a : Int) (w : World) (h0 : 0 ≤ a) (h1 : a < 4294967296) : Calls Tryz.prog 20 #[.int .u32 a] w fun e w' => e = .returned (.bool (decide (Hp.place a))) ∧ w' = w := by
  by_cases c1 : 8 ≤ a
  · by_cases c2 : a % 8 = 0
    · by_cases c3 : a ≤ 2147483648
      · rw [show decide (Hp.place a) = true by simpa using ⟨c1, c2, c3⟩]
        go_enter Tryz.func20, Tryz.ntmps20
        go_wp2_with fail
        go_returns
        exact ⟨rfl, rfl⟩
      · rw [show decide (Hp.place a) = false from decide_eq_false fun h => by have := h.2.2; omega]
        go_enter Tryz.func20, Tryz.ntmps20
        go_wp2_with fail
        go_returns
        exact ⟨rfl, rfl⟩
    · rw [show decide (Hp.place a) = false from decide_eq_false fun h => by have := h.2.1; omega]
      have c2' : (a % 8 == 0) = false := by simpa using c2
      go_enter Tryz.func20, Tryz.ntmps20
      go_wp2_with fail
      go_returns
      exact ⟨rfl, rfl⟩
  · rw [show decide (Hp.place a) = false from decide_eq_false fun h => by have := h.1; omega]
    go_enter Tryz.func20, Tryz.ntmps20
    go_wp2_with fail
    go_returns
    exact ⟨rfl, rfl⟩

set_option maxHeartbeats 1000000 in
theorem rhFields (v : Value) (ls : List Int) (i : Nat) (w : World) (hv : Sees .u32 w v ls) (hr : ∀ x ∈ ls, 0 ≤ x ∧ x < 4294967296) (hh : Hp.Head ls i) :
    Calls Tryz.prog 22 #[v, .int .i64 (i : Int)] w fun e w' => ∃ o, e = .returned o ∧ Sees .u32 w o (Hp.fields ls i) ∧ w' = w := by
  obtain ⟨hlt, hyes, hfit⟩ := hh
  obtain ⟨hp1, hp2, hp3, hp4⟩ := Wd.words_pos hyes
  obtain ⟨A, c, rfl, h1, h2, h3⟩ := hv
  obtain ⟨b, off, rfl, hc⟩ := h3 (by intro e; subst e; simp at hlt)
  unfold maxLen at h2
  obtain ⟨h, hhd⟩ : ∃ h, h = ls[i] := ⟨_, rfl⟩
  have hrr := hr _ (List.getElem_mem hlt)
  have hci := hc i hlt
  rw [← hhd] at hrr hci hyes hfit hp1 hp2 hp3 hp4
  have hfe : Hp.fields ls i = if (Wd.unhead h).1 = 2 then [] else (ls.drop (i + 1)).take (Hp.sz h) := by
    unfold Hp.fields
    rw [List.getElem?_eq_getElem hlt, ← hhd]
  obtain ⟨kd, n, s0, ok, hun⟩ : ∃ kd n s0 ok, Wd.unhead h = (kd, n, s0, ok) := ⟨_, _, _, _, rfl⟩
  have hs0 := Wd.unhead_size h
  unfold Hp.sz at hfe hp3
  have HU : ∀ w, Calls Tryz.prog 27 #[.int .u32 h] w fun e w' => e = .returned (.tuple #[.int .i64 kd, .int .i64 n, .int .i64 s0, .bool ok]) ∧ w' = w := fun w => by
    have h := refUnhead h w hrr.1 hrr.2
    rw [hun] at h
    exact h
  rw [hun] at hfe hs0 hp2 hp3
  simp only at hfe hs0 hp2 hp3
  replace HU := Lib.hid HU
  have HC := Lib.hid hc
  clear hun hhd hr hc h3
  by_cases hk : kd = 2
  · rw [if_pos hk] at hfe
    subst hk
    replace hfe := Lib.hid hfe
    go_enter Tryz.func22, Tryz.ntmps22
    go_wp2_with fail
    refine (HU.out _).mono ?_
    rintro _ w1 ⟨rfl, hw1⟩
    subst hw1
    go_wp2_with fail
    go_returns
    exact ⟨_, rfl, by rw [hfe.out]; exact Sees.nil _ _, rfl⟩
  · rw [if_neg hk] at hfe
    have hk' : (kd == 2) = false := by simpa using hk
    have hsz := hp3 hk
    obtain ⟨s, hs⟩ : ∃ s : Nat, s = s0.toNat := ⟨_, rfl⟩
    obtain rfl : s0 = (s : Int) := by omega
    rw [← hs] at hfe hsz
    clear hp3 hs
    by_cases hcq : c = i + 1
    · have hs00 : s = 0 := by omega
      subst hs00
      replace hfe := Lib.hid hfe
      go_enter Tryz.func22, Tryz.ntmps22
      go_wp2_with fail
      refine (HU.out _).mono ?_
      rintro _ w1 ⟨rfl, hw1⟩
      subst hw1
      go_wp2_with fail
      go_returns
      exact ⟨_, rfl, by rw [hfe.out]; simpa using Sees.cut HC.out (i + 1) 0 0 _ (by omega) (by omega) (by omega) (by simp), rfl⟩
    · replace hfe := Lib.hid hfe
      go_enter Tryz.func22, Tryz.ntmps22
      go_wp2_with fail
      refine (HU.out _).mono ?_
      rintro _ w1 ⟨rfl, hw1⟩
      subst hw1
      go_wp2_with fail
      go_returns
      refine ⟨_, rfl, ?_, rfl⟩
      rw [hfe.out]
      show Sees .u32 _ (.slice _ (i + 1 + s - (i + 1)) _) _
      rw [show i + 1 + s - (i + 1) = s by omega]
      exact Sees.cut HC.out (i + 1) s (c - (i + 1)) _ (by intro _; rfl) (by omega) (by omega) (by unfold maxLen; omega)

/-- Places, as ints. -/
def OwnI (w : World) (lo : Nat) (v : Value) (l : List Nat) : Prop := Owns 3 .i64 lo w v (l.map fun n : Nat => (n : Int))
/-- What is told of where things are laid. -/
def StartsAt (w : World) (o : Option (List Nat)) (r : Value) (w' : World) : Prop := Below w.heap.size w w' ∧ match o with | none => r = .tuple #[.slice none 0 0, .bool false] | some hs => ∃ v, r = .tuple #[v, .bool true] ∧ OwnI w' w.heap.size v hs

set_option maxRecDepth 100000 in
set_option maxHeartbeats 1000000 in
theorem rhStarts (v : Value) (ls : List Int) (w : World) (hv : Sees .u32 w v ls) (hr : ∀ x ∈ ls, 0 ≤ x ∧ x < 4294967296) (hll : ls.length ≤ 65536) :
    Calls Tryz.prog 19 #[v] w fun e w' => ∃ r, e = .returned r ∧ StartsAt w (Hp.heads ls) r w' := by
  obtain ⟨A, c, rfl, h1, h2, h3⟩ := hv
  obtain ⟨O, hO⟩ : ∃ O, O = Hp.heads ls := ⟨_, rfl⟩
  rw [← hO]
  replace hO := Lib.hid hO
  replace h3 := Lib.hid h3
  replace hr := Lib.hid hr
  obtain ⟨iC, hiC, hzC, hsC, hbC⟩ := info_parts3 (show (Tryz.prog.info? 3).map (fun i => (i.zero, i.size, i.bytes)) = some (some (.int .i64 0), 1, 8) by kernel_rfl)
  replace hiC := Lib.hid hiC
  replace hzC := Lib.hid hzC
  replace hsC := Lib.hid hsC
  replace hbC := Lib.hid hbC
  have hllI : (ls.length : Int) ≤ 65536 := by omega
  go_enter Tryz.func19, Tryz.ntmps19
  go_wp2_with fail
  go_loopw [4, 5] (fun lv q wr => ∃ (i : Nat) (done : List Nat), q = .int .i64 (i : Int) ∧ i ≤ ls.length ∧ done.length ≤ i ∧ OwnI wr w.heap.size lv done ∧ Below w.heap.size w wr ∧ O = (Hp.from ls i).map (done ++ ·))
    (fun _ q _ => ls.length - (intOf q).toNat)
  case atStart => exact ⟨0, [], rfl, by omega, by simp, World.ownsRow_nil _ _ _ _, B.refl w, by rw [hO.out]; simp [Hp.heads, Hp.from]⟩
  case round =>
    obtain ⟨i, done, rfl, hi, hdl, hown, hb, hrel⟩ := hrel
    by_cases hil : i < ls.length
    · obtain ⟨b, off, rfl, hc⟩ := h3.out (by intro e; subst e; simp at hil)
      have hci := cellK hb (hc i hil)
      have hri := hr.out _ (List.getElem_mem hil)
      have hbad := Hp.from_bad ls i hil
      have hnext := Hp.from_next ls i hil
      have hpos := Wd.words_pos (h := ls[i])
      unfold Hp.wn at hbad hnext hpos
      obtain ⟨x, hx⟩ : ∃ x, x = ls[i] := ⟨_, rfl⟩
      rw [← hx] at hci hri hbad hnext hpos
      have HW := fun w => refWords x w hri.1 hri.2
      obtain ⟨n, ok, hw⟩ : ∃ n ok, Wd.words x = (n, ok) := ⟨_, _, rfl⟩
      rw [hw] at HW hbad hnext hpos
      simp only at HW hbad hnext hpos
      have hilI : (i : Int) < (ls.length : Int) := by omega
      replace HW := Lib.hid HW
      replace hrel := Lib.hid hrel
      replace hown := Lib.hid hown
      have HB := Lib.hid hb
      have hbs := hb.size
      clear hc hx hw hb
      cases ok with
      | false =>
        have hn := Lib.hid (hbad (.inl rfl))
        clear hbad hnext hpos
        go_wp2_with fail
        refine (HW.out _).mono ?_
        rintro _ w1 ⟨rfl, hw1⟩
        subst hw1
        go_wp2_with fail
        go_returns
        refine ⟨_, rfl, HB.out, ?_⟩
        rw [hrel.out, hn.out]
        rfl
      | true =>
        have hp := (hpos rfl).1
        have hp2 := (hpos rfl).2.2.2
        by_cases hgt : n > (ls.length : Int) - (i : Int)
        · have hn := Lib.hid (hbad (.inr (by omega)))
          clear hbad hnext hpos
          go_wp2_with fail
          refine (HW.out _).mono ?_
          rintro _ w1 ⟨rfl, hw1⟩
          subst hw1
          go_wp2_with fail
          go_returns
          refine ⟨_, rfl, HB.out, ?_⟩
          rw [hrel.out, hn.out]
          rfl
        · have hn := Lib.hid (hnext rfl (by omega))
          have hdl2 : (done.map fun n : Nat => (n : Int)).length ≤ 65536 := by simp; omega
          have hwsum : IntKind.i64.wrap ((i : Int) + n) = (i : Int) + n := IntWalk.i64_in _ (by omega)
          have hadd : (i : Int) + n = ((i + n.toNat : Nat) : Int) := by omega
          obtain ⟨xs, hxs⟩ : ∃ xs : List Int, xs = done.map fun n : Nat => (n : Int) := ⟨_, rfl⟩
          have hown2 := hown.out
          unfold OwnI at hown2
          rw [← hxs] at hown2
          rw [← hxs] at hdl2
          replace hxs := Lib.hid hxs
          replace hdl2 := Lib.hid hdl2
          replace hadd := Lib.hid hadd
          clear hbad hnext hpos hown
          go_wp2_with fail
          refine (HW.out _).mono ?_
          rintro _ w1 ⟨rfl, hw1⟩
          subst hw1
          go_wp2_with (at_builtin; refine app_own Tryz.underlying54 hiC.out hzC.out hsC.out hbC.out rfl _ _ rfl rfl rfl hown2 HB.out hbs (by have := hdl2.out; omega) (by have := hdl2.out; unfold maxLen; omega) ?_; intro v5 w5 own5 b5 z5)
          exact ⟨⟨i + n.toNat, done ++ [i], by rw [← hadd.out], by omega, by simp; omega, by unfold OwnI; rw [List.map_append, ← hxs.out]; exact own5, b5, by rw [hrel.out, hn.out]; simp [Option.map_map, Function.comp_def]⟩, by have := hadd.out; simp only [intOf]; omega⟩
    · obtain rfl : i = ls.length := by omega
      have he := Hp.from_end ls ls.length (Nat.le_refl _)
      rw [he] at hrel
      replace hrel := Lib.hid hrel
      replace hown := Lib.hid hown
      have HB := Lib.hid hb
      clear he hb
      go_wp2_with fail
      go_returns
      refine ⟨_, rfl, HB.out, ?_⟩
      rw [hrel.out]
      exact ⟨_, rfl, by simpa using hown.out⟩

end Go.Proofs.YtgohnekaolgblaaGreat
