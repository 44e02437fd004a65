/- (*gimletref29.mover).moved, Fields: contracts (printed by wip/gen_rhg.py). -/
import Derived.Test.YtgohnekaolgblaaGreatQ30
namespace Go.Proofs.YtgohnekaolgblaaGreat
open Go.RowKit

set_option maxHeartbeats 1000000 in
theorem rhFieldsB (v : Value) (ls : List Int) (i : Nat) (w : World) (hv : Sees .u32 w v ls) (hr : ∀ x ∈ ls, 0 ≤ x ∧ x < 4294967296) (hh : Hp.Head ls i) :
    Calls Tryz.prog 22 #[v, .int .i64 (i : Int)] w fun e w' => ∃ o, e = .returned o ∧ (∀ w2 B, SeesB .u32 B w2 v ls → SeesB .u32 B w2 o (Hp.fields ls i)) ∧ w' = w := by
  obtain ⟨hlt, hyes, hfit⟩ := hh
  obtain ⟨hp1, hp2, hp3, hp4⟩ := Wd.words_pos hyes
  obtain ⟨A, c, rfl, h1, h2, h3⟩ := hv
  obtain ⟨b, off, rfl, hc⟩ := h3 (by intro e; subst e; simp at hlt)
  unfold maxLen at h2
  obtain ⟨h, hhd⟩ : ∃ h, h = ls[i] := ⟨_, rfl⟩
  have hrr := hr _ (List.getElem_mem hlt)
  have hci := hc i hlt
  rw [← hhd] at hrr hci hyes hfit hp1 hp2 hp3 hp4
  have hfe : Hp.fields ls i = if (Wd.unhead h).1 = 2 then [] else (ls.drop (i + 1)).take (Hp.sz h) := by
    unfold Hp.fields
    rw [List.getElem?_eq_getElem hlt, ← hhd]
  obtain ⟨kd, n, s0, ok, hun⟩ : ∃ kd n s0 ok, Wd.unhead h = (kd, n, s0, ok) := ⟨_, _, _, _, rfl⟩
  have hs0 := Wd.unhead_size h
  unfold Hp.sz at hfe hp3
  have HU : ∀ w, Calls Tryz.prog 27 #[.int .u32 h] w fun e w' => e = .returned (.tuple #[.int .i64 kd, .int .i64 n, .int .i64 s0, .bool ok]) ∧ w' = w := fun w => by
    have h := refUnhead h w hrr.1 hrr.2
    rw [hun] at h
    exact h
  rw [hun] at hfe hs0 hp2 hp3
  simp only at hfe hs0 hp2 hp3
  replace HU := Lib.hid HU
  clear hun hhd hr hc h3
  by_cases hk : kd = 2
  · rw [if_pos hk] at hfe
    subst hk
    replace hfe := Lib.hid hfe
    go_enter Tryz.func22, Tryz.ntmps22
    go_wp2_with fail
    refine (HU.out _).mono ?_
    rintro _ w1 ⟨rfl, hw1⟩
    subst hw1
    go_wp2_with fail
    go_returns
    exact ⟨_, rfl, fun w2 B _ => by rw [hfe.out]; exact SeesB.none _, rfl⟩
  · rw [if_neg hk] at hfe
    have hk' : (kd == 2) = false := by simpa using hk
    have hsz := hp3 hk
    obtain ⟨s, hs⟩ : ∃ s : Nat, s = s0.toNat := ⟨_, rfl⟩
    obtain rfl : s0 = (s : Int) := by omega
    rw [← hs] at hfe hsz
    clear hp3 hs
    by_cases hcq : c = i + 1
    · have hs00 : s = 0 := by omega
      subst hs00
      replace hfe := Lib.hid hfe
      go_enter Tryz.func22, Tryz.ntmps22
      go_wp2_with fail
      refine (HU.out _).mono ?_
      rintro _ w1 ⟨rfl, hw1⟩
      subst hw1
      go_wp2_with fail
      go_returns
      exact ⟨_, rfl, fun w2 B _ => by rw [hfe.out]; simpa using SeesB.none _, rfl⟩
    · replace hfe := Lib.hid hfe
      go_enter Tryz.func22, Tryz.ntmps22
      go_wp2_with fail
      refine (HU.out _).mono ?_
      rintro _ w1 ⟨rfl, hw1⟩
      subst hw1
      go_wp2_with fail
      go_returns
      refine ⟨_, rfl, fun w2 B h2' => ?_, rfl⟩
      rw [hfe.out]
      show SeesB .u32 B _ (.slice _ (i + 1 + s - (i + 1)) _) _
      rw [show i + 1 + s - (i + 1) = s by omega]
      exact h2'.cut (i + 1) s (c - (i + 1)) (by omega) (by omega) (by unfold maxLen; omega)

theorem rhMoved (w : World) (bm lo : Nat) (vl : Value) (ls : List Int) (hs : List Nat) (a tw : Int) (o : List Nat) (out : List Int) (vw vn vt : Value) (u : Int) (Bb : Nat) (hm : RMover w bm lo vl ls a tw o out vw vn vt) (hhs : Hp.heads ls = some hs) (hl : SeesB .u32 Bb w vl ls) (hB : Bb ≤ bm ∧ Bb ≤ lo) (hlo : lo ≤ w.heap.size) (hlr : ∀ x ∈ ls, 0 ≤ x ∧ x < 4294967296) (hls : ls.length ≤ 65536) (ha : 0 ≤ a ∧ a < 4294967296) (hto : 0 ≤ tw ∧ tw ≤ 2147483648) (hu : 0 ≤ u ∧ u < 4294967296)
    (hok : Hp.okw (Hp.mem hs) a u = true) (hi : Hp.Inv ls hs o out) :
    Calls Tryz.prog 29 #[.pointer (some ⟨bm, 0, none⟩), .int .u32 u] w fun e w' => e = .returned (.int .u32 (Hp.word ls a tw o out u).1) ∧ RMPost w w' bm lo vl ls a tw (Hp.word ls a tw o out u).2.1 (Hp.word ls a tw o out u).2.2 vw vn vt := by
  cases hA : Hp.isAdr a u with
  | false =>
    unfold Hp.word
    rw [if_neg (fun h => by rw [hA] at h; cases h.1)]
    refine (moved_stays w bm lo vl ls a tw o out vw vn vt u hm hu hA).mono ?_
    rintro _ w' ⟨rfl, rfl⟩
    exact ⟨rfl, RMover.stays hm (B.refl _)⟩
  | true =>
    obtain ⟨hwh, hmem, -⟩ := Hp.okw_head hhs hok hA
    unfold Hp.word
    rw [if_pos ⟨hA, hwh⟩]
    cases hp : Hp.pos ls o 0 (Hp.idx a u) with
    | some n =>
      have hin : Hp.idx a u ∈ o := Decidable.byContradiction fun hn => by rw [(Hp.pos_none ls _ o 0).2 hn] at hp; cases hp
      obtain ⟨k0, hk0, he⟩ := List.getElem_of_mem hin
      have hq := Hp.pos_q ls o 0 k0 hk0 hi.nodup
      rw [he, hp, Nat.zero_add] at hq
      obtain rfl := Option.some.inj hq
      refine (moved_was w bm lo vl ls hs a tw o out vw vn vt u hm hhs hl.sees hlr hls ha hto hu hA hok hi k0 hk0 he).mono ?_
      rintro _ w' ⟨rfl, b⟩
      exact ⟨rfl, RMover.stays hm b⟩
    | none =>
      exact moved_new w bm lo vl ls hs a tw o out vw vn vt u Bb hm hhs hl hB hlo hlr hls ha hto hu hA hok hi ((Hp.pos_none ls _ o 0).1 hp)

end Go.Proofs.YtgohnekaolgblaaGreat

/- gimletref29.Move: contract (printed by wip/gen_rhh.py). -/
namespace Go.Proofs.YtgohnekaolgblaaGreat
open Go.RowKit

theorem RM.setOut {w : World} {bm lo : Nat} {vl : Value} {a tw : Int} {xs ys zs : List Int} {vw vn : Value} {g n c : Nat} (h : RM w bm lo vl a tw xs ys zs vw vn (.slice (some ⟨g, 0, none⟩) n c)) (j : Nat) (y : Int) : RM (w.setCell ⟨g, j, none⟩ (.int .u32 y)) bm lo vl a tw xs ys (zs.set j y) vw vn (.slice (some ⟨g, 0, none⟩) n c) := by
  have hlo := (h.out.lt g rfl).1
  have hne := h.lo_bm
  have hk : ∀ b, b ≠ g → (w.setCell ⟨g, j, none⟩ (.int .u32 y)).heap[b]? = w.heap[b]? := fun b hb => Below.heap_setCell w ⟨g, j, none⟩ _ b hb
  refine ⟨(hk bm (by omega)).trans h.cells, row_keep h.was fun b hb => hk b (fun e => ?_), row_keep h.now fun b hb => hk b (fun e => ?_), h.out.set j y, h.apart, h.lo_bm⟩
  · exact h.nt.1 b hb (by rw [e]; rfl)
  · exact h.nt.2 b hb (by rw [e]; rfl)
/-- Where a slice lies that is apart from the mover's. -/
def ApartR (bm : Nat) (vw vn vt v : Value) : Prop := ∀ g, v.ownBlock = some g → ¬ MvR bm vw vn vt g
theorem ApartR.step {w : World} {bm lo : Nat} {vw vn vt vw' vn' vt' v : Value} {xs : List Int} (h : ApartR bm vw vn vt v) (hv : Owns 22 .u32 lo w v xs) (h1 : SameOr w vw vw') (h2 : SameOr w vn vn') (h3 : SameOr w vt vt') : ApartR bm vw' vn' vt' v :=
  fun g hg hs => h g hg (MvR.back h1 h2 h3 (hv.lt g hg).2 hs)
theorem RM.lo' {w : World} {bm lo : Nat} {vl : Value} {a tw : Int} {xs ys zs : List Int} {vw vn vt : Value} (h : RM w bm lo vl a tw xs ys zs vw vn vt) : ∀ k, MvR bm vw vn vt k → bm ≤ k := by
  have := h.lo_bm
  rintro k (rfl | hk | hk | hk)
  · exact Nat.le_refl _
  · have := (h.was.lt _ hk).1; omega
  · have := (h.now.lt _ hk).1; omega
  · have := (h.out.lt _ hk).1; omega
def MoveEnd (w : World) (r : List Int × List Int) (w' : World) (v : Value) : Prop := ∃ o1 o2, v = .tuple #[o1, o2, .int .i64 0] ∧ Owns 22 .u32 w.heap.size w' o1 r.1 ∧ Owns 22 .u32 w.heap.size w' o2 r.2 ∧ Below w.heap.size w w'

set_option maxHeartbeats 4000000 in
set_option maxRecDepth 100000 in
theorem rhMove (vl vr : Value) (ls rs : List Int) (a tw : Int) (w : World) (hs : List Nat) (hk : Hp.Ok ls a rs hs) (hl : Sees .u32 w vl ls) (hlr : ∀ x ∈ ls, 0 ≤ x ∧ x < 4294967296) (hv : Sees .u32 w vr rs) (hrr : ∀ x ∈ rs, 0 ≤ x ∧ x < 4294967296) (hp : Hp.place tw) :
    Calls Tryz.prog 10 #[vl, .int .u32 a, vr, .int .u32 tw] w fun e w' => ∃ v, e = .returned v ∧ MoveEnd w (Hp.move ls a rs tw) w' v := by
  have hls := hk.ll
  have hrl := hk.rl
  have hhs := hk.heads
  have hro := hk.roots
  have hfo := hk.fields
  have ha : 0 ≤ a ∧ a < 4294967296 := by have := hk.place; unfold Hp.place at this; omega
  have hto : 0 ≤ tw ∧ tw ≤ 2147483648 := by have := hp; unfold Hp.place at this; omega
  have hCk := rhCheck vl vr ls rs a w hl hv hlr hrr hls hrl ha
  rw [Hp.ok_chk hk] at hCk
  have hPl := fun wr => rhPlace tw wr (by omega) (by omega)
  rw [decide_eq_true hp] at hPl
  have hl0 := hl
  have hv0 := hv
  obtain ⟨Al, cl, rfl, l1, l2⟩ := hl.len
  obtain ⟨Ar, cr, rfl, r1, r2, -⟩ := hv
  unfold maxLen at l2 r2
  obtain ⟨iU, hiU, hzU, hsU, hbU⟩ := info_parts (show (Tryz.prog.info? 22).map (fun i => (i.zero, i.size, i.bytes)) = some (some (.int .u32 0), 1, 4) by kernel_rfl)
  unfold Hp.move
  obtain ⟨tot, htot⟩ : ∃ tot, tot = Hp.roots ls a tw rs [] [] := ⟨_, rfl⟩
  rw [← htot]
  have I0 : Hp.Inv ls hs [] [] := ⟨List.nodup_nil, fun i h => (by cases h), rfl⟩
  replace htot := Lib.hid htot
  replace hro := Lib.hid hro
  replace hfo := Lib.hid hfo
  replace hhs := Lib.hid hhs
  replace hl0 := Lib.hid hl0
  replace hv0 := Lib.hid hv0
  replace hCk := Lib.hid hCk
  replace hPl := Lib.hid hPl
  replace hrr := Lib.hid hrr
  replace hlr := Lib.hid hlr
  clear hl hk hp
  go_enter Tryz.func10, Tryz.ntmps10
  go_wp2_with fail
  refine hCk.out.mono ?_
  rintro _ w1 ⟨rfl, b1⟩
  have hl1 := (hl0.out.below b1 (Nat.le_refl _)).seesB
  have hv1 := hv0.out.below b1 (Nat.le_refl _)
  have hs1 := b1.size
  have HL := Lib.hid hl1
  have HF := Lib.hid fun w' (h : Sees .u32 w' (.slice Al ls.length cl) ls) i (hi : i ∈ hs) => rhFieldsB _ ls i w' h hlr.out (Hp.heads_head hhs.out hi)
  have HW := Lib.hid fun w' o out vw vn vt u (hi : Hp.Inv ls hs o out) (hm : RMover w' w1.heap.size (w1.heap.size + 1) (.slice Al ls.length cl) ls a tw o out vw vn vt) (hl : SeesB .u32 w1.heap.size w' (.slice Al ls.length cl) ls) hu hok hlo => rhMoved w' w1.heap.size (w1.heap.size + 1) (.slice Al ls.length cl) ls hs a tw o out vw vn vt u w1.heap.size hm hhs.out hl (by omega) hlo hlr.out hls ha hto hu hok hi
  have M0 : RMover (w1.alloc (.cells #[.slice Al ls.length cl, .int .u32 a, .int .u32 tw, .slice none 0 0, .slice none 0 0, .slice none 0 0] 71)) w1.heap.size (w1.heap.size + 1) (.slice Al ls.length cl) ls a tw [] [] (.slice none 0 0) (.slice none 0 0) (.slice none 0 0) :=
    ⟨VB.new w1 71 #[.slice Al ls.length cl, .int .u32 a, .int .u32 tw, .slice none 0 0, .slice none 0 0, .slice none 0 0], Owns.nil _ _ _ _, Owns.nil _ _ _ _, Owns.nil _ _ _ _, fun g h => (by cases h), by omega⟩
  obtain ⟨Ar', cr', he, -, -, r3⟩ := hv1
  simp only [Value.slice.injEq] at he
  obtain ⟨rfl, -, rfl⟩ := he
  replace r3 := Lib.hid r3
  replace M0 := Lib.hid M0
  replace b1 := Lib.hid b1
  clear hl1 hl0 hv0 hCk
  go_wp2_with fail
  refine (hPl.out _).mono ?_
  rintro _ w2 ⟨rfl, hw2⟩
  obtain rfl := hw2.symm
  go_wp2_with fail
  go_loopw [13, 14] (fun vx p wr => ∃ (j : Nat) (acc : List Int) (o : List Nat) (out : List Int) (vw vn vt : Value), p = .int .i64 (j : Int) ∧ j ≤ rs.length ∧ acc.length = j ∧ Owns 22 .u32 (w1.heap.size + 1) wr vx acc ∧ ApartR w1.heap.size vw vn vt vx ∧ RMover wr w1.heap.size (w1.heap.size + 1) (.slice Al ls.length cl) ls a tw o out vw vn vt ∧ Hp.Inv ls hs o out ∧ tot = (acc ++ (Hp.roots ls a tw (rs.drop j) o out).1, (Hp.roots ls a tw (rs.drop j) o out).2) ∧ Below w1.heap.size w1 wr ∧ w1.heap.size + 1 ≤ wr.heap.size)
    (fun _ p _ => rs.length - (intOf p).toNat)
  case atStart => exact ⟨0, [], [], [], _, _, _, rfl, by omega, rfl, Owns.nil _ _ _ _, fun g h => (by cases h), M0.out, I0, by rw [htot.out]; simp, B.alloc (B.refl w1) _, by simp⟩
  case round =>
    obtain ⟨j, acc, o, out, vw, vn, vt, rfl, hj, hacc, own, hap, hm, hi, heq, hb, hz⟩ := hrel
    obtain ⟨Ax, cx, rfl, x1, x2⟩ := own.sees.len
    unfold maxLen at x2
    clear M0
    have hacc' : acc.length ≤ 4096 := by omega
    replace hacc := Lib.hid hacc
    by_cases hjl : j < rs.length
    · obtain ⟨br, offr, rfl, hcr⟩ := r3.out (by intro e; subst e; simp at hjl)
      have hcj := cellK hb (hcr j hjl)
      have hrj := hrr.out _ (List.getElem_mem hjl)
      have hokj : Hp.okw (Hp.mem hs) a rs[j] = true := by
        have := hro.out
        unfold Hp.okws at this
        exact List.all_eq_true.1 this _ (List.getElem_mem hjl)
      rw [List.drop_eq_getElem_cons hjl] at heq
      obtain ⟨u, hu⟩ : ∃ u, u = rs[j] := ⟨_, rfl⟩
      rw [← hu] at hcj hrj hokj heq
      rw [Hp.roots] at heq
      have hcall := HW.out wr o out vw vn vt u hi hm (HL.out.keep (Nat.le_refl _) (fun b hb' _ => hb.block b hb')) hrj hokj hz
      have hi6 : Hp.Inv ls hs (Hp.word ls a tw o out u).2.1 (Hp.word ls a tw o out u).2.2 := (hi.word hhs.out hokj).1
      obtain ⟨u6, hu6⟩ : ∃ x, x = (Hp.word ls a tw o out u).1 := ⟨_, rfl⟩
      obtain ⟨o6, ho6⟩ : ∃ x, x = (Hp.word ls a tw o out u).2.1 := ⟨_, rfl⟩
      obtain ⟨out6, hout6⟩ : ∃ x, x = (Hp.word ls a tw o out u).2.2 := ⟨_, rfl⟩
      rw [← hu6, ← ho6, ← hout6] at hcall
      rw [← ho6, ← hout6] at hi6
      simp only [← hu6, ← ho6, ← hout6] at heq
      have hmlo := RM.lo' hm
      have OWN := Lib.hid own
      have HAP := Lib.hid hap
      have HB := Lib.hid hb
      replace hcall := Lib.hid hcall
      replace heq := Lib.hid heq
      replace hi6 := Lib.hid hi6
      replace hmlo := Lib.hid hmlo
      have hjI : (j : Int) < (rs.length : Int) := by omega
      clear own hap hb hm hi hcr hu hu6 ho6 hout6
      go_wp2_with fail
      refine hcall.out.mono ?_
      rintro _ w6 ⟨rfl, vw6, vn6, vt6, hm6, g6, sw6, sn6, st6⟩
      have own6 := Lib.hid (OWN.out.block (fun g hg => g6.block g (OWN.out.lt g hg).2 (HAP.out g hg)))
      have hap6 := Lib.hid (HAP.out.step OWN.out sw6 sn6 st6)
      have HB6 := Lib.hid (HB.out.trans (g6.toBelow HB.out.size hmlo.out))
      have hz6 := g6.size
      have HM6 := Lib.hid hm6
      have own6a : ∀ o, Owns 22 .u32 (w1.heap.size + 1) (w6.alloc o) (.slice Ax acc.length cx) acc := fun o => own6.out.alloc o
      replace own6a := Lib.hid own6a
      clear hm6 g6 sw6 sn6 st6
      go_wp2_with (first
        | (at_builtin; refine app_at (B := w1.heap.size + 1) (xs := acc) (ys := [u6]) Tryz.underlying23 hiU hzU hsU hbU rfl (.tmp 47) (.tmp 49) rfl rfl rfl (Sees.one .u32 w6 _ u6 _ rfl) (own6a.out _) (by simp; omega) (by simp; omega) (by unfold maxLen; simp; omega) ?_; intro v7 w7 own7 g7 loc7)
        | fail)
      have hzz := g7.size
      simp only [World.size_alloc] at hzz
      go_roundw
      case measure => simp only [intOf]; omega
      case rel =>
        refine ⟨j + 1, acc ++ [u6], o6, out6, vw6, vn6, vt6, by simp, by omega, by simp; exact hacc.out, own7, ?_, ?_, hi6.out, ?_, ?_, by omega⟩
        · intro g hg hk
          rcases loc7 with e | e
          · exact hap6.out g (e ▸ hg) hk
          · rw [e] at hg
            cases hg
            have := RM.lt HM6.out hk
            simp only [World.size_alloc] at this
            omega
        · refine RM.keep HM6.out (fun k hk => (g7.block k (by have := RM.lt HM6.out hk; simp; omega) (fun e => hap6.out k e.symm hk)).trans (Below.heap_alloc w6 _ k (RM.lt HM6.out hk)))
        · rw [heq.out]; simp
        · exact (B.alloc HB6.out _).grown g7 (by simp; omega) (fun g hg => by have := (own6.out.lt g hg).1; omega)
    · have hje : j = rs.length := by omega
      have heq2 : tot = (acc, o, out) := by rw [heq, List.drop_of_length_le (by omega), Hp.roots]; simp
      clear heq
      obtain ⟨fin, hfin⟩ : ∃ fin, fin = Hp.scan ls a tw (ls.length + 1) 0 tot.2.1 tot.2.2 := ⟨_, rfl⟩
      have hfin2 : fin = Hp.scan ls a tw (ls.length + 1) 0 o out := by rw [hfin, heq2]
      have htot1 : tot.1 = acc := by rw [heq2]
      have OWN := Lib.hid own
      have HAP := Lib.hid hap
      have HB := Lib.hid hb
      have HM := Lib.hid hm
      have HI := Lib.hid hi
      replace hfin2 := Lib.hid hfin2
      replace hfin := Lib.hid hfin
      replace htot1 := Lib.hid htot1
      have hjI : ¬ (j : Int) < (rs.length : Int) := by omega
      clear own hap hb hm hi heq2 htot
      go_wp2_with fail
      go_loopw [16] (fun p wr => ∃ (k g : Nat) (o : List Nat) (out : List Int) (vw vn vt : Value), p = .int .i64 (k : Int) ∧ k ≤ o.length ∧ k + g = ls.length + 1 ∧ Owns 22 .u32 (w1.heap.size + 1) wr (.slice Ax acc.length cx) acc ∧ ApartR w1.heap.size vw vn vt (.slice Ax acc.length cx) ∧ RMover wr w1.heap.size (w1.heap.size + 1) (.slice Al ls.length cl) ls a tw o out vw vn vt ∧ Hp.Inv ls hs o out ∧ fin = Hp.scan ls a tw g k o out ∧ Below w1.heap.size w1 wr ∧ w1.heap.size + 1 ≤ wr.heap.size)
        (fun p _ => ls.length + 1 - (intOf p).toNat)
      case atStart => exact ⟨0, ls.length + 1, o, out, vw, vn, vt, rfl, by omega, by omega, OWN.out, HAP.out, HM.out, HI.out, hfin2.out, HB.out, hz⟩
      case round =>
        clear OWN HAP HB HM HI hfin2 hz
        obtain ⟨k, g, o, out, vw, vn, vt, rfl, hk, hkg, own, hap, hm, hi, heq, hb, hz⟩ := hrel
        obtain ⟨Ao, co, hvo, o1, o2⟩ := (RM.was hm).sees.len
        rw [nums_length] at hvo o1
        subst hvo
        unfold maxLen at o2
        have hbd := hi.bound hhs.out
        have c0 := (RM.cells hm).cell 0
        have c3 := (RM.cells hm).cell 3
        have clt := (RM.cells hm).lt
        simp at c0 c3
        by_cases hko : k < o.length
        · obtain ⟨go, cgo, hgo, go1, go2, _, _, hgc⟩ := (RM.was hm).cells (by intro e; have := congrArg List.length e; rw [nums_length, List.length_nil] at this; omega)
          rw [nums_length] at hgo
          simp only [Value.slice.injEq] at hgo
          obtain ⟨rfl, -, -⟩ := hgo
          have ck := hgc k (by rw [nums_length]; exact hko)
          rw [show (nums o)[k]'(by rw [nums_length]; exact hko) = ((o[k] : Nat) : Int) by simp [nums]] at ck
          have him : o[k] ∈ o := List.getElem_mem hko
          obtain ⟨g', rfl⟩ : ∃ g', g = g' + 1 := ⟨g - 1, by omega⟩
          rw [Hp.scan, List.getElem?_eq_getElem hko] at heq
          have hPq := Hp.pos_q ls o 0 k hko hi.nodup
          rw [Nat.zero_add] at hPq
          have hoik := List.getElem?_eq_getElem hko
          obtain ⟨i, hie⟩ : ∃ i, i = o[k] := ⟨_, rfl⟩
          rw [← hie] at ck him heq hPq hoik
          obtain ⟨P, hP⟩ : ∃ P, Hp.pos ls o 0 i = some P := ⟨_, hPq⟩
          have hih := hi.sub i him
          have hhd := Hp.heads_head hhs.out hih
          have hfit := Hp.fields_fit hhd
          simp only [hP, Option.getD_some] at heq
          have hcallF : ∀ wx, wx = wr ∨ wx = wr.drew → Calls Tryz.prog 22 #[.slice Al ls.length cl, .int .i64 (i : Int)] wx fun e w' => ∃ o, e = .returned o ∧ (∀ w2 B, SeesB .u32 B w2 (.slice Al ls.length cl) ls → SeesB .u32 B w2 o (Hp.fields ls i)) ∧ w' = wx := fun wx hwx =>
            HF.out wx (by rcases hwx with rfl | rfl; exact HL.out.sees.below hb (Nat.le_refl _); exact HL.out.sees.below (below_drew hb) (Nat.le_refl _)) i hih
          have hfr := Hp.fields_range hlr.out i
          have hfok := hfo.out i hih
          obtain ⟨fs, hfs⟩ : ∃ fs, fs = Hp.fields ls i := ⟨_, rfl⟩
          rw [← hfs] at hfit heq hcallF hfr hfok
          have hwl : Hp.wnAt ls i ≤ 65536 := by have := (Hp.thing_head hhd).1; have := hhd.fits; omega
          have OWN := Lib.hid own
          have HAP := Lib.hid hap
          have HB := Lib.hid hb
          have HM := Lib.hid hm
          have HI := Lib.hid hi
          replace heq := Lib.hid heq
          replace hP := Lib.hid hP
          replace hcallF := Lib.hid hcallF
          replace hfr := Lib.hid hfr
          replace hfok := Lib.hid hfok
          replace hoik := Lib.hid hoik
          have hkI : (k : Int) < (o.length : Int) := by omega
          have hi65 : i < 9223372036854775808 := by have := hhd.lt; omega
          clear own hap hb hm hi hgc hie him hhd hfs hih hPq
          go_upto_region 16 with fail
          go_cut [17] from 51 to 71 (fun vf wx => (∀ w2 B, SeesB .u32 B w2 (.slice Al ls.length cl) ls → SeesB .u32 B w2 vf fs) ∧ Below wr.heap.size wr wx)
          case first =>
            go_region_law (go_simp; go_at_call 22; with_reducible refine (hcallF.out _ (by first | exact .inl rfl | exact .inr rfl)).mono ?_; rintro _ w6 ⟨vf, rfl, svf, hw6⟩; have bw6 : Below wr.heap.size wr w6 := (by rw [hw6]; first | exact B.refl _ | exact below_drew (B.refl _)))
            all_goals (go_wp2_with fail; go_meet)
            all_goals first | exact ⟨svf, bw6⟩ | exact ⟨svf, below_drew (B.refl _)⟩ | exact ⟨svf, B.refl _⟩
          case rest =>
            obtain ⟨svf, bw6⟩ := hcut
            obtain ⟨wq, rfl⟩ : ∃ wq, wq = wc := ⟨_, rfl⟩
            obtain ⟨Af, cf, rfl, f1, f2, f3⟩ := svf _ _ HL.out
            unfold maxLen at f2
            replace f3 := Lib.hid f3
            have HM1 := Lib.hid (RM.below HM.out bw6)
            have OWN1 := Lib.hid (row_keep OWN.out fun g hg => bw6.block g (OWN.out.lt g hg).2)
            have HB1 := Lib.hid (B.call HB.out bw6)
            have hz1 : w1.heap.size + 1 ≤ wq.heap.size := Nat.le_trans hz bw6.size
            clear svf c0 c3 clt ck HM OWN HB hz bw6 hcallF
            go_wp2_with fail
            go_loopw [18] (fun p wr => ∃ (n : Nat) (o : List Nat) (out : List Int) (vw vn vt : Value), p = .int .i64 (n : Int) ∧ n ≤ fs.length ∧ Owns 22 .u32 (w1.heap.size + 1) wr (.slice Ax acc.length cx) acc ∧ ApartR w1.heap.size vw vn vt (.slice Ax acc.length cx) ∧ RMover wr w1.heap.size (w1.heap.size + 1) (.slice Al ls.length cl) ls a tw o out vw vn vt ∧ Hp.Inv ls hs o out ∧ Hp.pos ls o 0 i = some P ∧ o[k]? = some i ∧ fin = Hp.scan ls a tw g' (k + 1) (Hp.fill ls a tw (fs.drop n) (P + 1 + n) o out).1 (Hp.fill ls a tw (fs.drop n) (P + 1 + n) o out).2 ∧ Below w1.heap.size w1 wr ∧ w1.heap.size + 1 ≤ wr.heap.size)
              (fun p _ => fs.length - (intOf p).toNat)
            case atStart => exact ⟨0, o, out, _, vn, vt, rfl, by omega, OWN1.out, HAP.out, HM1.out, HI.out, hP.out, hoik.out, by rw [heq.out]; simp, HB1.out, hz1⟩
            case round =>
              clear OWN1 HAP HB1 HM1 HI heq hP hz1 hko hbd o1 o2 hoik hkI
              obtain ⟨n, o, out, vw, vn, vt, rfl, hn, own, hap, hm, hi, hP, hoik, heq, hb, hz⟩ := hrel
              by_cases hnl : n < fs.length
              · obtain ⟨bf, offf, rfl, hbf, hcf⟩ := f3.out (by intro e; subst e; simp at hnl)
                have hcn := cellK hb (hcf n hnl)
                have hrn := hfr.out _ (List.getElem_mem hnl)
                have hokn : Hp.okw (Hp.mem hs) a fs[n] = true := by
                  have := hfok.out
                  unfold Hp.okws at this
                  exact List.all_eq_true.1 this _ (List.getElem_mem hnl)
                rw [List.drop_eq_getElem_cons hnl] at heq
                obtain ⟨u, hu⟩ : ∃ u, u = fs[n] := ⟨_, rfl⟩
                rw [← hu] at hcn hrn hokn heq
                rw [Hp.fill] at heq
                have hcall := HW.out wr o out vw vn vt u hi hm (HL.out.keep (Nat.le_refl _) (fun b hb' _ => hb.block b hb')) hrn hokn hz
                obtain ⟨hi6, hpos6, more, hmore⟩ : Hp.Inv ls hs (Hp.word ls a tw o out u).2.1 (Hp.word ls a tw o out u).2.2 ∧ (∀ i n, Hp.pos ls o 0 i = some n → Hp.pos ls (Hp.word ls a tw o out u).2.1 0 i = some n) ∧ ∃ more, (Hp.word ls a tw o out u).2.1 = o ++ more := hi.word hhs.out hokn
                have hP6 := hpos6 i P hP
                obtain ⟨u6, hu6⟩ : ∃ x, x = (Hp.word ls a tw o out u).1 := ⟨_, rfl⟩
                obtain ⟨o6, ho6⟩ : ∃ x, x = (Hp.word ls a tw o out u).2.1 := ⟨_, rfl⟩
                obtain ⟨out6, hout6⟩ : ∃ x, x = (Hp.word ls a tw o out u).2.2 := ⟨_, rfl⟩
                rw [← hu6, ← ho6, ← hout6] at hcall
                rw [← ho6, ← hout6] at hi6
                rw [← ho6] at hP6 hmore
                simp only [← hu6, ← ho6, ← hout6] at heq
                obtain ⟨hko, hoe⟩ := List.getElem?_eq_some_iff.1 hoik
                have hoik6 : o6[k]? = some i := by rw [hmore, List.getElem?_append_left hko]; exact hoik
                have hk6 : k < o6.length := by rw [hmore]; simp; omega
                have hoe6 : o6[k] = i := by have := hoik6; rw [List.getElem?_eq_getElem hk6] at this; exact Option.some.inj this
                have hPk : Hp.q ls o6 k = P := by
                  have := Hp.pos_q ls o6 0 k hk6 hi6.nodup
                  rw [hoe6, hP6, Nat.zero_add] at this
                  exact (Option.some.inj this).symm
                have hpf := (Hp.pos_fit ls i o6 0 P hP6).2
                have hl6 := hi6.len
                have hb6 := hi6.bound hhs.out
                have hmlo := RM.lo' hm
                have OWN := Lib.hid own
                have HAP := Lib.hid hap
                have HB := Lib.hid hb
                replace hcall := Lib.hid hcall
                replace heq := Lib.hid heq
                replace hi6 := Lib.hid hi6
                replace hP6 := Lib.hid hP6
                replace hmlo := Lib.hid hmlo
                replace hoik6 := Lib.hid hoik6
                have hidx : P + 1 + n < out6.length := by omega
                have hnI : (n : Int) < (fs.length : Int) := by omega
                clear own hap hb hm hi hcf hu hu6 ho6 hout6 hpos6 hmore hP hl6 hpf hoik hoe hoe6 hko
                go_wp2_with fail
                refine hcall.out.mono ?_
                rintro _ w6 ⟨rfl, vw6, vn6, vt6, hm6, g6, sw6, sn6, st6⟩
                have own6 := Lib.hid (OWN.out.block (fun g hg => g6.block g (OWN.out.lt g hg).2 (HAP.out g hg)))
                have hap6 := Lib.hid (HAP.out.step OWN.out sw6 sn6 st6)
                have HB6 := Lib.hid (HB.out.trans (g6.toBelow HB.out.size hmlo.out))
                have hz6 := g6.size
                obtain ⟨gt, ct, rfl, gt1, gt2, gt3, gt4, gtc⟩ := (RM.out hm6).cells (by intro e; rw [e] at hidx; simp at hidx)
                unfold maxLen at gt4
                obtain ⟨gn, cn, hvn, gn1, gn2, gn3, gn4, gnc⟩ := (RM.now hm6).cells (by intro e; have := congrArg List.length e; rw [nows_length, List.length_nil] at this; omega)
                rw [nows_length] at hvn gn3
                subst hvn
                unfold maxLen at gn4
                have d4 := (RM.cells hm6).cell 4
                have d5 := (RM.cells hm6).cell 5
                have dl := (RM.cells hm6).lt
                simp at d4 d5
                have dt := gtc _ hidx
                have dtf := (RM.out hm6).free (P + 1 + n)
                have dn : w6.cell? ⟨gn, k, none⟩ = some (.int .i64 (P : Int)) := by
                  have := gnc k (by rw [nows_length]; exact hk6)
                  rw [nows_get ls o6 k hk6, hPk] at this
                  exact this
                have s1 : IntKind.i64.wrap ((P : Int) + 1) = (P : Int) + 1 := by rw [IntKind.wrap_i64]; omega
                have s2 : IntKind.i64.wrap ((P : Int) + 1 + (n : Int)) = (P : Int) + 1 + (n : Int) := by rw [IntKind.wrap_i64]; omega
                have s3 : 0 ≤ (P : Int) + 1 + (n : Int) := by omega
                have s4 : (P : Int) + 1 + (n : Int) < (out6.length : Int) := by omega
                have s5 : ((P : Int) + 1 + (n : Int)).toNat = P + 1 + n := by omega
                have s6 : (k : Int) < (o6.length : Int) := by omega
                have HM6 := Lib.hid hm6
                clear hm6 g6 sw6 sn6 st6 gtc gnc hPk
                go_wp2_with fail
                go_region
                go_wp2_with fail
                go_roundw
                case measure => simp only [intOf]; omega
                case rel =>
                  refine ⟨n + 1, o6, out6.set (P + 1 + n) u6, vw6, .slice (some ⟨gn, 0, none⟩) o6.length cn, .slice (some ⟨gt, 0, none⟩) out6.length ct, by simp, by omega, ?_, hap6.out, RM.below (RM.setOut HM6.out (P + 1 + n) u6) (below_drew (B.refl _)), ⟨hi6.out.nodup, hi6.out.sub, by rw [List.length_set]; exact hi6.out.len⟩, hP6.out, hoik6.out, heq.out, (HB6.out.setCell (p := ⟨gt, P + 1 + n, none⟩) (by simp; omega) _).drew, ?_⟩
                  · refine own6.out.block (fun g hg => Below.heap_setCell w6 ⟨gt, P + 1 + n, none⟩ _ g ?_)
                    rintro rfl
                    exact hap6.out _ hg (.inr (.inr (.inr rfl)))
                  · show w1.heap.size + 1 ≤ (w6.setCell ⟨gt, P + 1 + n, none⟩ (.int .u32 u6)).heap.size
                    simp [World.setCell]; omega
              · have hne : n = fs.length := by omega
                rw [List.drop_of_length_le (by omega), Hp.fill] at heq
                obtain ⟨hko, -⟩ := List.getElem?_eq_some_iff.1 hoik
                have OWN := Lib.hid own
                have HAP := Lib.hid hap
                have HB := Lib.hid hb
                have HM := Lib.hid hm
                have HI := Lib.hid hi
                replace heq := Lib.hid heq
                have hbd := hi.bound hhs.out
                have hnI : ¬ (n : Int) < (fs.length : Int) := by omega
                clear own hap hb hm hi hP hoik
                go_wp2_with fail
                go_roundw
                case measure => simp only [intOf]; omega
                case rel => exact ⟨k + 1, g', o, out, vw, vn, vt, by simp, by omega, by omega, OWN.out, HAP.out, HM.out, HI.out, heq.out, HB.out, hz⟩
        · have hke : k = o.length := by omega
          rw [Hp.scan_end (by omega)] at heq
          have hf2 : fin.2 = out := by rw [heq]
          have OWN := Lib.hid own
          have HB := Lib.hid hb
          have HM := Lib.hid hm
          have c5 := (RM.cells hm).cell 5
          simp at c5
          have hkI : ¬ (k : Int) < (o.length : Int) := by omega
          clear own hap hb hm hi heq
          go_wp2_with fail
          go_returns
          refine ⟨_, rfl, vt, .slice Ax acc.length cx, rfl, ?_, ?_, ?_⟩
          · simp only
            rw [← hfin.out, hf2]
            exact (RM.out HM.out).mono (B' := w.heap.size) (by omega)
          · simp only
            rw [htot1.out]
            exact OWN.out.mono (B' := w.heap.size) (by omega)
          · exact b1.out.trans (HB.out.mono hs1)

end Go.Proofs.YtgohnekaolgblaaGreat
