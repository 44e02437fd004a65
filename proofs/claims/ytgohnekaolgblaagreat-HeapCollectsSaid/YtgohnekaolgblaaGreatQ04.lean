/- heap.move: contract. -/
import Derived.Test.YtgohnekaolgblaaGreatQ03
import Derived.Test.YtgohnekaolgblaaGreatQ02
import Derived.Test.YtgohnekaolgblaaGreatQ01
import Derived.Deep.RegionHeld3
import Derived.BigQuiet
import Derived.Deep.QuietTactic
namespace Go.Proofs.YtgohnekaolgblaaGreat
open Go.RowKit

theorem Owns.block {E : TypeId} {k : IntKind} {B : Nat} {w w' : World} {v : Value} {xs : List Int} (h : Owns E k B w v xs) (hb : ∀ g, v.ownBlock = some g → w'.heap[g]? = w.heap[g]?) : Owns E k B w' v xs := by
  obtain ⟨h1, h2⟩ := h
  refine ⟨h1, ?_⟩
  rcases h2 with h2 | ⟨g, cap, cur, rfl, hg, hh, r⟩
  · exact .inl h2
  · exact .inr ⟨g, cap, cur, rfl, hg, (hb g rfl).trans hh, r⟩
theorem Mover.keep {w w' : World} {bm bn lo : Nat} {vl : Value} {ls : List Int} {a to : Int} {o : List Nat} {out : List Int} {vo vt : Value} (h : Mover w bm bn lo vl ls a to o out vo vt) (hk : ∀ k, MvS bm bn vo vt k → w'.heap[k]? = w.heap[k]?) : Mover w' bm bn lo vl ls a to o out vo vt := by
  obtain ⟨h1, ⟨n, h2, h3⟩, h4, h5, h6, h7, h8, h9⟩ := h
  exact ⟨(hk _ (.inl rfl)).trans h1, ⟨n, h2, h3.block (hk _ (.inr (.inl rfl)))⟩, h4.block (fun g hg => hk g (.inr (.inr (.inl hg)))), h5.block (fun g hg => hk g (.inr (.inr (.inr hg)))), h6, h7, h8, h9⟩
theorem Mover.lt {w : World} {bm bn lo : Nat} {vl : Value} {ls : List Int} {a to : Int} {o : List Nat} {out : List Int} {vo vt : Value} (h : Mover w bm bn lo vl ls a to o out vo vt) {k : Nat} (hk : MvS bm bn vo vt k) : k < w.heap.size := by
  obtain ⟨h1, ⟨n, h2, h3⟩, h4, h5, h6, h7, h8, h9⟩ := h
  rcases hk with rfl | rfl | hk | hk
  · exact h1.lt
  · exact h3.lt
  · exact (h4.lt _ hk).2
  · exact (h5.lt _ hk).2

/-- Where a slice lies that is apart from the mover's. -/
def Apart (bm bn : Nat) (vo vt v : Value) : Prop := ∀ g, v.ownBlock = some g → ¬ MvS bm bn vo vt g
theorem Apart.step {w : World} {bm bn lo : Nat} {vo vt vo' vt' v : Value} {xs : List Int} (h : Apart bm bn vo vt v) (hv : Owns 22 .u32 lo w v xs) (h1 : vo'.ownBlock = vo.ownBlock ∨ ∃ g, vo'.ownBlock = some g ∧ w.heap.size ≤ g) (h2 : vt'.ownBlock = vt.ownBlock ∨ ∃ g, vt'.ownBlock = some g ∧ w.heap.size ≤ g) : Apart bm bn vo' vt' v := by
  intro g hg hs
  have hlt := (hv.lt g hg).2
  rcases hs with hs | hs | hs | hs
  · exact h g hg (.inl hs)
  · exact h g hg (.inr (.inl hs))
  · rcases h1 with e | ⟨g', e, hg'⟩
    · exact h g hg (.inr (.inr (.inl (e ▸ hs))))
    · rw [e] at hs; cases hs; omega
  · rcases h2 with e | ⟨g', e, hg'⟩
    · exact h g hg (.inr (.inr (.inr (e ▸ hs))))
    · rw [e] at hs; cases hs; omega
theorem GrowS.belowM {w0 w w' : World} {bm bn lo : Nat} {vo vt : Value} {B : Nat} (hb : Below B w0 w) (hg : GrowS (MvS bm bn vo vt) w w') (hs : ∀ k, MvS bm bn vo vt k → B ≤ k) (hB : B ≤ w.heap.size) (_ : lo = lo) : Below B w0 w' := hb.trans (hg.toBelow hB hs)

theorem SeesB.cut {k : IntKind} {B : Nat} {w : World} {b off n c : Nat} {xs : List Int} (h : SeesB k B w (.slice (some ⟨b, off, none⟩) n c) xs) (l m c' : Nat) (hl : l + m ≤ xs.length) (hc : m ≤ c') (hm : c' ≤ maxLen) : SeesB k B w (.slice (some ⟨b, off + l, none⟩) m c') ((xs.drop l).take m) := by
  have e : ((xs.drop l).take m).length = m := by simp; omega
  obtain ⟨A, cap, he, h1, h2, h3⟩ := h
  refine ⟨_, c', by rw [e], by rw [e]; exact hc, hm, fun hne => ?_⟩
  have hn : 0 < m := by rw [← e]; exact List.length_pos_iff.2 hne
  obtain ⟨b', off', rfl, hb, hcell⟩ := h3 (by intro e; subst e; simp at hl; omega)
  simp only [Value.slice.injEq, Option.some.injEq, Addr.mk.injEq] at he
  obtain ⟨⟨rfl, rfl, -⟩, -, -⟩ := he
  refine ⟨b, off + l, rfl, hb, fun j hj => ?_⟩
  rw [e] at hj
  have := hcell (l + j) (by omega)
  rw [Nat.add_assoc, this]
  simp
theorem SeesB.none {k : IntKind} {B : Nat} {w : World} (A : Option Addr) : SeesB k B w (.slice A 0 0) [] := ⟨A, 0, rfl, by simp, by simp, fun h => absurd rfl h⟩

set_option maxHeartbeats 1000000 in
theorem hpFieldsB (v : Value) (ls : List Int) (i : Nat) (w : World) (hv : Sees .u32 w v ls) (hr : ∀ x ∈ ls, 0 ≤ x ∧ x < 4294967296) (hh : Hp.Head ls i) :
    Calls Tryz.prog 57 #[v, .int .i64 (i : Int)] w fun e w' => ∃ o, e = .returned o ∧ (∀ w2 B, SeesB .u32 B w2 v ls → SeesB .u32 B w2 o (Hp.fields ls i)) ∧ w' = w := by
  obtain ⟨hlt, hyes, hfit⟩ := hh
  obtain ⟨hp1, hp2, hp3, hp4⟩ := Wd.words_pos hyes
  obtain ⟨A, c, rfl, h1, h2, h3⟩ := hv
  obtain ⟨b, off, rfl, hc⟩ := h3 (by intro e; subst e; simp at hlt)
  unfold maxLen at h2
  obtain ⟨h, hhd⟩ : ∃ h, h = ls[i] := ⟨_, rfl⟩
  have hrr := hr _ (List.getElem_mem hlt)
  have hci := hc i hlt
  rw [← hhd] at hrr hci hyes hfit hp1 hp2 hp3 hp4
  have hfe : Hp.fields ls i = if (Wd.unhead h).1 = 2 then [] else (ls.drop (i + 1)).take (Hp.sz h) := by
    unfold Hp.fields
    rw [List.getElem?_eq_getElem hlt, ← hhd]
  obtain ⟨kd, n, s0, ok, hun⟩ : ∃ kd n s0 ok, Wd.unhead h = (kd, n, s0, ok) := ⟨_, _, _, _, rfl⟩
  have hs0 := Wd.unhead_size h
  unfold Hp.sz at hfe hp3
  have HU : ∀ w, Calls Tryz.prog 86 #[.int .u32 h] w fun e w' => e = .returned (.tuple #[.int .i64 kd, .int .i64 n, .int .i64 s0, .bool ok]) ∧ w' = w := fun w => by
    have h := wdUnhead h w hrr.1 hrr.2
    rw [hun] at h
    exact h
  rw [hun] at hfe hs0 hp2 hp3
  simp only at hfe hs0 hp2 hp3
  replace HU := Lib.hid HU
  clear hun hhd hr hc h3
  by_cases hk : kd = 2
  · rw [if_pos hk] at hfe
    subst hk
    replace hfe := Lib.hid hfe
    go_enter Tryz.func57, Tryz.ntmps57
    go_wp2_with fail
    refine (HU.out _).mono ?_
    rintro _ w1 ⟨rfl, hw1⟩
    subst hw1
    go_wp2_with fail
    go_returns
    exact ⟨_, rfl, fun w2 B _ => by rw [hfe.out]; exact SeesB.none _, rfl⟩
  · rw [if_neg hk] at hfe
    have hk' : (kd == 2) = false := by simpa using hk
    have hsz := hp3 hk
    obtain ⟨s, hs⟩ : ∃ s : Nat, s = s0.toNat := ⟨_, rfl⟩
    obtain rfl : s0 = (s : Int) := by omega
    rw [← hs] at hfe hsz
    clear hp3 hs
    by_cases hcq : c = i + 1
    · have hs00 : s = 0 := by omega
      subst hs00
      replace hfe := Lib.hid hfe
      go_enter Tryz.func57, Tryz.ntmps57
      go_wp2_with fail
      refine (HU.out _).mono ?_
      rintro _ w1 ⟨rfl, hw1⟩
      subst hw1
      go_wp2_with fail
      go_returns
      exact ⟨_, rfl, fun w2 B _ => by rw [hfe.out]; simpa using SeesB.none _, rfl⟩
    · replace hfe := Lib.hid hfe
      go_enter Tryz.func57, Tryz.ntmps57
      go_wp2_with fail
      refine (HU.out _).mono ?_
      rintro _ w1 ⟨rfl, hw1⟩
      subst hw1
      go_wp2_with fail
      go_returns
      refine ⟨_, rfl, fun w2 B h2' => ?_, rfl⟩
      rw [hfe.out]
      show SeesB .u32 B _ (.slice _ (i + 1 + s - (i + 1)) _) _
      rw [show i + 1 + s - (i + 1) = s by omega]
      exact h2'.cut (i + 1) s (c - (i + 1)) (by omega) (by omega) (by unfold maxLen; omega)

theorem Mover.setOut {w : World} {bm bn lo : Nat} {vl : Value} {ls : List Int} {a to : Int} {o : List Nat} {out : List Int} {vo : Value} {g n c : Nat} (h : Mover w bm bn lo vl ls a to o out vo (.slice (some ⟨g, 0, none⟩) n c)) (hlo : lo ≤ g) (j : Nat) (y : Int) : Mover (w.setCell ⟨g, j, none⟩ (.int .u32 y)) bm bn lo vl ls a to o (out.set j y) vo (.slice (some ⟨g, 0, none⟩) n c) := by
  obtain ⟨h1, ⟨n, h2, h3⟩, h4, h5, h6, h7, h8, h9⟩ := h
  refine ⟨h1.far g j (by omega) _, ⟨n, h2, h3.far g j (by omega) _⟩, h4.block (fun g' hg => Below.heap_setCell w ⟨g, j, none⟩ _ g' ?_), h5.set j y, h6, h7, h8, h9⟩
  simp only
  rintro rfl
  exact h6 _ hg rfl

theorem Hp.fields_fit {ls : List Int} {i : Nat} (h : Hp.Head ls i) : 1 + (Hp.fields ls i).length ≤ Hp.wnAt ls i := by
  have h1 := (Hp.fields_head h).2
  rw [(Hp.thing_head h).1]
  have e : ls[i]! = ls[i]'h.lt := by rw [getElem!_def, List.getElem?_eq_getElem h.lt]
  rw [e] at h1
  exact h1
theorem Hp.scan_end {ls : List Int} {a to : Int} {k : Nat} {o : List Nat} {out : List Int} (h : o.length ≤ k) : ∀ g, Hp.scan ls a to g k o out = (o, out) := by
  intro g
  cases g with
  | zero => rfl
  | succ g => rw [Hp.scan, List.getElem?_eq_none h]
theorem Mover.lo {w : World} {w0 bm bn lo : Nat} {vl : Value} {ls : List Int} {a to : Int} {o : List Nat} {out : List Int} {vo vt : Value} (h : Mover w bm bn lo vl ls a to o out vo vt) (h1 : w0 ≤ bm) (h2 : w0 ≤ bn) (h3 : w0 ≤ lo) : ∀ k, MvS bm bn vo vt k → w0 ≤ k := by
  intro k hk
  rcases hk with rfl | rfl | hk | hk
  · exact h1
  · exact h2
  · exact Nat.le_trans h3 (h.order.lt _ hk).1
  · exact Nat.le_trans h3 (h.out.lt _ hk).1

def MovePost (w : World) (r : List Int × List Int) (e : Ending) (w' : World) : Prop := ∃ o1 o2, e = .returned (.tuple #[o1, o2]) ∧ Owns 22 .u32 w.heap.size w' o1 r.1 ∧ Owns 22 .u32 w.heap.size w' o2 r.2 ∧ Below w.heap.size w w'

set_option maxHeartbeats 4000000 in
set_option maxRecDepth 100000 in
theorem hpMove (vl vr : Value) (ls rs : List Int) (a to : Int) (w : World) (hs : List Nat) (hhs : Hp.heads ls = some hs) (hl : Sees .u32 w vl ls) (hlr : ∀ x ∈ ls, 0 ≤ x ∧ x < 4294967296) (hv : Sees .u32 w vr rs) (hrr : ∀ x ∈ rs, 0 ≤ x ∧ x < 4294967296) (ha : 0 ≤ a ∧ a < 4294967296) (hto : 0 ≤ to ∧ to ≤ 2147483648)
    (hls : ls.length ≤ 65536) (hrl : rs.length ≤ 4096) (hro : Hp.okws (Hp.mem hs) a rs = true) (hfo : ∀ i ∈ hs, Hp.okws (Hp.mem hs) a (Hp.fields ls i) = true) :
    Calls Tryz.prog 35 #[vl, .int .u32 a, vr, .int .u32 to] w (MovePost w (Hp.move ls a rs to)) := by
  obtain ⟨Al, cl, rfl, l1, l2⟩ := hl.len
  obtain ⟨Ar, cr, rfl, r1, r2, r3⟩ := hv
  unfold maxLen at l2 r2
  have hmm := @run_makeMap Tryz.prog
  have HL := Lib.hid hl.seesB
  have HF := Lib.hid fun w' (h : Sees .u32 w' (.slice Al ls.length cl) ls) i (hi : i ∈ hs) => hpFieldsB _ ls i w' h hlr (Hp.heads_head hhs hi)
  have HW := Lib.hid fun w' o out vo vt u (hi : Hp.Inv ls hs o out) (hm : Mover w' (w.heap.size + 1) w.heap.size (w.heap.size + 2) (.slice Al ls.length cl) ls a to o out vo vt) (hl : SeesB .u32 w.heap.size w' (.slice Al ls.length cl) ls) hu hok hlo => hpWord w' (w.heap.size + 1) w.heap.size (w.heap.size + 2) (.slice Al ls.length cl) ls a to o out vo vt u w.heap.size hs hhs hi hm hl (by omega) hlr ha hto hu hok hls hlo
  obtain ⟨iU, hiU, hzU, hsU, hbU⟩ := info_parts (show (Tryz.prog.info? 22).map (fun i => (i.zero, i.size, i.bytes)) = some (some (.int .u32 0), 1, 4) by kernel_rfl)
  unfold Hp.move
  obtain ⟨tot, htot⟩ : ∃ tot, tot = Hp.roots ls a to rs [] [] := ⟨_, rfl⟩
  rw [← htot]
  have M0 : Mover ((w.alloc (.map #[] 0)).alloc (.cells #[.slice Al ls.length cl, .int .u32 a, .int .u32 to, .map (some w.heap.size), .slice none 0 0, .slice none 0 0] 128)) (w.heap.size + 1) w.heap.size (w.heap.size + 2) (.slice Al ls.length cl) ls a to [] [] (.slice none 0 0) (.slice none 0 0) :=
    ⟨by simpa using VB.new (w.alloc (.map #[] 0)) 128 #[.slice Al ls.length cl, .int .u32 a, .int .u32 to, .map (some w.heap.size), .slice none 0 0, .slice none 0 0], ⟨0, Nat.le_refl _, by
      rw [show Hp.pos ls [] 0 = fun _ => none from rfl]
      exact (IsNum.made w).alloc _⟩, Owns.nil _ _ _ _, Owns.nil _ _ _ _, fun g h => (by cases h), by omega, by omega, by omega⟩
  have I0 : Hp.Inv ls hs [] [] := ⟨List.nodup_nil, fun i h => (by cases h), rfl⟩
  replace M0 := Lib.hid M0
  replace htot := Lib.hid htot
  replace hro := Lib.hid hro
  replace hfo := Lib.hid hfo
  replace hhs := Lib.hid hhs
  replace r3 := Lib.hid r3
  replace hrr := Lib.hid hrr
  have hlr' := hlr
  replace hlr' := Lib.hid hlr'
  clear hl hlr
  go_enter Tryz.func35, Tryz.ntmps35
  go_wp2_with fail
  go_loopw [27, 11] (fun p vx wr => ∃ (j : Nat) (acc : List Int) (o : List Nat) (out : List Int) (vo vt : Value), p = .int .i64 (j : Int) ∧ j ≤ rs.length ∧ acc.length = j ∧ Owns 22 .u32 (w.heap.size + 2) wr vx acc ∧ Apart (w.heap.size + 1) w.heap.size vo vt vx ∧ Mover wr (w.heap.size + 1) w.heap.size (w.heap.size + 2) (.slice Al ls.length cl) ls a to o out vo vt ∧ Hp.Inv ls hs o out ∧ tot = (acc ++ (Hp.roots ls a to (rs.drop j) o out).1, (Hp.roots ls a to (rs.drop j) o out).2) ∧ Below w.heap.size w wr ∧ w.heap.size + 2 ≤ wr.heap.size)
    (fun p _ _ => rs.length - (intOf p).toNat)
  case atStart => exact ⟨0, [], [], [], _, _, rfl, by omega, rfl, Owns.nil _ _ _ _, fun g h => (by cases h), M0.out, I0, by rw [htot.out]; simp, B.alloc (B.alloc (B.refl w) _) _, by simp⟩
  case round =>
    obtain ⟨j, acc, o, out, vo, vt, rfl, hj, hacc, own, hap, hm, hi, heq, hb, hz⟩ := hrel
    obtain ⟨Ax, cx, rfl, x1, x2⟩ := own.sees.len
    unfold maxLen at x2
    clear M0
    have hacc' : acc.length ≤ 4096 := by omega
    replace hacc := Lib.hid hacc
    by_cases hjl : j < rs.length
    · obtain ⟨br, offr, rfl, hcr⟩ := r3.out (by intro e; subst e; simp at hjl)
      have hcj := cellK hb (hcr j hjl)
      have hrj := hrr.out _ (List.getElem_mem hjl)
      have hokj : Hp.okw (Hp.mem hs) a rs[j] = true := by
        have := hro.out
        unfold Hp.okws at this
        exact List.all_eq_true.1 this _ (List.getElem_mem hjl)
      rw [List.drop_eq_getElem_cons hjl] at heq
      obtain ⟨u, hu⟩ : ∃ u, u = rs[j] := ⟨_, rfl⟩
      rw [← hu] at hcj hrj hokj heq
      rw [Hp.roots] at heq
      have hcall := HW.out wr o out vo vt u hi hm (HL.out.keep (Nat.le_refl _) (fun b hb' _ => hb.block b hb')) hrj hokj hz
      have hi6 := (hi.word hhs.out (to := to) hokj).1
      obtain ⟨u6, hu6⟩ : ∃ x, x = (Hp.word ls a to o out u).1 := ⟨_, rfl⟩
      obtain ⟨o6, ho6⟩ : ∃ x, x = (Hp.word ls a to o out u).2.1 := ⟨_, rfl⟩
      obtain ⟨out6, hout6⟩ : ∃ x, x = (Hp.word ls a to o out u).2.2 := ⟨_, rfl⟩
      rw [← hu6, ← ho6, ← hout6] at hcall
      rw [← ho6, ← hout6] at hi6
      simp only [← hu6, ← ho6, ← hout6] at heq
      have hmlt := fun k (hk : MvS (w.heap.size + 1) w.heap.size vo vt k) => hm.lt hk
      have hmlo : ∀ k, MvS (w.heap.size + 1) w.heap.size vo vt k → w.heap.size ≤ k := by
        intro k hk
        rcases hk with rfl | rfl | hk | hk
        · omega
        · omega
        · have := (hm.order.lt _ hk).1; omega
        · have := (hm.out.lt _ hk).1; omega
      have OWN := Lib.hid own
      have HAP := Lib.hid hap
      have HB := Lib.hid hb
      replace hcall := Lib.hid hcall
      replace heq := Lib.hid heq
      replace hi6 := Lib.hid hi6
      replace hmlo := Lib.hid hmlo
      clear own hap hb hm hi hcr hu hu6 ho6 hout6 hmlt
      go_wp2_with fail
      refine hcall.out.mono ?_
      rintro _ w6 ⟨rfl, vo6, vt6, hm6, g6, lo6, lt6⟩
      have own6 := Lib.hid (OWN.out.block (fun g hg => g6.block g (OWN.out.lt g hg).2 (HAP.out g hg)))
      have hap6 := Lib.hid (HAP.out.step OWN.out lo6 lt6)
      have HB6 := Lib.hid (HB.out.trans (g6.toBelow HB.out.size hmlo.out))
      have hz6 := g6.size
      have HM6 := Lib.hid hm6
      have own6a : ∀ o, Owns 22 .u32 (w.heap.size + 2) (w6.alloc o) (.slice Ax acc.length cx) acc := fun o => own6.out.alloc o
      replace own6a := Lib.hid own6a
      clear hm6 g6 lo6 lt6
      go_wp2_with (first
        | (at_builtin; refine app_at (B := w.heap.size + 2) (xs := acc) (ys := [u6]) Tryz.underlying23 hiU hzU hsU hbU rfl (.tmp 31) (.tmp 35) rfl rfl rfl (Sees.one .u32 w6 _ u6 _ rfl) (own6a.out _) (by simp; omega) (by simp; omega) (by unfold maxLen; simp; omega) ?_; intro v7 w7 own7 g7 loc7)
        | fail)
      have hzz := g7.size
      simp only [World.size_alloc] at hzz
      go_roundw
      case measure => simp only [intOf]; omega
      case rel =>
        refine ⟨j + 1, acc ++ [u6], o6, out6, vo6, vt6, by simp, by omega, by simp; exact hacc.out, own7, ?_, ?_, hi6.out, ?_, ?_, by omega⟩
        · intro g hg hk
          rcases loc7 with e | e
          · exact hap6.out g (e ▸ hg) hk
          · rw [e] at hg
            cases hg
            have := HM6.out.lt hk
            simp only [World.size_alloc] at this
            omega
        · refine HM6.out.keep (fun k hk => (g7.block k (by have := HM6.out.lt hk; simp; omega) (fun e => hap6.out k e.symm hk)).trans (Below.heap_alloc w6 _ k (HM6.out.lt hk)))
        · rw [heq.out]; simp
        · exact (B.alloc HB6.out _).grown g7 (by simp; omega) (fun g hg => by have := (own6.out.lt g hg).1; omega)
    · have hje : j = rs.length := by omega
      have heq2 : tot = (acc, o, out) := by rw [heq, List.drop_of_length_le (by omega), Hp.roots]; simp
      clear heq
      obtain ⟨fin, hfin⟩ : ∃ fin, fin = Hp.scan ls a to (ls.length + 1) 0 tot.2.1 tot.2.2 := ⟨_, rfl⟩
      rw [← hfin]
      have hfin2 : fin = Hp.scan ls a to (ls.length + 1) 0 o out := by rw [hfin, heq2]
      have htot1 : tot.1 = acc := by rw [heq2]
      rw [htot1]
      have OWN := Lib.hid own
      have HAP := Lib.hid hap
      have HB := Lib.hid hb
      have HM := Lib.hid hm
      have HI := Lib.hid hi
      replace hfin2 := Lib.hid hfin2
      replace hfin := Lib.hid hfin
      replace htot1 := Lib.hid htot1
      clear own hap hb hm hi heq2 htot
      go_wp2_with fail
      go_loopw [14] (fun p wr => ∃ (k g : Nat) (o : List Nat) (out : List Int) (vo vt : Value), p = .int .i64 (k : Int) ∧ k ≤ o.length ∧ k + g = ls.length + 1 ∧ Owns 22 .u32 (w.heap.size + 2) wr (.slice Ax acc.length cx) acc ∧ Apart (w.heap.size + 1) w.heap.size vo vt (.slice Ax acc.length cx) ∧ Mover wr (w.heap.size + 1) w.heap.size (w.heap.size + 2) (.slice Al ls.length cl) ls a to o out vo vt ∧ Hp.Inv ls hs o out ∧ fin = Hp.scan ls a to g k o out ∧ Below w.heap.size w wr ∧ w.heap.size + 2 ≤ wr.heap.size)
        (fun p _ => ls.length + 1 - (intOf p).toNat)
      case atStart => exact ⟨0, ls.length + 1, o, out, vo, vt, rfl, by omega, by omega, OWN.out, HAP.out, HM.out, HI.out, hfin2.out, HB.out, hz⟩
      case round =>
        clear OWN HAP HB HM HI hfin2 hz
        obtain ⟨k, g, o, out, vo, vt, rfl, hk, hkg, own, hap, hm, hi, heq, hb, hz⟩ := hrel
        obtain ⟨Ao, co, hvo, o1, o2⟩ := hm.order.sees.len
        rw [nums_length] at hvo o1
        subst hvo
        unfold maxLen at o2
        have hbd := hi.bound hhs.out
        have c4 := hm.cells.cell 4
        have c5 := hm.cells.cell 5
        have clt := hm.cells.lt
        simp at c4 c5
        by_cases hko : k < o.length
        · obtain ⟨go, cgo, hgo, go1, go2, _, _, hgc⟩ := hm.order.cells (by intro e; have := congrArg List.length e; rw [nums_length, List.length_nil] at this; omega)
          rw [nums_length] at hgo
          simp only [Value.slice.injEq] at hgo
          obtain ⟨rfl, -, -⟩ := hgo
          have ck := hgc k (by rw [nums_length]; exact hko)
          rw [show (nums o)[k]'(by rw [nums_length]; exact hko) = ((o[k] : Nat) : Int) by simp [nums]] at ck
          have him : o[k] ∈ o := List.getElem_mem hko
          obtain ⟨g', rfl⟩ : ∃ g', g = g' + 1 := ⟨g - 1, by omega⟩
          rw [Hp.scan, List.getElem?_eq_getElem hko] at heq
          obtain ⟨i, hie⟩ : ∃ i, i = o[k] := ⟨_, rfl⟩
          rw [← hie] at ck him heq
          obtain ⟨P, hP⟩ := Hp.pos_mem ls i o him
          have hih := hi.sub i him
          have hhd := Hp.heads_head hhs.out hih
          have hfit := Hp.fields_fit hhd
          simp only [hP, Option.getD_some] at heq
          have hcallF := HF.out wr (HL.out.sees.below hb (Nat.le_refl _)) i hih
          have hfr := Hp.fields_range hlr'.out i
          have hfok := hfo.out i hih
          obtain ⟨fs, hfs⟩ : ∃ fs, fs = Hp.fields ls i := ⟨_, rfl⟩
          rw [← hfs] at hfit heq hcallF hfr hfok
          have hwl : Hp.wnAt ls i ≤ 65536 := by have := (Hp.thing_head hhd).1; have := hhd.fits; omega
          have OWN := Lib.hid own
          have HAP := Lib.hid hap
          have HB := Lib.hid hb
          have HM := Lib.hid hm
          have HI := Lib.hid hi
          replace heq := Lib.hid heq
          replace hP := Lib.hid hP
          replace hcallF := Lib.hid hcallF
          replace hfr := Lib.hid hfr
          replace hfok := Lib.hid hfok
          have hi65 : i < 9223372036854775808 := by have := hhd.lt; omega
          clear own hap hb hm hi hgc hie him hhd hfs hih go1 go2
          go_wp2_with fail
          refine hcallF.out.mono ?_
          rintro _ w6 ⟨vf, rfl, svf, hw6⟩
          subst hw6
          obtain ⟨Af, cf, rfl, f1, f2, f3⟩ := svf _ _ HL.out
          unfold maxLen at f2
          replace f3 := Lib.hid f3
          clear svf c4 c5 clt ck
          go_wp2_with fail
          go_loopw [58] (fun p wr => ∃ (n : Nat) (o : List Nat) (out : List Int) (vo vt : Value), p = .int .i64 (n : Int) ∧ n ≤ fs.length ∧ Owns 22 .u32 (w.heap.size + 2) wr (.slice Ax acc.length cx) acc ∧ Apart (w.heap.size + 1) w.heap.size vo vt (.slice Ax acc.length cx) ∧ Mover wr (w.heap.size + 1) w.heap.size (w.heap.size + 2) (.slice Al ls.length cl) ls a to o out vo vt ∧ Hp.Inv ls hs o out ∧ Hp.pos ls o 0 i = some P ∧ fin = Hp.scan ls a to g' (k + 1) (Hp.fill ls a to (fs.drop n) (P + 1 + n) o out).1 (Hp.fill ls a to (fs.drop n) (P + 1 + n) o out).2 ∧ k < o.length ∧ Below w.heap.size w wr ∧ w.heap.size + 2 ≤ wr.heap.size)
            (fun p _ => fs.length - (intOf p).toNat)
          case atStart => exact ⟨0, o, out, _, vt, rfl, by omega, OWN.out, HAP.out, HM.out, HI.out, hP.out, by rw [heq.out]; simp, hko, HB.out, hz⟩
          case round =>
            clear OWN HAP HB HM HI heq hP hz hcallF hko hbd o1 o2
            obtain ⟨n, o, out, vo, vt, rfl, hn, own, hap, hm, hi, hP, heq, hko, hb, hz⟩ := hrel
            by_cases hnl : n < fs.length
            · obtain ⟨bf, offf, rfl, hbf, hcf⟩ := f3.out (by intro e; subst e; simp at hnl)
              have hcn := cellK hb (hcf n hnl)
              have hrn := hfr.out _ (List.getElem_mem hnl)
              have hokn : Hp.okw (Hp.mem hs) a fs[n] = true := by
                have := hfok.out
                unfold Hp.okws at this
                exact List.all_eq_true.1 this _ (List.getElem_mem hnl)
              rw [List.drop_eq_getElem_cons hnl] at heq
              obtain ⟨u, hu⟩ : ∃ u, u = fs[n] := ⟨_, rfl⟩
              rw [← hu] at hcn hrn hokn heq
              rw [Hp.fill] at heq
              have hcall := HW.out wr o out vo vt u hi hm (HL.out.keep (Nat.le_refl _) (fun b hb' _ => hb.block b hb')) hrn hokn hz
              obtain ⟨hi6, hpos6, more, hmore⟩ := hi.word hhs.out (to := to) hokn
              have hP6 := hpos6 i P hP
              obtain ⟨u6, hu6⟩ : ∃ x, x = (Hp.word ls a to o out u).1 := ⟨_, rfl⟩
              obtain ⟨o6, ho6⟩ : ∃ x, x = (Hp.word ls a to o out u).2.1 := ⟨_, rfl⟩
              obtain ⟨out6, hout6⟩ : ∃ x, x = (Hp.word ls a to o out u).2.2 := ⟨_, rfl⟩
              rw [← hu6, ← ho6, ← hout6] at hcall
              rw [← ho6, ← hout6] at hi6
              rw [← ho6] at hP6 hmore
              simp only [← hu6, ← ho6, ← hout6] at heq
              have hk6 : k < o6.length := by rw [hmore]; simp; omega
              have hpf := (Hp.pos_fit ls i o6 0 P hP6).2
              have hl6 := hi6.len
              have hb6 := hi6.bound hhs.out
              have hmlo := hm.lo (w0 := w.heap.size) (by omega) (by omega) (by omega)
              have OWN := Lib.hid own
              have HAP := Lib.hid hap
              have HB := Lib.hid hb
              replace hcall := Lib.hid hcall
              replace heq := Lib.hid heq
              replace hi6 := Lib.hid hi6
              replace hP6 := Lib.hid hP6
              replace hmlo := Lib.hid hmlo
              have hidx : P + 1 + n < out6.length := by omega
              clear own hap hb hm hi hcf hu hu6 ho6 hout6 hpos6 hmore hP hl6 hpf
              go_wp2_with fail
              refine hcall.out.mono ?_
              rintro _ w6 ⟨rfl, vo6, vt6, hm6, g6, lo6, lt6⟩
              have own6 := Lib.hid (OWN.out.block (fun g hg => g6.block g (OWN.out.lt g hg).2 (HAP.out g hg)))
              have hap6 := Lib.hid (HAP.out.step OWN.out lo6 lt6)
              have HB6 := Lib.hid (HB.out.trans (g6.toBelow HB.out.size hmlo.out))
              have hz6 := g6.size
              obtain ⟨gt, ct, rfl, gt1, gt2, gt3, gt4, gtc⟩ := hm6.out.cells (by intro e; rw [e] at hidx; simp at hidx)
              unfold maxLen at gt4
              have d3 := hm6.cells.cell 3
              have d5 := hm6.cells.cell 5
              have dl := hm6.cells.lt
              simp at d3 d5
              have dt := gtc _ hidx
              have dtf := hm6.out.free (P + 1 + n)
              obtain ⟨nn, _, hnum⟩ := hm6.num
              have hlook : ∀ w', w'.heap = w6.heap → (Instr.lookup 126 (.map (some w.heap.size)) (.int .i64 (i : Int)) false).run Tryz.prog w' = .ok (.int .i64 (P : Int)) w' := fun w' h => (hnum.block (by rw [h])).run i hi65 P hP6.out
              have hlk := hlook w6.drew rfl
              have s1 : IntKind.i64.wrap ((P : Int) + 1) = (P : Int) + 1 := by rw [IntKind.wrap_i64]; omega
              have s2 : IntKind.i64.wrap ((P : Int) + 1 + (n : Int)) = (P : Int) + 1 + (n : Int) := by rw [IntKind.wrap_i64]; omega
              have s3 : 0 ≤ (P : Int) + 1 + (n : Int) := by omega
              have s4 : (P : Int) + 1 + (n : Int) < (out6.length : Int) := by omega
              have s5 : ((P : Int) + 1 + (n : Int)).toNat = P + 1 + n := by omega
              have HM6 := Lib.hid hm6
              replace hlook := Lib.hid hlook
              replace hnum := Lib.hid hnum
              clear hm6 g6 lo6 lt6 gtc
              go_wp2_with fail
              go_region
              go_wp2_with fail
              go_roundw
              case measure => simp only [intOf]; omega
              case rel =>
                refine ⟨n + 1, o6, out6.set (P + 1 + n) u6, vo6, .slice (some ⟨gt, 0, none⟩) out6.length ct, by simp, by omega, ?_, hap6.out, (HM6.out.setOut gt1 (P + 1 + n) u6).keep (fun _ _ => rfl), ⟨hi6.out.nodup, hi6.out.sub, by rw [List.length_set]; exact hi6.out.len⟩, hP6.out, heq.out, hk6, (HB6.out.setCell (p := ⟨gt, P + 1 + n, none⟩) (by simp; omega) _).drew, ?_⟩
                · refine own6.out.block (fun g hg => Below.heap_setCell w6 ⟨gt, P + 1 + n, none⟩ _ g ?_)
                  rintro rfl
                  exact hap6.out _ hg (.inr (.inr (.inr rfl)))
                · show w.heap.size + 2 ≤ (w6.setCell ⟨gt, P + 1 + n, none⟩ (.int .u32 u6)).heap.size
                  simp [World.setCell]; omega
            · have hne : n = fs.length := by omega
              rw [List.drop_of_length_le (by omega), Hp.fill] at heq
              have OWN := Lib.hid own
              have HAP := Lib.hid hap
              have HB := Lib.hid hb
              have HM := Lib.hid hm
              have HI := Lib.hid hi
              replace heq := Lib.hid heq
              have hbd := hi.bound hhs.out
              clear own hap hb hm hi hP
              go_wp2_with fail
              go_roundw
              case measure => simp only [intOf]; omega
              case rel => exact ⟨k + 1, by simp, g', o, by omega, by omega, OWN.out, out, vo, vt, HAP.out, HM.out, HI.out, heq.out, HB.out⟩
        · have hke : k = o.length := by omega
          rw [Hp.scan_end (by omega)] at heq
          have hf2 : fin.2 = out := by rw [heq]
          have OWN := Lib.hid own
          have HB := Lib.hid hb
          have HM := Lib.hid hm
          clear own hap hb hm hi heq
          go_wp2_with fail
          go_returns
          exact ⟨vt, .slice Ax acc.length cx, rfl, by simp only; rw [← hfin.out, hf2]; exact HM.out.out.mono (B' := w.heap.size) (by omega), by simp only; rw [htot1.out]; exact OWN.out.mono (B' := w.heap.size) (by omega), HB.out⟩

end Go.Proofs.YtgohnekaolgblaaGreat

/- gimletkit.SameCells, SameValue, SameValues: contracts. -/
namespace Go.Proofs.YtgohnekaolgblaaGreat
open Go.RowKit

theorem below_drewT {B : Nat} {a w : World} (h : Below B a w) (n : Nat) : Below B a (w.drewN n) := ⟨h.os, h.tape, h.output, h.size, h.block⟩

set_option maxHeartbeats 1000000 in
theorem sameCells (va vb : Value) (xs ys : List Int) (w : World) (ha : Sees .u32 w va xs) (hb : Sees .u32 w vb ys) :
    Calls Tryz.prog 18 #[va, vb] w fun e w' => e = .returned (.bool (decide (xs = ys))) ∧ Below w.heap.size w w' := by
  obtain ⟨A, c, rfl, ha1, ha2, ha3⟩ := ha
  obtain ⟨A', c', rfl, hb1, hb2, hb3⟩ := hb
  unfold maxLen at ha2 hb2
  obtain ⟨r, hr⟩ : ∃ r, r = decide (xs = ys) := ⟨_, rfl⟩
  rw [← hr]
  replace hr := Lib.hid hr
  by_cases hl : xs.length = ys.length
  · obtain ⟨n, hn⟩ : ∃ n, n = xs.length := ⟨_, rfl⟩
    have hn' : ys.length = n := by omega
    rw [hn', ← hn]
    rw [hn'] at hb1
    rw [← hn] at ha1
    have HN := Lib.hid (And.intro hn.symm hn')
    replace ha3 := Lib.hid ha3
    replace hb3 := Lib.hid hb3
    clear hn hn' hl
    go_enter Tryz.func18, Tryz.ntmps18
    go_wp2_with fail
    go_loopw [5] (fun q wr => ∃ i : Nat, q = .int .i64 (i : Int) ∧ i ≤ n ∧ xs.take i = ys.take i ∧ Below w.heap.size w wr) (fun q _ => n - (intOf q).toNat)
    case atStart => exact ⟨0, rfl, by omega, by simp, B.refl w⟩
    case round =>
      obtain ⟨i, rfl, hi, hpre, hbel⟩ := hrel
      by_cases hil : i < n
      · have hx : i < xs.length := by have := HN.out.1; omega
        have hy : i < ys.length := by have := HN.out.2; omega
        obtain ⟨b1, o1, rfl, hc1⟩ := ha3.out (by intro e; subst e; simp at hx)
        obtain ⟨b2, o2, rfl, hc2⟩ := hb3.out (by intro e; subst e; simp at hy)
        have d1 := cellK hbel (hc1 i hx)
        have d2 := cellK hbel (hc2 i hy)
        have HB := Lib.hid hbel
        replace hpre := Lib.hid hpre
        clear hc1 hc2 hbel
        by_cases he : xs[i] = ys[i]
        · rw [he] at d1
          go_wp2_with fail
          go_quiet (fail)
          go_wp2_with fail
          go_roundw
          case measure => simp only [intOf]; omega
          case rel =>
            refine ⟨i + 1, rfl, by omega, ?_, below_drewT HB.out _⟩
            rw [List.take_add_one, List.take_add_one, List.getElem?_eq_getElem hx, List.getElem?_eq_getElem hy, he, hpre.out]
        · have hne : decide (xs = ys) = false := by
            simp only [decide_eq_false_iff_not]
            intro e; subst e; exact he rfl
          rw [← hr.out] at hne
          replace hne := Lib.hid hne
          go_wp2_with fail
          go_quiet (fail)
          go_wp2_with fail
          go_returns
          exact ⟨by rw [hne.out]; rfl, below_drewT HB.out _⟩
      · have hie : i = n := by omega
        subst hie
        have he : decide (xs = ys) = true := by
          have h1 := HN.out.1
          have h2 := HN.out.2
          rw [List.take_of_length_le (by omega), List.take_of_length_le (by omega)] at hpre
          simpa using hpre
        rw [← hr.out] at he
        replace he := Lib.hid he
        clear hpre
        have HB := Lib.hid hbel
        clear hbel
        go_wp2_with fail
        go_returns
        exact ⟨by rw [he.out]; rfl, HB.out⟩
  · have hne : decide (xs = ys) = false := by
      simp only [decide_eq_false_iff_not]
      intro e; exact hl (by rw [e])
    rw [← hr.out] at hne
    replace hne := Lib.hid hne
    go_enter Tryz.func18, Tryz.ntmps18
    go_wp2_with fail
    go_returns
    exact ⟨by rw [hne.out]; rfl, B.refl _⟩

mutual
/-- Are two trees the same? -/
def Tr.same : Tr → Tr → Bool
  | .mk k n s l, t => (k == t.k) && (n == t.n) && (s.toList == t.s.toList) && Tr.sames l t.l
def Tr.sames : List Tr → List Tr → Bool
  | [], [] => true
  | x :: l, y :: m => x.same y && Tr.sames l m
  | _, _ => false
end

theorem Tr.sames_length {l m : List Tr} (h : l.length ≠ m.length) : Tr.sames l m = false := by
  induction l generalizing m with
  | nil => cases m with
    | nil => exact absurd rfl h
    | cons y m => rfl
  | cons x l ih =>
    cases m with
    | nil => rfl
    | cons y m =>
      simp only [Tr.sames]
      rw [ih (by simpa using h), Bool.and_false]
theorem Tr.sames_iff (l m : List Tr) (h : l.length = m.length) : Tr.sames l m = true ↔ ∀ i (h1 : i < l.length) (h2 : i < m.length), l[i].same m[i] = true := by
  induction l generalizing m with
  | nil => cases m with
    | nil => simp [Tr.sames]
    | cons y m => cases h
  | cons x l ih =>
    cases m with
    | nil => cases h
    | cons y m =>
      simp only [Tr.sames, Bool.and_eq_true, ih m (by simpa using h)]
      constructor
      · rintro ⟨h1, h2⟩ i hi1 hi2
        cases i with
        | zero => exact h1
        | succ i => exact h2 i (by simpa using hi1) (by simpa using hi2)
      · intro hh
        exact ⟨hh 0 (by simp) (by simp), fun i h1 h2 => hh (i + 1) (by simpa using h1) (by simpa using h2)⟩
theorem Tr.same_iff (t : Tr) : ∀ u, t.same u = true ↔ t = u := by
  induction t using Tr.ind
  rename_i k n s l ih
  rintro ⟨k', n', s', l'⟩
  simp only [Tr.same, Tr.k, Tr.n, Tr.s, Tr.l, Bool.and_eq_true, beq_iff_eq]
  by_cases hl : l.length = l'.length
  · rw [Tr.sames_iff l l' hl]
    constructor
    · rintro ⟨⟨⟨rfl, rfl⟩, hs⟩, hh⟩
      have hs' : s = s' := by
        rw [ByteArray.toList_eq, ByteArray.toList_eq] at hs
        obtain ⟨⟨d⟩⟩ := s
        obtain ⟨⟨d'⟩⟩ := s'
        simp only at hs
        rw [hs]
      subst hs'
      congr 1
      exact List.ext_getElem hl (fun i h1 h2 => (ih _ (List.getElem_mem h1) _).1 (hh i h1 h2))
    · intro e
      injection e with e1 e2 e3 e4
      subst e1 e2 e3 e4
      exact ⟨⟨⟨rfl, rfl⟩, rfl⟩, fun i h1 h2 => (ih _ (List.getElem_mem h1) _).2 rfl⟩
  · rw [Tr.sames_length hl]
    constructor
    · rintro ⟨_, h⟩; cases h
    · intro e; injection e with _ _ _ e4; subst e4; exact absurd rfl hl

/-- A list of trees. -/
def TrL (S : Nat → Nat → Prop) (w : World) (v : Value) (l : List Tr) : Prop := ∃ A cap, v = .slice A l.length cap ∧ l.length ≤ cap ∧ cap ≤ maxLen ∧ (l ≠ [] → ∃ b off, A = some ⟨b, off, none⟩ ∧ S b off ∧ Tr.ats S w l b off)
theorem Tr.at_list {S : Nat → Nat → Prop} {w : World} {t : Tr} {v : Value} (h : Tr.at S w t v) : ∃ vl, v = .agg #[.int .i64 t.k, .int .i64 t.n, .string t.s, vl] ∧ TrL S w vl t.l := by
  obtain ⟨A, cap, rfl, hh⟩ := Tr.at_agg h
  exact ⟨_, rfl, A, cap, rfl, hh⟩
theorem TrL.below {S : Nat → Nat → Prop} {w w' : World} {v : Value} {l : List Tr} (h : TrL S w v l) {C : Nat} (hb : Below C w w') (hC : ∀ b off, S b off → b < C) : TrL S w' v l := by
  obtain ⟨A, cap, rfl, h1, h2, h3⟩ := h
  refine ⟨A, cap, rfl, h1, h2, fun hne => ?_⟩
  obtain ⟨b, off, rfl, hs, ha⟩ := h3 hne
  refine ⟨b, off, rfl, hs, Tr.ats_of fun i hi => ?_⟩
  obtain ⟨v0, v1, v2, v3, c0, c1, c2, c3, ha⟩ := Tr.ats_get ha i hi
  have k : ∀ o, w'.cell? ⟨b, o, none⟩ = w.cell? ⟨b, o, none⟩ := fun o => hb.cell (p := ⟨b, o, none⟩) (hC b off hs)
  exact ⟨v0, v1, v2, v3, (k _).trans c0, (k _).trans c1, (k _).trans c2, (k _).trans c3, Tr.at_below ha hb hC⟩

end Go.Proofs.YtgohnekaolgblaaGreat

/- heap.Live, Move, Same: contracts. -/
namespace Go.Proofs.YtgohnekaolgblaaGreat
open Go.RowKit

structure Hp.Ok (ls : List Int) (a : Int) (rs : List Int) (hs : List Nat) : Prop where
  ll : ls.length ≤ 65536
  rl : rs.length ≤ 4096
  heads : Hp.heads ls = some hs
  place : Hp.place a
  roots : Hp.okws (Hp.mem hs) a rs = true
  fields : ∀ i ∈ hs, Hp.okws (Hp.mem hs) a (Hp.fields ls i) = true
theorem Hp.chk_ok {ls : List Int} {a : Int} {rs : List Int} (h : Hp.chk ls a rs = 0) : ∃ hs, Hp.Ok ls a rs hs := by
  unfold Hp.chk at h
  split at h
  · cases h
  · rename_i h1
    cases hh : Hp.heads ls with
    | none => rw [hh] at h; cases h
    | some hs =>
      rw [hh] at h
      simp only at h
      split at h
      · rename_i h2
        exact ⟨hs, by omega, by omega, hh, h2.1, h2.2.1, h2.2.2⟩
      · cases h
theorem Hp.ok_chk {ls : List Int} {a : Int} {rs : List Int} {hs : List Nat} (h : Hp.Ok ls a rs hs) : Hp.chk ls a rs = 0 := by
  unfold Hp.chk
  have h1 := h.ll
  have h2 := h.rl
  rw [if_neg (by omega), h.heads]
  simp only
  rw [if_pos ⟨h.place, h.roots, h.fields⟩]
theorem Hp.chk_cases (ls : List Int) (a : Int) (rs : List Int) : Hp.chk ls a rs = 0 ∨ Hp.chk ls a rs = 2 ∨ Hp.chk ls a rs = 141 := by
  unfold Hp.chk
  split
  · exact .inr (.inr rfl)
  · split
    · exact .inr (.inl rfl)
    · split
      · exact .inl rfl
      · exact .inr (.inl rfl)

def Hp.live (ls : List Int) (a : Int) (rs : List Int) : Nat × Int := if Hp.chk ls a rs = 0 then ((Hp.move ls a rs 8).1.length, 0) else (0, Hp.chk ls a rs)
def Hp.moves (ls : List Int) (a : Int) (rs : List Int) (to : Int) : List Int × List Int × Int :=
  if Hp.chk ls a rs = 0 then (if Hp.place to then ((Hp.move ls a rs to).1, (Hp.move ls a rs to).2, 0) else ([], [], 5)) else ([], [], Hp.chk ls a rs)
def Hp.same (ls : List Int) (a : Int) (rs : List Int) (ms : List Int) (t : Int) (os : List Int) : Bool × Int :=
  if Hp.chk ls a rs = 0 then (if Hp.chk ms t os = 0 then (decide (rs.length = os.length ∧ Hp.move ls a rs 2147483648 = Hp.move ms t os 2147483648), 0) else (false, Hp.chk ms t os)) else (false, Hp.chk ls a rs)

theorem hpMoveOk (vl vr : Value) (ls rs : List Int) (a to : Int) (w : World) (h : Hp.chk ls a rs = 0) (hl : Sees .u32 w vl ls) (hlr : ∀ x ∈ ls, 0 ≤ x ∧ x < 4294967296) (hv : Sees .u32 w vr rs) (hrr : ∀ x ∈ rs, 0 ≤ x ∧ x < 4294967296) (ha : 0 ≤ a ∧ a < 4294967296) (hto : 0 ≤ to ∧ to ≤ 2147483648) :
    Calls Tryz.prog 35 #[vl, .int .u32 a, vr, .int .u32 to] w (MovePost w (Hp.move ls a rs to)) := by
  obtain ⟨hs, h1⟩ := Hp.chk_ok h
  exact hpMove vl vr ls rs a to w hs h1.heads hl hlr hv hrr ha hto h1.ll h1.rl h1.roots h1.fields

section
variable (vl vr : Value) (ls rs : List Int) (a to : Int) (w : World) (hl : Sees .u32 w vl ls) (hlr : ∀ x ∈ ls, 0 ≤ x ∧ x < 4294967296) (hv : Sees .u32 w vr rs) (hrr : ∀ x ∈ rs, 0 ≤ x ∧ x < 4294967296) (ha : 0 ≤ a ∧ a < 4294967296)
include hl hlr hv hrr ha

set_option maxHeartbeats 1000000 in
theorem hpLive : Calls Tryz.prog 15 #[vl, .int .u32 a, vr] w fun e w' => e = .returned (.tuple #[.int .i64 ((Hp.live ls a rs).1 : Int), .int .i64 (Hp.live ls a rs).2]) ∧ Below w.heap.size w w' := by
  have HC := Lib.hid (hpCheck vl vr ls rs a w hl hlr hv hrr ha.1 ha.2)
  obtain ⟨c, hc⟩ : ∃ c, c = Hp.chk ls a rs := ⟨_, rfl⟩
  rw [← hc] at HC
  unfold Hp.live
  rw [← hc]
  by_cases h0 : c = 0
  · rw [if_pos h0]
    have HM := Lib.hid fun w' (h : Below w.heap.size w w') => hpMoveOk vl vr ls rs a 8 w' (by rw [← hc]; exact h0) (hl.below h (Nat.le_refl _)) hlr (hv.below h (Nat.le_refl _)) hrr ha (by omega)
    subst h0
    clear hc hl hv hlr hrr
    go_enter Tryz.func15, Tryz.ntmps15
    go_wp2_with fail
    refine HC.out.mono ?_
    rintro _ w1 ⟨rfl, b1⟩
    go_wp2_with fail
    refine (HM.out _ b1).mono ?_
    rintro _ w2 ⟨o1, o2, rfl, own1, own2, b2⟩
    obtain ⟨A1, c1, rfl, _, _⟩ := own1.sees.len
    have BB := Lib.hid (B.call b1 b2)
    clear own1 own2 b1 b2
    go_wp2_with fail
    go_returns
    exact ⟨rfl, BB.out⟩
  · rw [if_neg h0]
    have h0' : (c == 0) = false := by simpa using h0
    clear hc hl hv hlr hrr
    go_enter Tryz.func15, Tryz.ntmps15
    go_wp2_with fail
    refine HC.out.mono ?_
    rintro _ w1 ⟨rfl, b1⟩
    have BB := Lib.hid b1
    clear b1
    go_wp2_with fail
    go_returns
    exact ⟨rfl, BB.out⟩

def MovesPost (w : World) (r : List Int × List Int × Int) (e : Ending) (w' : World) : Prop := ∃ o1 o2, e = .returned (.tuple #[o1, o2, .int .i64 r.2.2]) ∧ Owns 22 .u32 w.heap.size w' o1 r.1 ∧ Owns 22 .u32 w.heap.size w' o2 r.2.1 ∧ Below w.heap.size w w'

set_option maxHeartbeats 1000000 in
theorem hpMoves (hto : 0 ≤ to ∧ to < 4294967296) : Calls Tryz.prog 17 #[vl, .int .u32 a, vr, .int .u32 to] w (MovesPost w (Hp.moves ls a rs to)) := by
  have HC := Lib.hid (hpCheck vl vr ls rs a w hl hlr hv hrr ha.1 ha.2)
  obtain ⟨c, hc⟩ : ∃ c, c = Hp.chk ls a rs := ⟨_, rfl⟩
  rw [← hc] at HC
  unfold Hp.moves
  rw [← hc]
  by_cases h0 : c = 0
  · rw [if_pos h0]
    have HP := Lib.hid fun w' => hpPlace to w' hto.1 hto.2
    by_cases hp : Hp.place to
    · rw [if_pos hp]
      rw [show decide (Hp.place to) = true by simpa using hp] at HP
      have HM := Lib.hid fun w' (h : Below w.heap.size w w') => hpMoveOk vl vr ls rs a to w' (by rw [← hc]; exact h0) (hl.below h (Nat.le_refl _)) hlr (hv.below h (Nat.le_refl _)) hrr ha ⟨hto.1, hp.2.2⟩
      subst h0
      clear hc hl hv hlr hrr hp
      go_enter Tryz.func17, Tryz.ntmps17
      go_wp2_with fail
      refine HC.out.mono ?_
      rintro _ w1 ⟨rfl, b1⟩
      go_wp2_with fail
      refine (HP.out _).mono ?_
      rintro _ w2 ⟨rfl, hw2⟩
      subst hw2
      go_wp2_with fail
      refine (HM.out _ b1).mono ?_
      rintro _ w3 ⟨o1, o2, rfl, own1, own2, b2⟩
      have BB := Lib.hid (B.call b1 b2)
      have O1 := Lib.hid (own1.mono (B' := w.heap.size) b1.size)
      have O2 := Lib.hid (own2.mono (B' := w.heap.size) b1.size)
      clear own1 own2 b1 b2
      go_wp2_with fail
      go_returns
      exact ⟨o1, o2, rfl, O1.out, O2.out, BB.out⟩
    · rw [if_neg hp]
      rw [show decide (Hp.place to) = false by simpa using hp] at HP
      subst h0
      clear hc hl hv hlr hrr hp
      go_enter Tryz.func17, Tryz.ntmps17
      go_wp2_with fail
      refine HC.out.mono ?_
      rintro _ w1 ⟨rfl, b1⟩
      have BB := Lib.hid b1
      go_wp2_with fail
      refine (HP.out _).mono ?_
      rintro _ w2 ⟨rfl, hw2⟩
      subst hw2
      clear b1
      go_wp2_with fail
      go_returns
      exact ⟨_, _, rfl, Owns.nil _ _ _ _, Owns.nil _ _ _ _, BB.out⟩
  · rw [if_neg h0]
    have h0' : (c == 0) = false := by simpa using h0
    clear hc hl hv hlr hrr
    go_enter Tryz.func17, Tryz.ntmps17
    go_wp2_with fail
    refine HC.out.mono ?_
    rintro _ w1 ⟨rfl, b1⟩
    have BB := Lib.hid b1
    clear b1
    go_wp2_with fail
    go_returns
    exact ⟨_, _, rfl, Owns.nil _ _ _ _, Owns.nil _ _ _ _, BB.out⟩
end

theorem Hp.roots_length (ls : List Int) (a to : Int) : ∀ (ws : List Int) (o : List Nat) (out : List Int), (Hp.roots ls a to ws o out).1.length = ws.length := by
  intro ws
  induction ws with
  | nil => intro o out; rfl
  | cons w ws ih => intro o out; rw [Hp.roots]; simp [ih]

end Go.Proofs.YtgohnekaolgblaaGreat

/- What is moved, told word for word: plain. -/
namespace Go.Proofs.YtgohnekaolgblaaGreat

/-! ### the order -/
def Hp.vis (a : Int) (o : List Nat) (w : Int) : List Nat := if Hp.isAdr a w = true ∧ Hp.whole a w = true then (if Hp.idx a w ∈ o then o else o ++ [Hp.idx a w]) else o
def Hp.visAll (a : Int) (ws : List Int) (o : List Nat) : List Nat := ws.foldl (Hp.vis a) o
def Hp.ord (ls : List Int) (a : Int) : Nat → Nat → List Nat → List Nat
  | 0, _, o => o
  | g + 1, k, o => match o[k]? with
    | none => o
    | some i => Hp.ord ls a g (k + 1) (Hp.visAll a (Hp.fields ls i) o)
theorem Hp.word_ord (ls : List Int) (a to : Int) (o : List Nat) (out : List Int) (w : Int) : (Hp.word ls a to o out w).2.1 = Hp.vis a o w := by
  unfold Hp.word Hp.vis
  by_cases h : Hp.isAdr a w = true ∧ Hp.whole a w = true
  · rw [if_pos h, if_pos h]
    cases hp : Hp.pos ls o 0 (Hp.idx a w) with
    | some n =>
      simp only
      rw [if_pos]
      exact Decidable.byContradiction fun hn => by rw [(Hp.pos_none ls _ o 0).2 hn] at hp; cases hp
    | none =>
      simp only
      rw [if_neg ((Hp.pos_none ls _ o 0).1 hp)]
  · rw [if_neg h, if_neg h]
theorem Hp.roots_ord (ls : List Int) (a to : Int) : ∀ (ws : List Int) (o : List Nat) (out : List Int), (Hp.roots ls a to ws o out).2.1 = Hp.visAll a ws o := by
  intro ws
  induction ws with
  | nil => intro o out; rfl
  | cons w ws ih => intro o out; rw [Hp.roots]; simp only; rw [ih, Hp.word_ord]; rfl
theorem Hp.fill_ord (ls : List Int) (a to : Int) : ∀ (ws : List Int) (p : Nat) (o : List Nat) (out : List Int), (Hp.fill ls a to ws p o out).1 = Hp.visAll a ws o := by
  intro ws
  induction ws with
  | nil => intro p o out; rfl
  | cons w ws ih => intro p o out; exact (ih _ _ _).trans (by rw [Hp.word_ord]; rfl)
theorem Hp.scan_ord (ls : List Int) (a to : Int) : ∀ (g k : Nat) (o : List Nat) (out : List Int), (Hp.scan ls a to g k o out).1 = Hp.ord ls a g k o := by
  intro g
  induction g with
  | zero => intro k o out; rfl
  | succ g ih =>
    intro k o out
    rw [Hp.scan, Hp.ord]
    cases o[k]? with
    | none => rfl
    | some i => exact (ih _ _ _).trans (by rw [Hp.fill_ord])
theorem Hp.vis_pre (a : Int) (o : List Nat) (w : Int) : o <+: Hp.vis a o w := by
  unfold Hp.vis
  split
  · split
    · exact List.prefix_refl _
    · exact List.prefix_append _ _
  · exact List.prefix_refl _
theorem Hp.visAll_pre (a : Int) : ∀ (ws : List Int) (o : List Nat), o <+: Hp.visAll a ws o := by
  intro ws
  induction ws with
  | nil => intro o; exact List.prefix_refl _
  | cons w ws ih => intro o; exact (Hp.vis_pre a o w).trans (ih _)
theorem Hp.ord_pre (ls : List Int) (a : Int) : ∀ (g k : Nat) (o : List Nat), o <+: Hp.ord ls a g k o := by
  intro g
  induction g with
  | zero => intro k o; exact List.prefix_refl _
  | succ g ih =>
    intro k o
    rw [Hp.ord]
    cases o[k]? with
    | none => exact List.prefix_refl _
    | some i => exact (Hp.visAll_pre a _ o).trans (ih _ _)

/-! ### places -/
def Hp.q (ls : List Int) (o : List Nat) (k : Nat) : Nat := Hp.sum ls (o.take k)
theorem Hp.q_succ (ls : List Int) (o : List Nat) (k : Nat) (h : k < o.length) : Hp.q ls o (k + 1) = Hp.q ls o k + Hp.wnAt ls o[k] := by
  unfold Hp.q
  rw [List.take_add_one, List.getElem?_eq_getElem h]
  exact Hp.sum_snoc ls _ _
theorem Hp.q_mono (ls : List Int) (o : List Nat) (k j : Nat) (h : k < j) (hj : j ≤ o.length) : Hp.q ls o k + Hp.wnAt ls (o[k]'(by omega)) ≤ Hp.q ls o j := by
  induction j with
  | zero => omega
  | succ j ih =>
    rw [Hp.q_succ ls o j (by omega)]
    by_cases hk : k = j
    · subst hk; exact Nat.le_refl _
    · have := ih (by omega) (by omega)
      omega
theorem Hp.q_all (ls : List Int) (o : List Nat) : Hp.q ls o o.length = Hp.sum ls o := by unfold Hp.q; rw [List.take_length]
theorem Hp.q_inj {ls : List Int} {o : List Nat} {k k' j j' : Nat} (hk : k < o.length) (hk' : k' < o.length) (hj : j < Hp.wnAt ls o[k]) (hj' : j' < Hp.wnAt ls o[k']) (h : Hp.q ls o k + j = Hp.q ls o k' + j') : k = k' ∧ j = j' := by
  rcases Nat.lt_trichotomy k k' with h1 | h1 | h1
  · have := Hp.q_mono ls o k k' h1 (by omega); omega
  · subst h1; exact ⟨rfl, by omega⟩
  · have := Hp.q_mono ls o k' k h1 (by omega); omega
theorem Hp.q_pre {ls : List Int} {o o' : List Nat} (h : o <+: o') (k : Nat) (hk : k ≤ o.length) : Hp.q ls o' k = Hp.q ls o k := by
  obtain ⟨t, rfl⟩ := h
  unfold Hp.q
  rw [List.take_append_of_le_length hk]
theorem Hp.pos_q (ls : List Int) : ∀ (o : List Nat) (acc k : Nat) (hk : k < o.length), o.Nodup → Hp.pos ls o acc o[k] = some (acc + Hp.q ls o k) := by
  intro o
  induction o with
  | nil => intro acc k hk; cases hk
  | cons j r ih =>
    intro acc k hk hn
    rw [List.nodup_cons] at hn
    cases k with
    | zero => simp [Hp.pos, Hp.q, Hp.sum]
    | succ k =>
      simp only [List.getElem_cons_succ]
      rw [Hp.pos, if_neg (fun e => hn.1 (by rw [e]; exact List.getElem_mem _)), ih _ k (by simpa using hk) hn.2]
      unfold Hp.q
      simp only [List.take_succ_cons, Hp.sum]
      congr 1
      omega
theorem Hp.pos_pre (ls : List Int) (i : Nat) {o o' : List Nat} (h : o <+: o') : ∀ (n : Nat), Hp.pos ls o 0 i = some n → Hp.pos ls o' 0 i = some n := by
  obtain ⟨t, rfl⟩ := h
  have : ∀ (o : List Nat) (acc n : Nat), Hp.pos ls o acc i = some n → Hp.pos ls (o ++ t) acc i = some n := by
    intro o
    induction o with
    | nil => intro acc n h; cases h
    | cons j r ih =>
      intro acc n h
      simp only [List.cons_append, Hp.pos] at h ⊢
      by_cases hj : j = i
      · rw [if_pos hj] at h ⊢; exact h
      · rw [if_neg hj] at h ⊢; exact ih _ _ h
  exact this o 0

/-- A word, behind the move. -/
def Hp.rel (ls : List Int) (a to : Int) (O : List Nat) (w : Int) : Int :=
  if Hp.isAdr a w = true ∧ Hp.whole a w = true then (match Hp.pos ls O 0 (Hp.idx a w) with | some n => to + 4 * n | none => w) else w
theorem Hp.word_rel {ls : List Int} {a to : Int} {o : List Nat} {out : List Int} {w : Int} {O : List Nat} (hl : out.length = Hp.sum ls o) (hp : Hp.vis a o w <+: O) : (Hp.word ls a to o out w).1 = Hp.rel ls a to O w := by
  unfold Hp.word Hp.rel
  unfold Hp.vis at hp
  by_cases h : Hp.isAdr a w = true ∧ Hp.whole a w = true
  · rw [if_pos h, if_pos h]
    rw [if_pos h] at hp
    cases hq : Hp.pos ls o 0 (Hp.idx a w) with
    | some n =>
      have hm : Hp.idx a w ∈ o := Decidable.byContradiction fun hn => by rw [(Hp.pos_none ls _ o 0).2 hn] at hq; cases hq
      rw [if_pos hm] at hp
      rw [Hp.pos_pre ls _ hp n hq]
    | none =>
      have hm := (Hp.pos_none ls _ o 0).1 hq
      rw [if_neg hm] at hp
      have h2 := Hp.pos_snoc ls (Hp.idx a w) (Hp.idx a w) o 0 hq
      rw [if_pos rfl] at h2
      rw [Hp.pos_pre ls _ hp _ h2]
      simp only
      rw [hl]
      simp
  · rw [if_neg h, if_neg h]

end Go.Proofs.YtgohnekaolgblaaGreat

/- What is moved, told word for word: the machine does what is said: plain. -/
namespace Go.Proofs.YtgohnekaolgblaaGreat

def Hp.isField (ls : List Int) (i j : Nat) : Prop := 1 ≤ j ∧ j < 1 + (Hp.fields ls i).length
instance Hp.decField (ls : List Int) (i j : Nat) : Decidable (Hp.isField ls i j) := inferInstanceAs (Decidable (_ ∧ _))
/-- How the words are, where the k-th thing is under way, n of whose fields are done. -/
structure Hp.St (ls : List Int) (a to : Int) (O o : List Nat) (k n : Nat) (out : List Int) : Prop where
  len : out.length = Hp.sum ls o
  val : ∀ q (hq : q < o.length), ∀ j, j < Hp.wnAt ls o[q] → out[Hp.q ls o q + j]? = (ls[o[q] + j]?).map (fun x => if Hp.isField ls o[q] j ∧ (q < k ∨ (q = k ∧ j < 1 + n)) then Hp.rel ls a to O x else x)

theorem Hp.q_fits {ls : List Int} {o : List Nat} {q j : Nat} (hq : q < o.length) (hj : j < Hp.wnAt ls o[q]) : Hp.q ls o q + j < Hp.sum ls o := by
  have := Hp.q_mono ls o q o.length hq (Nat.le_refl _)
  rw [Hp.q_all] at this
  omega

theorem Hp.St.word {ls : List Int} {hs : List Nat} (hhs : Hp.heads ls = some hs) {a to : Int} {O o : List Nat} {k n : Nat} {out : List Int} (h : Hp.St ls a to O o k n out) (hk : k < o.length ∨ n = 0 ∧ k ≤ o.length) {w : Int} (hok : Hp.okw (Hp.mem hs) a w = true) :
    Hp.St ls a to O (Hp.word ls a to o out w).2.1 k n (Hp.word ls a to o out w).2.2 := by
  unfold Hp.word
  by_cases hc : Hp.isAdr a w = true ∧ Hp.whole a w = true
  · rw [if_pos hc]
    obtain ⟨_, _, hh⟩ := Hp.okw_head hhs hok hc.1
    cases hp : Hp.pos ls o 0 (Hp.idx a w) with
    | some m => exact h
    | none =>
      obtain ⟨i, hi⟩ : ∃ i, i = Hp.idx a w := ⟨_, rfl⟩
      rw [← hi] at hh ⊢
      obtain ⟨hw1, hw2⟩ := Hp.thing_head hh
      refine ⟨by simp only [List.length_append]; rw [Hp.sum_snoc, h.len, hw2], fun q hq j hj => ?_⟩
      simp only at hq hj ⊢
      by_cases hqo : q < o.length
      · have e : (o ++ [i])[q] = o[q] := List.getElem_append_left hqo
        rw [e] at hj ⊢
        rw [Hp.q_pre (List.prefix_append o [i]) q (by omega), List.getElem?_append_left (by rw [h.len]; exact Hp.q_fits hqo hj)]
        exact h.val q hqo j hj
      · have hqe : q = o.length := by simp at hq; omega
        subst hqe
        have e : (o ++ [i])[o.length] = i := by simp
        rw [e] at hj ⊢
        rw [Hp.q_pre (List.prefix_append o [i]) o.length (Nat.le_refl _), Hp.q_all, ← h.len, List.getElem?_append_right (by omega), Nat.add_sub_cancel_left]
        unfold Hp.thing
        rw [List.getElem?_take_of_lt hj, List.getElem?_drop]
        cases ls[i + j]? with
        | none => rfl
        | some x =>
          simp only [Option.map_some]
          rw [if_neg]
          rintro ⟨⟨h1, h2⟩, h3⟩
          rcases h3 with h3 | ⟨h3, h4⟩
          · omega
          · rcases hk with hk | ⟨rfl, hk⟩
            · omega
            · omega
  · rw [if_neg hc]
    exact h

theorem Hp.St.set {ls : List Int} {a to : Int} {O o : List Nat} {k n : Nat} {out : List Int} (h : Hp.St ls a to O o k n out) (hk : k < o.length) (hn : n < (Hp.fields ls o[k]).length) (hwn : 1 + (Hp.fields ls o[k]).length ≤ Hp.wnAt ls o[k]) {w : Int} (hw : ls[o[k] + 1 + n]? = some w) :
    Hp.St ls a to O o k (n + 1) (out.set (Hp.q ls o k + 1 + n) (Hp.rel ls a to O w)) := by
  refine ⟨by rw [List.length_set]; exact h.len, fun q hq j hj => ?_⟩
  by_cases hc : q = k ∧ j = 1 + n
  · obtain ⟨rfl, rfl⟩ := hc
    rw [show Hp.q ls o q + (1 + n) = Hp.q ls o q + 1 + n by omega, List.getElem?_set_self (by rw [h.len]; have := Hp.q_fits (ls := ls) (o := o) hq hj; omega), show o[q] + (1 + n) = o[q] + 1 + n by omega, hw]
    simp only [Option.map_some]
    rw [if_pos (by refine ⟨⟨by omega, by omega⟩, .inr ⟨?_, by omega⟩⟩; first | rfl | trivial)]
  · rw [List.getElem?_set_ne (fun e => hc ?_), h.val q hq j hj]
    · cases ls[o[q] + j]? with
      | none => rfl
      | some x =>
        simp only [Option.map_some]
        by_cases hp : Hp.isField ls o[q] j ∧ (q < k ∨ (q = k ∧ j < 1 + n))
        · rw [if_pos hp, if_pos ⟨hp.1, by rcases hp.2 with h | h; exact .inl h; exact .inr ⟨h.1, by omega⟩⟩]
        · rw [if_neg hp, if_neg]
          rintro ⟨h1, h2⟩
          refine hp ⟨h1, ?_⟩
          rcases h2 with h2 | ⟨h2, h3⟩
          · exact .inl h2
          · refine .inr ⟨h2, ?_⟩
            by_cases hj : j = 1 + n
            · exact absurd ⟨h2, hj⟩ hc
            · omega
    · have := Hp.q_inj (ls := ls) (o := o) hq hk hj (j' := 1 + n) (by omega) (by omega)
      exact this

theorem Hp.fields_get {ls : List Int} {i n : Nat} (hn : n < (Hp.fields ls i).length) : ls[i + 1 + n]? = some ((Hp.fields ls i)[n]) := by
  have h : ∃ s, Hp.fields ls i = (ls.drop (i + 1)).take s := by
    unfold Hp.fields
    split
    · exact ⟨0, by simp⟩
    · split
      · exact ⟨0, by simp⟩
      · exact ⟨_, rfl⟩
  obtain ⟨s, hs⟩ := h
  have hl : n < s := by rw [hs, List.length_take] at hn; omega
  have e : (Hp.fields ls i)[n]? = ls[i + 1 + n]? := by rw [hs, List.getElem?_take_of_lt hl, List.getElem?_drop]
  rw [List.getElem?_eq_getElem hn] at e
  exact e.symm

theorem Hp.fill_st {ls : List Int} {hs : List Nat} (hhs : Hp.heads ls = some hs) {a to : Int} {O : List Nat} {k i : Nat} (hfok : Hp.okws (Hp.mem hs) a (Hp.fields ls i) = true) :
    ∀ (m n : Nat) (o : List Nat) (out : List Int), (Hp.fields ls i).length - n = m → n ≤ (Hp.fields ls i).length → Hp.Inv ls hs o out → (hk : k < o.length) → o[k] = i → Hp.visAll a ((Hp.fields ls i).drop n) o <+: O → Hp.St ls a to O o k n out →
      Hp.St ls a to O (Hp.fill ls a to ((Hp.fields ls i).drop n) (Hp.q ls o k + 1 + n) o out).1 k (Hp.fields ls i).length (Hp.fill ls a to ((Hp.fields ls i).drop n) (Hp.q ls o k + 1 + n) o out).2 ∧ Hp.Inv ls hs (Hp.fill ls a to ((Hp.fields ls i).drop n) (Hp.q ls o k + 1 + n) o out).1 (Hp.fill ls a to ((Hp.fields ls i).drop n) (Hp.q ls o k + 1 + n) o out).2 := by
  intro m
  induction m with
  | zero =>
    intro n o out hm hn hi hk hok hp hs
    rw [List.drop_of_length_le (by omega), Hp.fill]
    have e : n = (Hp.fields ls i).length := by omega
    subst e
    exact ⟨hs, hi⟩
  | succ m ih =>
    intro n o out hm hn hi hk hok hp hst
    have hn' : n < (Hp.fields ls i).length := by omega
    rw [List.drop_eq_getElem_cons hn'] at hp ⊢
    rw [Hp.fill]
    have hokw : Hp.okw (Hp.mem hs) a (Hp.fields ls i)[n] = true := by
      unfold Hp.okws at hfok
      exact List.all_eq_true.1 hfok _ (List.getElem_mem hn')
    obtain ⟨w, hw⟩ : ∃ w, w = (Hp.fields ls i)[n] := ⟨_, rfl⟩
    have hget := Hp.fields_get hn'
    rw [← hw] at hp hokw hget ⊢
    have hp2 : Hp.visAll a ((Hp.fields ls i).drop (n + 1)) (Hp.vis a o w) <+: O := hp
    have hpre : Hp.vis a o w <+: O := (Hp.visAll_pre a _ _).trans hp2
    obtain ⟨hi2, _, _⟩ := hi.word hhs (to := to) hokw
    have h1 := hst.word hhs (.inl hk) hokw
    have hrel := Hp.word_rel (to := to) hi.len hpre
    have hord := Hp.word_ord ls a to o out w
    have hlt : k < (Hp.vis a o w).length := Nat.lt_of_lt_of_le hk (Hp.vis_pre a o w).length_le
    have hge : (Hp.vis a o w)[k] = i := by
      obtain ⟨t, ht⟩ := Hp.vis_pre a o w
      have : (Hp.vis a o w)[k]? = some i := by rw [← ht, List.getElem?_append_left hk, List.getElem?_eq_getElem hk, hok]
      rw [List.getElem?_eq_getElem hlt] at this
      exact Option.some.inj this
    rw [hord] at h1 hi2 ⊢
    rw [hrel]
    have hhd := Hp.heads_head hhs (hi.sub i (hok ▸ List.getElem_mem hk))
    have hset := h1.set hlt (n := n) (by rw [hge]; exact hn') (by rw [hge]; exact Hp.fields_fit hhd) (w := w) (by rw [hge]; exact hget)
    have hq : Hp.q ls (Hp.vis a o w) k = Hp.q ls o k := Hp.q_pre (Hp.vis_pre a o w) k (by omega)
    have := ih (n + 1) (Hp.vis a o w) ((Hp.word ls a to o out w).2.2.set (Hp.q ls o k + 1 + n) (Hp.rel ls a to O w)) (by omega) (by omega) ⟨hi2.nodup, hi2.sub, by rw [List.length_set]; exact hi2.len⟩ hlt hge hp2 (by rw [← hq]; exact hset)
    rw [hq] at this
    exact this

theorem Hp.St.next {ls : List Int} {a to : Int} {O o : List Nat} {k : Nat} {out : List Int} (hk : k < o.length) (h : Hp.St ls a to O o k (Hp.fields ls (o[k]'hk)).length out) : Hp.St ls a to O o (k + 1) 0 out := by
  refine ⟨h.len, fun q hq j hj => ?_⟩
  rw [h.val q hq j hj]
  cases ls[o[q] + j]? with
  | none => rfl
  | some x =>
    simp only [Option.map_some]
    by_cases hf : Hp.isField ls o[q] j
    · by_cases hc : q < k + 1
      · rw [if_pos ⟨hf, by
          by_cases e : q = k
          · subst e; exact .inr ⟨rfl, hf.2⟩
          · exact .inl (by omega)⟩, if_pos ⟨hf, .inl hc⟩]
      · rw [if_neg (by rintro ⟨_, h | h⟩ <;> omega), if_neg (by
          rintro ⟨_, h | ⟨_, h⟩⟩
          · omega
          · have := hf.1; omega)]
    · rw [if_neg (fun h => hf h.1), if_neg (fun h => hf h.1)]

/-- How the words are behind the move. -/
structure Hp.Desc (ls : List Int) (a to : Int) (O : List Nat) (m : List Int) : Prop where
  len : m.length = Hp.sum ls O
  val : ∀ q (hq : q < O.length), ∀ j, j < Hp.wnAt ls O[q] → m[Hp.q ls O q + j]? = (ls[O[q] + j]?).map (fun x => if Hp.isField ls O[q] j then Hp.rel ls a to O x else x)

theorem Hp.scan_desc {ls : List Int} {hs : List Nat} (hhs : Hp.heads ls = some hs) {a to : Int} (hfok : ∀ i ∈ hs, Hp.okws (Hp.mem hs) a (Hp.fields ls i) = true) {O : List Nat} :
    ∀ (g k : Nat) (o : List Nat) (out : List Int), Hp.ord ls a g k o = O → k ≤ o.length → ls.length < k + g → Hp.Inv ls hs o out → Hp.St ls a to O o k 0 out → Hp.Desc ls a to O (Hp.scan ls a to g k o out).2 ∧ Hp.Inv ls hs O (Hp.scan ls a to g k o out).2 := by
  intro g
  induction g with
  | zero =>
    intro k o out ho hk hg hi hst
    have := hi.bound hhs
    omega
  | succ g ih =>
    intro k o out ho hk hg hi hst
    rw [Hp.ord] at ho
    rw [Hp.scan]
    by_cases hko : k < o.length
    · rw [List.getElem?_eq_getElem hko] at ho ⊢
      simp only at ho ⊢
      have hmem := hi.sub _ (List.getElem_mem hko)
      have hq := Hp.pos_q ls o 0 k hko hi.nodup
      rw [Nat.zero_add] at hq
      rw [hq, Option.getD_some]
      have hpre : Hp.visAll a (Hp.fields ls o[k]) o <+: O := by rw [← ho]; exact Hp.ord_pre _ _ _ _ _
      have hf := Hp.fill_st hhs (to := to) (O := O) (k := k) (i := o[k]) (hfok _ hmem) _ 0 o out rfl (Nat.zero_le _) hi hko rfl (by simpa using hpre) hst
      rw [List.drop_zero, Nat.add_zero] at hf
      have hord := Hp.fill_ord ls a to (Hp.fields ls o[k]) (Hp.q ls o k + 1) o out
      have hlt : k < (Hp.visAll a (Hp.fields ls o[k]) o).length := Nat.lt_of_lt_of_le hko (Hp.visAll_pre a _ o).length_le
      have hge : (Hp.visAll a (Hp.fields ls o[k]) o)[k] = o[k] := by
        obtain ⟨t, ht⟩ := Hp.visAll_pre a (Hp.fields ls o[k]) o
        have : (Hp.visAll a (Hp.fields ls o[k]) o)[k]? = some o[k] := by rw [← ht, List.getElem?_append_left hko, List.getElem?_eq_getElem hko]
        rw [List.getElem?_eq_getElem hlt] at this
        exact Option.some.inj this
      rw [hord] at hf ⊢
      refine ih (k + 1) _ _ ho hlt (by omega) hf.2 (Hp.St.next hlt ?_)
      rw [hge]
      exact hf.1
    · rw [List.getElem?_eq_none (by omega)] at ho ⊢
      simp only at ho ⊢
      subst ho
      refine ⟨⟨hst.len, fun q hq j hj => ?_⟩, hi⟩
      rw [hst.val q hq j hj]
      cases ls[o[q] + j]? with
      | none => rfl
      | some x =>
        simp only [Option.map_some]
        by_cases hf : Hp.isField ls o[q] j
        · rw [if_pos ⟨hf, .inl (by omega)⟩, if_pos hf]
        · rw [if_neg (fun h => hf h.1), if_neg hf]

end Go.Proofs.YtgohnekaolgblaaGreat

/- What is moved is a heap, and is moved as what it was moved from: plain. -/
namespace Go.Proofs.YtgohnekaolgblaaGreat

def Hp.adr (a w : Int) : Prop := Hp.isAdr a w = true ∧ Hp.whole a w = true
def Hp.ordAll (ls : List Int) (a : Int) (rs : List Int) : List Nat := Hp.ord ls a (ls.length + 1) 0 (Hp.visAll a rs [])

theorem Hp.roots_st {ls : List Int} {hs : List Nat} (hhs : Hp.heads ls = some hs) {a to : Int} {O : List Nat} : ∀ (ws : List Int) (o : List Nat) (out : List Int), Hp.okws (Hp.mem hs) a ws = true → Hp.Inv ls hs o out → Hp.visAll a ws o <+: O → Hp.St ls a to O o 0 0 out →
    (Hp.roots ls a to ws o out).1 = ws.map (Hp.rel ls a to O) ∧ Hp.St ls a to O (Hp.roots ls a to ws o out).2.1 0 0 (Hp.roots ls a to ws o out).2.2 ∧ Hp.Inv ls hs (Hp.roots ls a to ws o out).2.1 (Hp.roots ls a to ws o out).2.2 := by
  intro ws
  induction ws with
  | nil => intro o out _ hi _ hs; exact ⟨rfl, hs, hi⟩
  | cons w ws ih =>
    intro o out hok hi hp hst
    have hok' : Hp.okw (Hp.mem hs) a w = true ∧ Hp.okws (Hp.mem hs) a ws = true := by
      unfold Hp.okws at hok ⊢
      simpa using hok
    have hp2 : Hp.visAll a ws (Hp.vis a o w) <+: O := hp
    have hpre : Hp.vis a o w <+: O := (Hp.visAll_pre a _ _).trans hp2
    obtain ⟨hi2, _, _⟩ := hi.word hhs (to := to) hok'.1
    have h1 := hst.word hhs (.inr ⟨rfl, Nat.zero_le _⟩) hok'.1
    have hrel := Hp.word_rel (to := to) hi.len hpre
    have hord := Hp.word_ord ls a to o out w
    rw [hord] at h1 hi2
    have := ih (Hp.vis a o w) (Hp.word ls a to o out w).2.2 hok'.2 hi2 hp2 h1
    rw [Hp.roots]
    simp only
    rw [hord]
    exact ⟨by rw [List.map_cons, hrel, this.1], this.2.1, this.2.2⟩

theorem Hp.move_desc {ls : List Int} {hs : List Nat} {a : Int} {rs : List Int} (ok : Hp.Ok ls a rs hs) (to : Int) : Hp.Desc ls a to (Hp.ordAll ls a rs) (Hp.move ls a rs to).1 ∧ Hp.Inv ls hs (Hp.ordAll ls a rs) (Hp.move ls a rs to).1 ∧ (Hp.move ls a rs to).2 = rs.map (Hp.rel ls a to (Hp.ordAll ls a rs)) := by
  have h0 : Hp.Inv ls hs [] [] := ⟨List.nodup_nil, fun i h => (by cases h), rfl⟩
  have hst : Hp.St ls a to (Hp.ordAll ls a rs) [] 0 0 [] := ⟨rfl, fun q hq => absurd hq (by simp)⟩
  have hr := Hp.roots_st ok.heads (to := to) (O := Hp.ordAll ls a rs) rs [] [] ok.roots h0 (Hp.ord_pre _ _ _ _ _) hst
  have ho := Hp.roots_ord ls a to rs [] []
  unfold Hp.move
  simp only
  have := Hp.scan_desc ok.heads (to := to) ok.fields (O := Hp.ordAll ls a rs) (ls.length + 1) 0 (Hp.roots ls a to rs [] []).2.1 (Hp.roots ls a to rs [] []).2.2 (by rw [ho]; rfl) (Nat.zero_le _) (by omega) hr.2.2 hr.2.1
  exact ⟨this.1, this.2, hr.1⟩

/-! ### all that is named is moved -/
theorem Hp.vis_mem {a w : Int} (o : List Nat) (h : Hp.adr a w) : Hp.idx a w ∈ Hp.vis a o w := by
  unfold Hp.vis
  rw [if_pos (show Hp.isAdr a w = true ∧ Hp.whole a w = true from h)]
  split
  · assumption
  · simp
theorem Hp.visAll_mem {a : Int} : ∀ (ws : List Int) (o : List Nat) (w : Int), w ∈ ws → Hp.adr a w → Hp.idx a w ∈ Hp.visAll a ws o := by
  intro ws
  induction ws with
  | nil => intro o w h; cases h
  | cons x ws ih =>
    intro o w h ha
    rcases List.mem_cons.1 h with rfl | h
    · exact (Hp.visAll_pre a ws _).mem (Hp.vis_mem o ha)
    · exact ih _ w h ha
theorem Hp.ord_closed {ls : List Int} {a : Int} {O : List Nat} : ∀ (g k : Nat) (o : List Nat), Hp.ord ls a g k o = O → O.length ≤ k + g → ∀ q (hq : q < O.length), k ≤ q → ∀ w ∈ Hp.fields ls O[q], Hp.adr a w → Hp.idx a w ∈ O := by
  intro g
  induction g with
  | zero => intro k o ho hl q hq hk; omega
  | succ g ih =>
    intro k o ho hl q hq hk w hw ha
    rw [Hp.ord] at ho
    cases hok : o[k]? with
    | none =>
      rw [hok] at ho
      simp only at ho
      subst ho
      have := List.getElem?_eq_none_iff.1 hok
      omega
    | some i =>
      rw [hok] at ho
      simp only at ho
      by_cases hqk : q = k
      · subst hqk
        obtain ⟨hko, hie⟩ := List.getElem?_eq_some_iff.1 hok
        have hpre : Hp.visAll a (Hp.fields ls i) o <+: O := by rw [← ho]; exact Hp.ord_pre _ _ _ _ _
        have hoO : o <+: O := (Hp.visAll_pre a _ o).trans hpre
        have e : O[q] = i := by
          obtain ⟨t, ht⟩ := hoO
          have : O[q]? = some i := by rw [← ht, List.getElem?_append_left hko]; exact hok
          rw [List.getElem?_eq_getElem hq] at this
          exact Option.some.inj this
        rw [e] at hw
        exact hpre.mem (Hp.visAll_mem _ o w hw ha)
      · exact ih (k + 1) _ ho (by omega) q hq (by omega) w hw ha
theorem Hp.ord_stable {ls : List Int} {a : Int} {O : List Nat} : ∀ (g k : Nat) (o : List Nat), Hp.ord ls a g k o = O → O.length ≤ k + g → ∀ g', O.length ≤ k + g' → Hp.ord ls a g' k o = O := by
  intro g
  induction g with
  | zero =>
    intro k o ho hl g' _
    rw [Hp.ord] at ho
    subst ho
    cases g' with
    | zero => rfl
    | succ g' => rw [Hp.ord, List.getElem?_eq_none (by omega)]
  | succ g ih =>
    intro k o ho hl g' hl'
    rw [Hp.ord] at ho
    cases hok : o[k]? with
    | none =>
      rw [hok] at ho
      simp only at ho
      subst ho
      cases g' with
      | zero => rfl
      | succ g' => rw [Hp.ord, hok]
    | some i =>
      rw [hok] at ho
      simp only at ho
      obtain ⟨hko, _⟩ := List.getElem?_eq_some_iff.1 hok
      have hle : o.length ≤ O.length := by rw [← ho]; exact ((Hp.visAll_pre a _ o).trans (Hp.ord_pre _ _ _ _ _)).length_le
      cases g' with
      | zero => omega
      | succ g' =>
        rw [Hp.ord, hok]
        exact ih (k + 1) _ ho (by omega) g' (by omega)

theorem Hp.q_cover (ls : List Int) (o : List Nat) (p : Nat) (h : p < Hp.sum ls o) : ∃ (q j : Nat) (hq : q < o.length), j < Hp.wnAt ls o[q] ∧ p = Hp.q ls o q + j := by
  have : ∀ k, k ≤ o.length → p < Hp.q ls o k → ∃ (q j : Nat) (hq : q < o.length), j < Hp.wnAt ls o[q] ∧ p = Hp.q ls o q + j := by
    intro k
    induction k with
    | zero => intro _ h; simp [Hp.q, Hp.sum] at h
    | succ k ih =>
      intro hk hp
      by_cases hc : p < Hp.q ls o k
      · exact ih (by omega) hc
      · rw [Hp.q_succ ls o k (by omega)] at hp
        exact ⟨k, p - Hp.q ls o k, by omega, by omega, by omega⟩
  exact this o.length (Nat.le_refl _) (by rw [Hp.q_all]; exact h)

/-- Even words below one address are below the other one. -/
def Hp.noLow (a to : Int) (ws : List Int) : Prop := ∀ w ∈ ws, w % 2 = 0 → w < a → w < to

end Go.Proofs.YtgohnekaolgblaaGreat

/- What is moved is a heap, and is moved as what it was moved from: plain, second part. -/
namespace Go.Proofs.YtgohnekaolgblaaGreat

theorem Hp.rel_adr {ls : List Int} {a to : Int} {O : List Nat} {w : Int} {n : Nat} (h : Hp.adr a w) (hp : Hp.pos ls O 0 (Hp.idx a w) = some n) : Hp.rel ls a to O w = to + 4 * n := by
  unfold Hp.rel
  rw [if_pos (show Hp.isAdr a w = true ∧ Hp.whole a w = true from h), hp]
theorem Hp.rel_non {ls : List Int} {a to : Int} {O : List Nat} {w : Int} (h : ¬ Hp.adr a w) : Hp.rel ls a to O w = w := by
  unfold Hp.rel
  rw [if_neg (show ¬ (Hp.isAdr a w = true ∧ Hp.whole a w = true) from h)]
theorem Hp.adr_new {to : Int} (ht : Hp.place to) (n : Nat) : Hp.adr to (to + 4 * n) ∧ Hp.idx to (to + 4 * n) = n := by
  obtain ⟨h1, h2, h3⟩ := ht
  refine ⟨⟨?_, ?_⟩, ?_⟩
  · unfold Hp.isAdr
    have e1 : (to + 4 * (n : Int)) % 2 = 0 := by omega
    have e2 : to ≤ to + 4 * (n : Int) := by omega
    simp [e1, e2]
  · unfold Hp.whole
    have e1 : (to + 4 * (n : Int) - to) % 4 = 0 := by omega
    simp [e1]
  · unfold Hp.idx; omega
theorem Hp.okw_non {S : Nat → Bool} {a w : Int} (hok : Hp.okw S a w = true) (h : ¬ Hp.adr a w) : Hp.isAdr a w = false := by
  unfold Hp.okw at hok
  cases hi : Hp.isAdr a w with
  | false => rfl
  | true =>
    rw [hi] at hok
    simp only [Bool.not_true, Bool.false_or, Bool.and_eq_true] at hok
    exact absurd ⟨hi, hok.1⟩ h
theorem Hp.non_new {a to w : Int} (h : Hp.isAdr a w = false) (hlow : w % 2 = 0 → w < a → w < to) : Hp.isAdr to w = false := by
  unfold Hp.isAdr at h ⊢
  by_cases he : w % 2 = 0
  · have : ¬ a ≤ w := by simpa [he] using h
    have := hlow he (by omega)
    have h2 : ¬ to ≤ w := by omega
    simp [he, h2]
  · simp [he]

theorem Hp.sum_append (ls : List Int) (x y : List Nat) : Hp.sum ls (x ++ y) = Hp.sum ls x + Hp.sum ls y := by
  induction x with
  | nil => simp [Hp.sum]
  | cons i x ih => simp only [List.cons_append, Hp.sum, ih]; omega

/-- All that is known of a heap, its order, and what was moved. -/
structure Hp.Mvd (ls : List Int) (a : Int) (hs : List Nat) (to : Int) (O : List Nat) (m : List Int) : Prop where
  heads : Hp.heads ls = some hs
  nodup : O.Nodup
  sub : ∀ i ∈ O, i ∈ hs
  desc : Hp.Desc ls a to O m
  fok : ∀ i ∈ hs, Hp.okws (Hp.mem hs) a (Hp.fields ls i) = true
  closed : ∀ i ∈ O, ∀ w ∈ Hp.fields ls i, Hp.adr a w → Hp.idx a w ∈ O
  low : ∀ i ∈ O, Hp.noLow a to (Hp.fields ls i)
  place : Hp.place to

section
variable {ls : List Int} {a : Int} {hs : List Nat} {to : Int} {O : List Nat} {m : List Int}
def Hp.P (ls : List Int) (O : List Nat) (i : Nat) : Nat := (Hp.pos ls O 0 i).getD 0

theorem Hp.P_q (hn : O.Nodup) (q : Nat) (hq : q < O.length) : Hp.P ls O O[q] = Hp.q ls O q := by
  unfold Hp.P
  rw [Hp.pos_q ls O 0 q hq hn, Nat.zero_add]
  rfl
theorem Hp.P_pos {i : Nat} (h : i ∈ O) : Hp.pos ls O 0 i = some (Hp.P ls O i) := by
  obtain ⟨n, hn⟩ := Hp.pos_mem ls i O h
  unfold Hp.P
  rw [hn]
  rfl
variable (M : Hp.Mvd ls a hs to O m)
include M
theorem Hp.Mvd.head {i : Nat} (h : i ∈ O) : Hp.Head ls i := Hp.heads_head M.heads (M.sub i h)
theorem Hp.Mvd.wn_pos {q : Nat} (hq : q < O.length) : 1 ≤ Hp.wnAt ls O[q] := Hp.wnAt_pos (M.head (List.getElem_mem hq))
theorem Hp.Mvd.inj {i j : Nat} (hi : i ∈ O) (hj : j ∈ O) (h : Hp.P ls O i = Hp.P ls O j) : i = j := by
  obtain ⟨q, hq, rfl⟩ := List.getElem_of_mem hi
  obtain ⟨r, hr, rfl⟩ := List.getElem_of_mem hj
  rw [Hp.P_q M.nodup, Hp.P_q M.nodup] at h
  have := Hp.q_inj (ls := ls) hq hr (j := 0) (j' := 0) (M.wn_pos hq) (M.wn_pos hr) (by omega)
  obtain ⟨rfl, _⟩ := this
  rfl
/-- The head of a thing that was moved. -/
theorem Hp.Mvd.get {q : Nat} (hq : q < O.length) : m[Hp.q ls O q]? = ls[O[q]]? := by
  have h := M.desc.val q hq 0 (M.wn_pos hq)
  rw [Nat.add_zero, Nat.add_zero] at h
  rw [h]
  have hn : ¬ Hp.isField ls O[q] 0 := fun h => by have := h.1; omega
  cases ls[O[q]]? with
  | none => rfl
  | some x => simp only [Option.map_some]; rw [if_neg hn]
theorem Hp.Mvd.wn {q : Nat} (hq : q < O.length) : Hp.wnAt m (Hp.q ls O q) = Hp.wnAt ls O[q] := by
  unfold Hp.wnAt
  rw [M.get hq]
theorem Hp.Mvd.fields {q : Nat} (hq : q < O.length) : Hp.fields m (Hp.q ls O q) = (Hp.fields ls O[q]).map (Hp.rel ls a to O) := by
  have hh := M.head (List.getElem_mem hq)
  have hlt := hh.lt
  have hfit := Hp.fields_fit hh
  have hqf := Hp.q_fits (ls := ls) (o := O) hq (j := Hp.wnAt ls O[q] - 1) (by have := M.wn_pos hq; omega)
  have hml := M.desc.len
  have hfe : Hp.fields ls O[q] = if (Wd.unhead (ls[O[q]]'hlt)).1 = 2 then [] else (ls.drop (O[q] + 1)).take (Hp.sz (ls[O[q]]'hlt)) := by
    unfold Hp.fields
    rw [List.getElem?_eq_getElem hlt]
  have hfm : Hp.fields m (Hp.q ls O q) = if (Wd.unhead (ls[O[q]]'hlt)).1 = 2 then [] else (m.drop (Hp.q ls O q + 1)).take (Hp.sz (ls[O[q]]'hlt)) := by
    unfold Hp.fields
    rw [M.get hq, List.getElem?_eq_getElem hlt]
  by_cases hk : (Wd.unhead (ls[O[q]]'hlt)).1 = 2
  · rw [if_pos hk] at hfe hfm
    rw [hfe, hfm]
    rfl
  · rw [if_neg hk] at hfe hfm
    have hsz : (Hp.fields ls O[q]).length = Hp.sz (ls[O[q]]'hlt) := by
      have h2 := (Wd.words_pos hh.yes).2.2.1 hk
      have h3 := hh.fits
      rw [hfe, List.length_take, List.length_drop]
      omega
    apply List.ext_getElem?
    intro j
    by_cases hj : j < (Hp.fields ls O[q]).length
    · rw [hfm, List.getElem?_take_of_lt (by omega), List.getElem?_drop, List.getElem?_map, List.getElem?_eq_getElem hj]
      have h := M.desc.val q hq (1 + j) (by omega)
      rw [show Hp.q ls O q + (1 + j) = Hp.q ls O q + 1 + j by omega, show O[q] + (1 + j) = O[q] + 1 + j by omega, Hp.fields_get hj] at h
      rw [h]
      simp only [Option.map_some]
      rw [if_pos ⟨by omega, by omega⟩]
    · have hl1 : (Hp.fields m (Hp.q ls O q)).length ≤ j := by rw [hfm, List.length_take]; omega
      have hl2 : ((Hp.fields ls O[q]).map (Hp.rel ls a to O)).length ≤ j := by rw [List.length_map]; omega
      rw [List.getElem?_eq_none hl1, List.getElem?_eq_none hl2]

theorem Hp.Mvd.word_new {w : Int} (h : Hp.adr a w) (hm : Hp.idx a w ∈ O) : Hp.rel ls a to O w = to + 4 * (Hp.P ls O (Hp.idx a w)) ∧ Hp.adr to (Hp.rel ls a to O w) ∧ Hp.idx to (Hp.rel ls a to O w) = Hp.P ls O (Hp.idx a w) := by
  have e := Hp.rel_adr (ls := ls) (to := to) h (Hp.P_pos hm)
  have := Hp.adr_new M.place (Hp.P ls O (Hp.idx a w))
  rw [e]
  exact ⟨rfl, this.1, this.2⟩
omit M in
theorem Hp.word_old {w : Int} (hok : Hp.okw (Hp.mem hs) a w = true) (h : ¬ Hp.adr a w) (hlow : w % 2 = 0 → w < a → w < to) : Hp.rel ls a to O w = w ∧ Hp.isAdr to w = false ∧ ¬ Hp.adr to w := by
  have e := Hp.non_new (Hp.okw_non hok h) hlow
  exact ⟨Hp.rel_non h, e, fun h2 => by have h3 := h2.1; rw [e] at h3; cases h3⟩

theorem Hp.Mvd.vis {o : List Nat} (ho : ∀ i ∈ o, i ∈ O) {w : Int} (hok : Hp.okw (Hp.mem hs) a w = true) (hlow : w % 2 = 0 → w < a → w < to) (hm : Hp.adr a w → Hp.idx a w ∈ O) :
    Hp.vis to (o.map (Hp.P ls O)) (Hp.rel ls a to O w) = (Hp.vis a o w).map (Hp.P ls O) ∧ ∀ i ∈ Hp.vis a o w, i ∈ O := by
  by_cases h : Hp.adr a w
  · obtain ⟨e1, e2, e3⟩ := M.word_new h (hm h)
    unfold Hp.vis
    rw [if_pos (show Hp.isAdr to (Hp.rel ls a to O w) = true ∧ Hp.whole to (Hp.rel ls a to O w) = true from e2), if_pos (show Hp.isAdr a w = true ∧ Hp.whole a w = true from h), e3]
    by_cases hi : Hp.idx a w ∈ o
    · rw [if_pos (List.mem_map_of_mem hi), if_pos hi]
      exact ⟨rfl, ho⟩
    · rw [if_neg, if_neg hi]
      · refine ⟨by simp, fun i h' => ?_⟩
        rcases List.mem_append.1 h' with h' | h'
        · exact ho i h'
        · simp only [List.mem_singleton] at h'; subst h'; exact hm h
      · intro h'
        obtain ⟨j, hj, e⟩ := List.mem_map.1 h'
        exact hi (M.inj (ho j hj) (hm h) e ▸ hj)
  · obtain ⟨e1, _, e3⟩ := Hp.word_old hok h hlow
    unfold Hp.vis
    rw [e1, if_neg (show ¬ (Hp.isAdr to w = true ∧ Hp.whole to w = true) from e3), if_neg (show ¬ (Hp.isAdr a w = true ∧ Hp.whole a w = true) from h)]
    exact ⟨rfl, ho⟩
theorem Hp.Mvd.visAll : ∀ (ws : List Int) (o : List Nat), (∀ i ∈ o, i ∈ O) → Hp.okws (Hp.mem hs) a ws = true → Hp.noLow a to ws → (∀ w ∈ ws, Hp.adr a w → Hp.idx a w ∈ O) →
    Hp.visAll to (ws.map (Hp.rel ls a to O)) (o.map (Hp.P ls O)) = (Hp.visAll a ws o).map (Hp.P ls O) ∧ ∀ i ∈ Hp.visAll a ws o, i ∈ O := by
  intro ws
  induction ws with
  | nil => intro o ho _ _ _; exact ⟨rfl, ho⟩
  | cons w ws ih =>
    intro o ho hok hlow hm
    have hok' : Hp.okw (Hp.mem hs) a w = true ∧ Hp.okws (Hp.mem hs) a ws = true := by
      unfold Hp.okws at hok ⊢
      simpa using hok
    obtain ⟨e1, e2⟩ := M.vis ho hok'.1 (hlow w (by simp)) (hm w (by simp))
    have := ih (Hp.vis a o w) e2 hok'.2 (fun x hx => hlow x (by simp [hx])) (fun x hx => hm x (by simp [hx]))
    unfold Hp.visAll at this ⊢
    simp only [List.map_cons, List.foldl_cons]
    rw [e1]
    exact this
theorem Hp.Mvd.ord : ∀ (g k : Nat) (o : List Nat), (∀ i ∈ o, i ∈ O) → Hp.ord ls a g k o = O → Hp.ord m to g k (o.map (Hp.P ls O)) = O.map (Hp.P ls O) := by
  intro g
  induction g with
  | zero => intro k o _ h; rw [Hp.ord] at h ⊢; rw [h]
  | succ g ih =>
    intro k o ho h
    rw [Hp.ord] at h ⊢
    rw [List.getElem?_map]
    cases hok : o[k]? with
    | none =>
      rw [hok] at h
      simp only [Option.map_none] at h ⊢
      rw [h]
    | some i =>
      rw [hok] at h
      simp only [Option.map_some] at h ⊢
      have hi : i ∈ O := ho i (List.mem_of_getElem? hok)
      obtain ⟨q, hq, rfl⟩ := List.getElem_of_mem hi
      rw [Hp.P_q M.nodup, M.fields hq]
      have := M.visAll (Hp.fields ls O[q]) o ho (M.fok _ (M.sub _ hi)) (M.low _ hi) (M.closed _ hi)
      rw [this.1]
      exact ih (k + 1) _ this.2 h

theorem Hp.Mvd.from : ∀ (d k : Nat), O.length - k = d → k ≤ O.length → Hp.from m (Hp.q ls O k) = some ((List.range' k d).map (Hp.q ls O)) := by
  intro d
  induction d with
  | zero =>
    intro k hd hk
    have hk' : k = O.length := by omega
    subst hk'
    rw [Hp.q_all, Hp.from_end _ _ (by rw [M.desc.len]; exact Nat.le_refl _)]
    rfl
  | succ d ih =>
    intro k hd hk
    have hq : k < O.length := by omega
    have hh := M.head (List.getElem_mem hq)
    have hw := M.wn_pos hq
    have hlt : Hp.q ls O k < m.length := by
      rw [M.desc.len]
      have := Hp.q_fits (ls := ls) (o := O) hq (j := 0) (by omega)
      omega
    have hg := M.get hq
    rw [List.getElem?_eq_getElem hlt, List.getElem?_eq_getElem hh.lt] at hg
    have hge := Option.some.inj hg
    have hwe : Hp.wn m[Hp.q ls O k] = Hp.wnAt ls O[k] := by rw [hge, (Hp.thing_head hh).1]
    rw [Hp.from_next m _ hlt (by rw [hge]; exact hh.yes) (by
      rw [hwe, M.desc.len, ← Hp.q_succ ls O k hq]
      unfold Hp.q
      have : Hp.sum ls (O.take (k + 1)) + Hp.sum ls (O.drop (k + 1)) = Hp.sum ls O := by
        rw [← Hp.sum_append, List.take_append_drop]
      omega), hwe, ← Hp.q_succ ls O k hq, ih (k + 1) (by omega) (by omega)]
    rfl
end

end Go.Proofs.YtgohnekaolgblaaGreat

/- What is moved once more is what was moved: plain. -/
namespace Go.Proofs.YtgohnekaolgblaaGreat

theorem nodup_map_on {α β : Type} (f : α → β) : ∀ l : List α, l.Nodup → (∀ i ∈ l, ∀ j ∈ l, f i = f j → i = j) → (l.map f).Nodup := by
  intro l
  induction l with
  | nil => intro _ _; exact List.nodup_nil
  | cons x l ih =>
    intro hn hi
    rw [List.nodup_cons] at hn
    rw [List.map_cons, List.nodup_cons]
    refine ⟨fun h => ?_, ih hn.2 (fun i h1 j h2 => hi i (by simp [h1]) j (by simp [h2]))⟩
    obtain ⟨y, hy, e⟩ := List.mem_map.1 h
    have := hi y (by simp [hy]) x (by simp) e
    subst this
    exact hn.1 hy
theorem Hp.move_len {ls : List Int} {hs : List Nat} {a : Int} {rs : List Int} (ok : Hp.Ok ls a rs hs) (to : Int) : (Hp.move ls a rs to).1.length = Hp.sum ls (Hp.ordAll ls a rs) ∧ (Hp.move ls a rs to).1.length ≤ ls.length ∧ (Hp.move ls a rs to).2.length = rs.length := by
  obtain ⟨h1, h2, h3⟩ := Hp.move_desc ok to
  refine ⟨h1.len, (h2.bound ok.heads).1, by rw [h3]; simp⟩
theorem Hp.mvd {ls : List Int} {hs : List Nat} {a : Int} {rs : List Int} (ok : Hp.Ok ls a rs hs) {to : Int} (ht : Hp.place to) (hlow : ∀ i ∈ hs, Hp.noLow a to (Hp.fields ls i)) : Hp.Mvd ls a hs to (Hp.ordAll ls a rs) (Hp.move ls a rs to).1 := by
  obtain ⟨h1, h2, h3⟩ := Hp.move_desc ok to
  have hb := h2.bound ok.heads
  refine ⟨ok.heads, h2.nodup, h2.sub, h1, ok.fields, fun i hi w hw ha => ?_, fun i hi => hlow i (h2.sub i hi), ht⟩
  obtain ⟨q, hq, rfl⟩ := List.getElem_of_mem hi
  have hb' : (Hp.ordAll ls a rs).length ≤ 0 + (ls.length + 1) := by omega
  exact Hp.ord_closed (ls.length + 1) 0 (Hp.visAll a rs []) rfl hb' q hq (Nat.zero_le _) w hw ha
theorem Hp.roots_mem {ls : List Int} {a : Int} {rs : List Int} {w : Int} (h : w ∈ rs) (ha : Hp.adr a w) : Hp.idx a w ∈ Hp.ordAll ls a rs := (Hp.ord_pre _ _ _ _ _).mem (Hp.visAll_mem rs [] w h ha)

section
variable {ls : List Int} {a : Int} {hs : List Nat} {to : Int} {O : List Nat} {m : List Int} (M : Hp.Mvd ls a hs to O m)
include M
theorem Hp.Mvd.place' : m.length ≤ ls.length := by
  have h := Hp.sum_le ls ls.length 0 hs (by omega) M.heads O M.nodup M.sub
  rw [M.desc.len]
  omega
def Hp.newHeads (ls : List Int) (O : List Nat) : List Nat := (List.range' 0 O.length).map (Hp.q ls O)
theorem Hp.Mvd.heads' : Hp.heads m = some (Hp.newHeads ls O) := by
  have h := M.from O.length 0 (by omega) (Nat.zero_le _)
  have e : Hp.q ls O 0 = 0 := rfl
  rw [e] at h
  exact h
theorem Hp.Mvd.okw' {w : Int} (hok : Hp.okw (Hp.mem hs) a w = true) (hlow : w % 2 = 0 → w < a → w < to) (hm : Hp.adr a w → Hp.idx a w ∈ O) : Hp.okw (Hp.mem (Hp.newHeads ls O)) to (Hp.rel ls a to O w) = true := by
  unfold Hp.okw
  by_cases h : Hp.adr a w
  · obtain ⟨_, e2, e3⟩ := M.word_new h (hm h)
    rw [e2.1, e2.2, e3]
    obtain ⟨q, hq, hqe⟩ := List.getElem_of_mem (hm h)
    rw [← hqe, Hp.P_q M.nodup q hq]
    simp [Hp.mem, Hp.newHeads]
    exact ⟨q, hq, rfl⟩
  · obtain ⟨e1, e2, _⟩ := Hp.word_old hok h hlow
    rw [e1, e2]
    rfl
theorem Hp.Mvd.okws' {ws : List Int} (hok : Hp.okws (Hp.mem hs) a ws = true) (hlow : Hp.noLow a to ws) (hm : ∀ w ∈ ws, Hp.adr a w → Hp.idx a w ∈ O) : Hp.okws (Hp.mem (Hp.newHeads ls O)) to (ws.map (Hp.rel ls a to O)) = true := by
  unfold Hp.okws at hok ⊢
  rw [List.all_eq_true] at hok ⊢
  intro x hx
  obtain ⟨w, hw, rfl⟩ := List.mem_map.1 hx
  exact M.okw' (hok w hw) (hlow w hw) (hm w hw)
theorem Hp.Mvd.ok' {rs : List Int} (hll : ls.length ≤ 65536) (hrl : rs.length ≤ 4096) (hro : Hp.okws (Hp.mem hs) a rs = true) (hlow : Hp.noLow a to rs) (hm : ∀ w ∈ rs, Hp.adr a w → Hp.idx a w ∈ O) : Hp.Ok m to (rs.map (Hp.rel ls a to O)) (Hp.newHeads ls O) := by
  refine ⟨by have := M.place'; omega, by rw [List.length_map]; exact hrl, M.heads', M.place, M.okws' hro hlow hm, fun i hi => ?_⟩
  unfold Hp.newHeads at hi
  obtain ⟨q, hq, rfl⟩ := List.mem_map.1 hi
  have hq' : q < O.length := by rw [List.mem_range'_1] at hq; omega
  have him : O[q] ∈ O := List.getElem_mem hq'
  rw [M.fields hq']
  exact M.okws' (M.fok _ (M.sub _ him)) (M.low _ him) (M.closed _ him)

theorem Hp.Mvd.map_get {q : Nat} (hq : q < O.length) : (O.map (Hp.P ls O))[q]'(by rw [List.length_map]; exact hq) = Hp.q ls O q := by
  rw [List.getElem_map, Hp.P_q M.nodup]
theorem Hp.Mvd.q' : ∀ k, k ≤ O.length → Hp.q m (O.map (Hp.P ls O)) k = Hp.q ls O k := by
  intro k
  induction k with
  | zero => intro _; rfl
  | succ k ih =>
    intro hk
    have hq : k < O.length := by omega
    rw [Hp.q_succ m _ k (by rw [List.length_map]; exact hq), Hp.q_succ ls O k hq, ih (by omega), M.map_get hq, M.wn hq]
theorem Hp.Mvd.nodup' : (O.map (Hp.P ls O)).Nodup := by
  exact nodup_map_on _ O M.nodup (fun i hi j hj h => M.inj hi hj h)
/-- The word of a word. -/
theorem Hp.Mvd.rel' {w : Int} (hok : Hp.okw (Hp.mem hs) a w = true) (hlow : w % 2 = 0 → w < a → w < to) (hm : Hp.adr a w → Hp.idx a w ∈ O) (t2 : Int) : Hp.rel m to t2 (O.map (Hp.P ls O)) (Hp.rel ls a to O w) = Hp.rel ls a t2 O w := by
  by_cases h : Hp.adr a w
  · obtain ⟨e1, e2, e3⟩ := M.word_new h (hm h)
    obtain ⟨q, hq, hqe⟩ := List.getElem_of_mem (hm h)
    have hp : Hp.P ls O (Hp.idx a w) = Hp.q ls O q := by rw [← hqe, Hp.P_q M.nodup]
    have hpos : Hp.pos m (O.map (Hp.P ls O)) 0 (Hp.idx to (Hp.rel ls a to O w)) = some (Hp.q ls O q) := by
      rw [e3, hp, ← M.map_get hq, Hp.pos_q m _ 0 q (by rw [List.length_map]; exact hq) M.nodup', M.q' q (by omega), M.map_get hq, Nat.zero_add]
    rw [Hp.rel_adr e2 hpos, Hp.rel_adr h (Hp.P_pos (hm h)), hp]
  · obtain ⟨e1, _, e3⟩ := Hp.word_old hok h hlow
    rw [e1, Hp.rel_non e3, Hp.rel_non h]
theorem Hp.Mvd.again {m2 m3 : List Int} {t2 : Int} (h2 : Hp.Desc m to t2 (O.map (Hp.P ls O)) m2) (h3 : Hp.Desc ls a t2 O m3) : m2 = m3 := by
  have hsum : Hp.sum m (O.map (Hp.P ls O)) = Hp.sum ls O := by
    rw [← Hp.q_all, ← Hp.q_all, List.length_map]
    exact M.q' _ (Nat.le_refl _)
  apply List.ext_getElem?
  intro p
  by_cases hp : p < Hp.sum ls O
  · obtain ⟨q, j, hq, hj, rfl⟩ := Hp.q_cover ls O p hp
    have v3 := h3.val q hq j hj
    have v2 := h2.val q (by rw [List.length_map]; exact hq) j (by rw [M.map_get hq, M.wn hq]; exact hj)
    rw [M.q' q (by omega), M.map_get hq, M.desc.val q hq j hj] at v2
    rw [v2, v3]
    have hfe : Hp.isField m (Hp.q ls O q) j ↔ Hp.isField ls O[q] j := by
      unfold Hp.isField
      rw [M.fields hq, List.length_map]
    cases hx : ls[O[q] + j]? with
    | none => rfl
    | some x =>
      simp only [Option.map_some]
      by_cases hf : Hp.isField ls O[q] j
      · have him : O[q] ∈ O := List.getElem_mem hq
        have hxm : x ∈ Hp.fields ls O[q] := by
          have h1 := hf.1
          have hl : j - 1 < (Hp.fields ls O[q]).length := by have := hf.2; omega
          have hg := Hp.fields_get hl
          rw [show O[q] + 1 + (j - 1) = O[q] + j by omega, hx] at hg
          rw [Option.some.inj hg]
          exact List.getElem_mem hl
        have hok : Hp.okw (Hp.mem hs) a x = true := by
          have := M.fok _ (M.sub _ him)
          unfold Hp.okws at this
          exact List.all_eq_true.1 this x hxm
        rw [if_pos hf, if_pos (hfe.2 hf), if_pos hf, M.rel' hok (M.low _ him x hxm) (M.closed _ him x hxm)]
      · rw [if_neg hf, if_neg (fun h => hf (hfe.1 h)), if_neg hf]
  · rw [List.getElem?_eq_none (by rw [h2.len, hsum]; omega), List.getElem?_eq_none (by rw [h3.len]; omega)]
/-- The order of what was moved. -/
theorem Hp.Mvd.ordAll {rs : List Int} (hO : O = Hp.ordAll ls a rs) (hro : Hp.okws (Hp.mem hs) a rs = true) (hlr : Hp.noLow a to rs) (hmem : ∀ w ∈ rs, Hp.adr a w → Hp.idx a w ∈ O) : Hp.ordAll m to (rs.map (Hp.rel ls a to O)) = O.map (Hp.P ls O) := by
  have h0 := M.visAll rs [] (fun i h => by cases h) hro hlr hmem
  rw [List.map_nil] at h0
  have h1 := M.ord (ls.length + 1) 0 (Hp.visAll a rs []) h0.2 (by rw [hO]; rfl)
  unfold Hp.ordAll
  rw [h0.1]
  have hb : O.length ≤ m.length := by
    have h2 := Hp.len_le_sum ls O (fun i hi => Hp.wnAt_pos (M.head hi))
    rw [M.desc.len]; exact h2
  have hb2 := M.place'
  exact Hp.ord_stable (ls.length + 1) 0 _ h1 (by rw [List.length_map]; omega) (m.length + 1) (by rw [List.length_map]; omega)
end

/-- What was moved may be a heap; moved, it is what its origin is, moved. -/
theorem Hp.move_again {ls : List Int} {hs : List Nat} {a : Int} {rs : List Int} (ok : Hp.Ok ls a rs hs) {to : Int} (ht : Hp.place to) (hlow : ∀ i ∈ hs, Hp.noLow a to (Hp.fields ls i)) (hlr : Hp.noLow a to rs) :
    (∃ hs', Hp.Ok (Hp.move ls a rs to).1 to (Hp.move ls a rs to).2 hs') ∧ ∀ t2, Hp.move (Hp.move ls a rs to).1 to (Hp.move ls a rs to).2 t2 = Hp.move ls a rs t2 := by
  have M := Hp.mvd ok ht hlow
  have hd := Hp.move_desc ok to
  have hmem : ∀ w ∈ rs, Hp.adr a w → Hp.idx a w ∈ Hp.ordAll ls a rs := fun w hw ha => Hp.roots_mem hw ha
  have ok' := M.ok' ok.ll ok.rl ok.roots hlr hmem
  rw [hd.2.2]
  refine ⟨⟨_, ok'⟩, fun t2 => ?_⟩
  obtain ⟨m, hm⟩ : ∃ m, m = (Hp.move ls a rs to).1 := ⟨_, rfl⟩
  rw [← hm] at M ok' ⊢
  obtain ⟨O, hO⟩ : ∃ O, O = Hp.ordAll ls a rs := ⟨_, rfl⟩
  rw [← hO] at M ok' hmem ⊢
  have hord : Hp.ordAll m to (rs.map (Hp.rel ls a to O)) = O.map (Hp.P ls O) := M.ordAll hO ok.roots hlr hmem
  have d2 := Hp.move_desc ok' t2
  have d3 := Hp.move_desc ok t2
  rw [hord] at d2
  rw [← hO] at d3
  apply Prod.ext
  · exact M.again d2.1 d3.1
  · rw [d2.2.2, d3.2.2, List.map_map]
    apply List.map_congr_left
    intro w hw
    have hok : Hp.okw (Hp.mem hs) a w = true := by
      have := ok.roots
      unfold Hp.okws at this
      exact List.all_eq_true.1 this w hw
    exact M.rel' hok (hlr w hw) (hmem w hw) t2

end Go.Proofs.YtgohnekaolgblaaGreat

/- heap.Same: contract. -/
namespace Go.Proofs.YtgohnekaolgblaaGreat
open Go.RowKit

end Go.Proofs.YtgohnekaolgblaaGreat
