/- heap.move: contract. -/
import Derived.Test.YtgohnekaolgblaaHpE
namespace Go.Proofs.Ytgohnekaolgblaa
open Go.RowKit

theorem Owns.block {E : TypeId} {k : IntKind} {B : Nat} {w w' : World} {v : Value} {xs : List Int} (h : Owns E k B w v xs) (hb : ∀ g, v.ownBlock = some g → w'.heap[g]? = w.heap[g]?) : Owns E k B w' v xs := by
  obtain ⟨h1, h2⟩ := h
  refine ⟨h1, ?_⟩
  rcases h2 with h2 | ⟨g, cap, cur, rfl, hg, hh, r⟩
  · exact .inl h2
  · exact .inr ⟨g, cap, cur, rfl, hg, (hb g rfl).trans hh, r⟩
theorem Mover.keep {w w' : World} {bm bn lo : Nat} {vl : Value} {ls : List Int} {a to : Int} {o : List Nat} {out : List Int} {vo vt : Value} (h : Mover w bm bn lo vl ls a to o out vo vt) (hk : ∀ k, MvS bm bn vo vt k → w'.heap[k]? = w.heap[k]?) : Mover w' bm bn lo vl ls a to o out vo vt := by
  obtain ⟨h1, ⟨n, h2, h3⟩, h4, h5, h6, h7, h8, h9⟩ := h
  exact ⟨(hk _ (.inl rfl)).trans h1, ⟨n, h2, h3.block (hk _ (.inr (.inl rfl)))⟩, h4.block (fun g hg => hk g (.inr (.inr (.inl hg)))), h5.block (fun g hg => hk g (.inr (.inr (.inr hg)))), h6, h7, h8, h9⟩
theorem Mover.lt {w : World} {bm bn lo : Nat} {vl : Value} {ls : List Int} {a to : Int} {o : List Nat} {out : List Int} {vo vt : Value} (h : Mover w bm bn lo vl ls a to o out vo vt) {k : Nat} (hk : MvS bm bn vo vt k) : k < w.heap.size := by
  obtain ⟨h1, ⟨n, h2, h3⟩, h4, h5, h6, h7, h8, h9⟩ := h
  rcases hk with rfl | rfl | hk | hk
  · exact h1.lt
  · exact h3.lt
  · exact (h4.lt _ hk).2
  · exact (h5.lt _ hk).2

/-- Where a slice lies that is apart from the mover's. -/
def Apart (bm bn : Nat) (vo vt v : Value) : Prop := ∀ g, v.ownBlock = some g → ¬ MvS bm bn vo vt g
theorem Apart.step {w : World} {bm bn lo : Nat} {vo vt vo' vt' v : Value} {xs : List Int} (h : Apart bm bn vo vt v) (hv : Owns 22 .u32 lo w v xs) (h1 : vo'.ownBlock = vo.ownBlock ∨ ∃ g, vo'.ownBlock = some g ∧ w.heap.size ≤ g) (h2 : vt'.ownBlock = vt.ownBlock ∨ ∃ g, vt'.ownBlock = some g ∧ w.heap.size ≤ g) : Apart bm bn vo' vt' v := by
  intro g hg hs
  have hlt := (hv.lt g hg).2
  rcases hs with hs | hs | hs | hs
  · exact h g hg (.inl hs)
  · exact h g hg (.inr (.inl hs))
  · rcases h1 with e | ⟨g', e, hg'⟩
    · exact h g hg (.inr (.inr (.inl (e ▸ hs))))
    · rw [e] at hs; cases hs; omega
  · rcases h2 with e | ⟨g', e, hg'⟩
    · exact h g hg (.inr (.inr (.inr (e ▸ hs))))
    · rw [e] at hs; cases hs; omega
theorem GrowS.belowM {w0 w w' : World} {bm bn lo : Nat} {vo vt : Value} {B : Nat} (hb : Below B w0 w) (hg : GrowS (MvS bm bn vo vt) w w') (hs : ∀ k, MvS bm bn vo vt k → B ≤ k) (hB : B ≤ w.heap.size) (_ : lo = lo) : Below B w0 w' := hb.trans (hg.toBelow hB hs)

theorem SeesB.cut {k : IntKind} {B : Nat} {w : World} {b off n c : Nat} {xs : List Int} (h : SeesB k B w (.slice (some ⟨b, off, none⟩) n c) xs) (l m c' : Nat) (hl : l + m ≤ xs.length) (hc : m ≤ c') (hm : c' ≤ maxLen) : SeesB k B w (.slice (some ⟨b, off + l, none⟩) m c') ((xs.drop l).take m) := by
  have e : ((xs.drop l).take m).length = m := by simp; omega
  obtain ⟨A, cap, he, h1, h2, h3⟩ := h
  refine ⟨_, c', by rw [e], by rw [e]; exact hc, hm, fun hne => ?_⟩
  have hn : 0 < m := by rw [← e]; exact List.length_pos_iff.2 hne
  obtain ⟨b', off', rfl, hb, hcell⟩ := h3 (by intro e; subst e; simp at hl; omega)
  simp only [Value.slice.injEq, Option.some.injEq, Addr.mk.injEq] at he
  obtain ⟨⟨rfl, rfl, -⟩, -, -⟩ := he
  refine ⟨b, off + l, rfl, hb, fun j hj => ?_⟩
  rw [e] at hj
  have := hcell (l + j) (by omega)
  rw [Nat.add_assoc, this]
  simp
theorem SeesB.none {k : IntKind} {B : Nat} {w : World} (A : Option Addr) : SeesB k B w (.slice A 0 0) [] := ⟨A, 0, rfl, by simp, by simp, fun h => absurd rfl h⟩

set_option maxHeartbeats 1000000 in
theorem hpFieldsB (v : Value) (ls : List Int) (i : Nat) (w : World) (hv : Sees .u32 w v ls) (hr : ∀ x ∈ ls, 0 ≤ x ∧ x < 4294967296) (hh : Hp.Head ls i) :
    Calls Try.prog 68 #[v, .int .i64 (i : Int)] w fun e w' => ∃ o, e = .returned o ∧ (∀ w2 B, SeesB .u32 B w2 v ls → SeesB .u32 B w2 o (Hp.fields ls i)) ∧ w' = w := by
  obtain ⟨hlt, hyes, hfit⟩ := hh
  obtain ⟨hp1, hp2, hp3, hp4⟩ := Wd.words_pos hyes
  obtain ⟨A, c, rfl, h1, h2, h3⟩ := hv
  obtain ⟨b, off, rfl, hc⟩ := h3 (by intro e; subst e; simp at hlt)
  unfold maxLen at h2
  obtain ⟨h, hhd⟩ : ∃ h, h = ls[i] := ⟨_, rfl⟩
  have hrr := hr _ (List.getElem_mem hlt)
  have hci := hc i hlt
  rw [← hhd] at hrr hci hyes hfit hp1 hp2 hp3 hp4
  have hfe : Hp.fields ls i = if (Wd.unhead h).1 = 2 then [] else (ls.drop (i + 1)).take (Hp.sz h) := by
    unfold Hp.fields
    rw [List.getElem?_eq_getElem hlt, ← hhd]
  obtain ⟨kd, n, s0, ok, hun⟩ : ∃ kd n s0 ok, Wd.unhead h = (kd, n, s0, ok) := ⟨_, _, _, _, rfl⟩
  have hs0 := Wd.unhead_size h
  unfold Hp.sz at hfe hp3
  have HU : ∀ w, Calls Try.prog 48 #[.int .u32 h] w fun e w' => e = .returned (.tuple #[.int .i64 kd, .int .i64 n, .int .i64 s0, .bool ok]) ∧ w' = w := fun w => by
    have h := wdUnhead h w hrr.1 hrr.2
    rw [hun] at h
    exact h
  rw [hun] at hfe hs0 hp2 hp3
  simp only at hfe hs0 hp2 hp3
  replace HU := Lib.hid HU
  clear hun hhd hr hc h3
  by_cases hk : kd = 2
  · rw [if_pos hk] at hfe
    subst hk
    replace hfe := Lib.hid hfe
    go_enter Try.func68, Try.ntmps68
    go_wp2_with fail
    refine (HU.out _).mono ?_
    rintro _ w1 ⟨rfl, hw1⟩
    subst hw1
    go_wp2_with fail
    go_returns
    exact ⟨_, rfl, fun w2 B _ => by rw [hfe.out]; exact SeesB.none _, rfl⟩
  · rw [if_neg hk] at hfe
    have hk' : (kd == 2) = false := by simpa using hk
    have hsz := hp3 hk
    obtain ⟨s, hs⟩ : ∃ s : Nat, s = s0.toNat := ⟨_, rfl⟩
    obtain rfl : s0 = (s : Int) := by omega
    rw [← hs] at hfe hsz
    clear hp3 hs
    by_cases hcq : c = i + 1
    · have hs00 : s = 0 := by omega
      subst hs00
      replace hfe := Lib.hid hfe
      go_enter Try.func68, Try.ntmps68
      go_wp2_with fail
      refine (HU.out _).mono ?_
      rintro _ w1 ⟨rfl, hw1⟩
      subst hw1
      go_wp2_with fail
      go_returns
      exact ⟨_, rfl, fun w2 B _ => by rw [hfe.out]; simpa using SeesB.none _, rfl⟩
    · replace hfe := Lib.hid hfe
      go_enter Try.func68, Try.ntmps68
      go_wp2_with fail
      refine (HU.out _).mono ?_
      rintro _ w1 ⟨rfl, hw1⟩
      subst hw1
      go_wp2_with fail
      go_returns
      refine ⟨_, rfl, fun w2 B h2' => ?_, rfl⟩
      rw [hfe.out]
      show SeesB .u32 B _ (.slice _ (i + 1 + s - (i + 1)) _) _
      rw [show i + 1 + s - (i + 1) = s by omega]
      exact h2'.cut (i + 1) s (c - (i + 1)) (by omega) (by omega) (by unfold maxLen; omega)

theorem Mover.setOut {w : World} {bm bn lo : Nat} {vl : Value} {ls : List Int} {a to : Int} {o : List Nat} {out : List Int} {vo : Value} {g n c : Nat} (h : Mover w bm bn lo vl ls a to o out vo (.slice (some ⟨g, 0, none⟩) n c)) (hlo : lo ≤ g) (j : Nat) (y : Int) : Mover (w.setCell ⟨g, j, none⟩ (.int .u32 y)) bm bn lo vl ls a to o (out.set j y) vo (.slice (some ⟨g, 0, none⟩) n c) := by
  obtain ⟨h1, ⟨n, h2, h3⟩, h4, h5, h6, h7, h8, h9⟩ := h
  refine ⟨h1.far g j (by omega) _, ⟨n, h2, h3.far g j (by omega) _⟩, h4.block (fun g' hg => Below.heap_setCell w ⟨g, j, none⟩ _ g' ?_), h5.set j y, h6, h7, h8, h9⟩
  simp only
  rintro rfl
  exact h6 _ hg rfl

theorem Hp.fields_fit {ls : List Int} {i : Nat} (h : Hp.Head ls i) : 1 + (Hp.fields ls i).length ≤ Hp.wnAt ls i := by
  have h1 := (Hp.fields_head h).2
  rw [(Hp.thing_head h).1]
  have e : ls[i]! = ls[i]'h.lt := by rw [getElem!_def, List.getElem?_eq_getElem h.lt]
  rw [e] at h1
  exact h1
theorem Hp.scan_end {ls : List Int} {a to : Int} {k : Nat} {o : List Nat} {out : List Int} (h : o.length ≤ k) : ∀ g, Hp.scan ls a to g k o out = (o, out) := by
  intro g
  cases g with
  | zero => rfl
  | succ g => rw [Hp.scan, List.getElem?_eq_none h]
theorem Mover.lo {w : World} {w0 bm bn lo : Nat} {vl : Value} {ls : List Int} {a to : Int} {o : List Nat} {out : List Int} {vo vt : Value} (h : Mover w bm bn lo vl ls a to o out vo vt) (h1 : w0 ≤ bm) (h2 : w0 ≤ bn) (h3 : w0 ≤ lo) : ∀ k, MvS bm bn vo vt k → w0 ≤ k := by
  intro k hk
  rcases hk with rfl | rfl | hk | hk
  · exact h1
  · exact h2
  · exact Nat.le_trans h3 (h.order.lt _ hk).1
  · exact Nat.le_trans h3 (h.out.lt _ hk).1

def MovePost (w : World) (r : List Int × List Int) (e : Ending) (w' : World) : Prop := ∃ o1 o2, e = .returned (.tuple #[o1, o2]) ∧ Owns 22 .u32 w.heap.size w' o1 r.1 ∧ Owns 22 .u32 w.heap.size w' o2 r.2 ∧ Below w.heap.size w w'

set_option maxHeartbeats 4000000 in
set_option maxRecDepth 100000 in
theorem hpMove (vl vr : Value) (ls rs : List Int) (a to : Int) (w : World) (hs : List Nat) (hhs : Hp.heads ls = some hs) (hl : Sees .u32 w vl ls) (hlr : ∀ x ∈ ls, 0 ≤ x ∧ x < 4294967296) (hv : Sees .u32 w vr rs) (hrr : ∀ x ∈ rs, 0 ≤ x ∧ x < 4294967296) (ha : 0 ≤ a ∧ a < 4294967296) (hto : 0 ≤ to ∧ to ≤ 2147483648)
    (hls : ls.length ≤ 65536) (hrl : rs.length ≤ 4096) (hro : Hp.okws (Hp.mem hs) a rs = true) (hfo : ∀ i ∈ hs, Hp.okws (Hp.mem hs) a (Hp.fields ls i) = true) :
    Calls Try.prog 63 #[vl, .int .u32 a, vr, .int .u32 to] w (MovePost w (Hp.move ls a rs to)) := by
  obtain ⟨Al, cl, rfl, l1, l2⟩ := hl.len
  obtain ⟨Ar, cr, rfl, r1, r2, r3⟩ := hv
  unfold maxLen at l2 r2
  have hmm := @run_makeMap Try.prog
  have HL := Lib.hid hl.seesB
  have HF := Lib.hid fun w' (h : Sees .u32 w' (.slice Al ls.length cl) ls) i (hi : i ∈ hs) => hpFieldsB _ ls i w' h hlr (Hp.heads_head hhs hi)
  have HW := Lib.hid fun w' o out vo vt u (hi : Hp.Inv ls hs o out) (hm : Mover w' (w.heap.size + 1) w.heap.size (w.heap.size + 2) (.slice Al ls.length cl) ls a to o out vo vt) (hl : SeesB .u32 w.heap.size w' (.slice Al ls.length cl) ls) hu hok hlo => hpWord w' (w.heap.size + 1) w.heap.size (w.heap.size + 2) (.slice Al ls.length cl) ls a to o out vo vt u w.heap.size hs hhs hi hm hl (by omega) hlr ha hto hu hok hls hlo
  obtain ⟨iU, hiU, hzU, hsU, hbU⟩ := info_parts (show (Try.prog.info? 22).map (fun i => (i.zero, i.size, i.bytes)) = some (some (.int .u32 0), 1, 4) by kernel_rfl)
  unfold Hp.move
  obtain ⟨tot, htot⟩ : ∃ tot, tot = Hp.roots ls a to rs [] [] := ⟨_, rfl⟩
  rw [← htot]
  have M0 : Mover ((w.alloc (.map #[] 0)).alloc (.cells #[.slice Al ls.length cl, .int .u32 a, .int .u32 to, .map (some w.heap.size), .slice none 0 0, .slice none 0 0] 146)) (w.heap.size + 1) w.heap.size (w.heap.size + 2) (.slice Al ls.length cl) ls a to [] [] (.slice none 0 0) (.slice none 0 0) :=
    ⟨by simpa using VB.new (w.alloc (.map #[] 0)) 146 #[.slice Al ls.length cl, .int .u32 a, .int .u32 to, .map (some w.heap.size), .slice none 0 0, .slice none 0 0], ⟨0, Nat.le_refl _, by
      rw [show Hp.pos ls [] 0 = fun _ => none from rfl]
      exact (IsNum.made w).alloc _⟩, Owns.nil _ _ _ _, Owns.nil _ _ _ _, fun g h => (by cases h), by omega, by omega, by omega⟩
  have I0 : Hp.Inv ls hs [] [] := ⟨List.nodup_nil, fun i h => (by cases h), rfl⟩
  replace M0 := Lib.hid M0
  replace htot := Lib.hid htot
  replace hro := Lib.hid hro
  replace hfo := Lib.hid hfo
  replace hhs := Lib.hid hhs
  replace r3 := Lib.hid r3
  replace hrr := Lib.hid hrr
  have hlr' := hlr
  replace hlr' := Lib.hid hlr'
  clear hl hlr
  go_enter Try.func63, Try.ntmps63
  go_wp2_with fail
  go_loopw [27, 11] (fun p vx wr => ∃ (j : Nat) (acc : List Int) (o : List Nat) (out : List Int) (vo vt : Value), p = .int .i64 (j : Int) ∧ j ≤ rs.length ∧ acc.length = j ∧ Owns 22 .u32 (w.heap.size + 2) wr vx acc ∧ Apart (w.heap.size + 1) w.heap.size vo vt vx ∧ Mover wr (w.heap.size + 1) w.heap.size (w.heap.size + 2) (.slice Al ls.length cl) ls a to o out vo vt ∧ Hp.Inv ls hs o out ∧ tot = (acc ++ (Hp.roots ls a to (rs.drop j) o out).1, (Hp.roots ls a to (rs.drop j) o out).2) ∧ Below w.heap.size w wr ∧ w.heap.size + 2 ≤ wr.heap.size)
    (fun p _ _ => rs.length - (intOf p).toNat)
  case atStart => exact ⟨0, [], [], [], _, _, rfl, by omega, rfl, Owns.nil _ _ _ _, fun g h => (by cases h), M0.out, I0, by rw [htot.out]; simp, B.alloc (B.alloc (B.refl w) _) _, by simp⟩
  case round =>
    obtain ⟨j, acc, o, out, vo, vt, rfl, hj, hacc, own, hap, hm, hi, heq, hb, hz⟩ := hrel
    obtain ⟨Ax, cx, rfl, x1, x2⟩ := own.sees.len
    unfold maxLen at x2
    clear M0
    have hacc' : acc.length ≤ 4096 := by omega
    replace hacc := Lib.hid hacc
    by_cases hjl : j < rs.length
    · obtain ⟨br, offr, rfl, hcr⟩ := r3.out (by intro e; subst e; simp at hjl)
      have hcj := cellK hb (hcr j hjl)
      have hrj := hrr.out _ (List.getElem_mem hjl)
      have hokj : Hp.okw (Hp.mem hs) a rs[j] = true := by
        have := hro.out
        unfold Hp.okws at this
        exact List.all_eq_true.1 this _ (List.getElem_mem hjl)
      rw [List.drop_eq_getElem_cons hjl] at heq
      obtain ⟨u, hu⟩ : ∃ u, u = rs[j] := ⟨_, rfl⟩
      rw [← hu] at hcj hrj hokj heq
      rw [Hp.roots] at heq
      have hcall := HW.out wr o out vo vt u hi hm (HL.out.keep (Nat.le_refl _) (fun b hb' _ => hb.block b hb')) hrj hokj hz
      have hi6 := (hi.word hhs.out (to := to) hokj).1
      obtain ⟨u6, hu6⟩ : ∃ x, x = (Hp.word ls a to o out u).1 := ⟨_, rfl⟩
      obtain ⟨o6, ho6⟩ : ∃ x, x = (Hp.word ls a to o out u).2.1 := ⟨_, rfl⟩
      obtain ⟨out6, hout6⟩ : ∃ x, x = (Hp.word ls a to o out u).2.2 := ⟨_, rfl⟩
      rw [← hu6, ← ho6, ← hout6] at hcall
      rw [← ho6, ← hout6] at hi6
      simp only [← hu6, ← ho6, ← hout6] at heq
      have hmlt := fun k (hk : MvS (w.heap.size + 1) w.heap.size vo vt k) => hm.lt hk
      have hmlo : ∀ k, MvS (w.heap.size + 1) w.heap.size vo vt k → w.heap.size ≤ k := by
        intro k hk
        rcases hk with rfl | rfl | hk | hk
        · omega
        · omega
        · have := (hm.order.lt _ hk).1; omega
        · have := (hm.out.lt _ hk).1; omega
      have OWN := Lib.hid own
      have HAP := Lib.hid hap
      have HB := Lib.hid hb
      replace hcall := Lib.hid hcall
      replace heq := Lib.hid heq
      replace hi6 := Lib.hid hi6
      replace hmlo := Lib.hid hmlo
      clear own hap hb hm hi hcr hu hu6 ho6 hout6 hmlt
      go_wp2_with fail
      refine hcall.out.mono ?_
      rintro _ w6 ⟨rfl, vo6, vt6, hm6, g6, lo6, lt6⟩
      have own6 := Lib.hid (OWN.out.block (fun g hg => g6.block g (OWN.out.lt g hg).2 (HAP.out g hg)))
      have hap6 := Lib.hid (HAP.out.step OWN.out lo6 lt6)
      have HB6 := Lib.hid (HB.out.trans (g6.toBelow HB.out.size hmlo.out))
      have hz6 := g6.size
      have HM6 := Lib.hid hm6
      have own6a : ∀ o, Owns 22 .u32 (w.heap.size + 2) (w6.alloc o) (.slice Ax acc.length cx) acc := fun o => own6.out.alloc o
      replace own6a := Lib.hid own6a
      clear hm6 g6 lo6 lt6
      go_wp2_with (first
        | (at_builtin; refine app_at (B := w.heap.size + 2) (xs := acc) (ys := [u6]) Try.underlying24 hiU hzU hsU hbU rfl (.tmp 31) (.tmp 35) rfl rfl rfl (Sees.one .u32 w6 _ u6 _ rfl) (own6a.out _) (by simp; omega) (by simp; omega) (by unfold maxLen; simp; omega) ?_; intro v7 w7 own7 g7 loc7)
        | fail)
      have hzz := g7.size
      simp only [World.size_alloc] at hzz
      go_roundw
      case measure => simp only [intOf]; omega
      case rel =>
        refine ⟨j + 1, acc ++ [u6], o6, out6, vo6, vt6, by simp, by omega, by simp; exact hacc.out, own7, ?_, ?_, hi6.out, ?_, ?_, by omega⟩
        · intro g hg hk
          rcases loc7 with e | e
          · exact hap6.out g (e ▸ hg) hk
          · rw [e] at hg
            cases hg
            have := HM6.out.lt hk
            simp only [World.size_alloc] at this
            omega
        · refine HM6.out.keep (fun k hk => (g7.block k (by have := HM6.out.lt hk; simp; omega) (fun e => hap6.out k e.symm hk)).trans (Below.heap_alloc w6 _ k (HM6.out.lt hk)))
        · rw [heq.out]; simp
        · exact (B.alloc HB6.out _).grown g7 (by simp; omega) (fun g hg => by have := (own6.out.lt g hg).1; omega)
    · have hje : j = rs.length := by omega
      have heq2 : tot = (acc, o, out) := by rw [heq, List.drop_of_length_le (by omega), Hp.roots]; simp
      clear heq
      obtain ⟨fin, hfin⟩ : ∃ fin, fin = Hp.scan ls a to (ls.length + 1) 0 tot.2.1 tot.2.2 := ⟨_, rfl⟩
      rw [← hfin]
      have hfin2 : fin = Hp.scan ls a to (ls.length + 1) 0 o out := by rw [hfin, heq2]
      have htot1 : tot.1 = acc := by rw [heq2]
      rw [htot1]
      have OWN := Lib.hid own
      have HAP := Lib.hid hap
      have HB := Lib.hid hb
      have HM := Lib.hid hm
      have HI := Lib.hid hi
      replace hfin2 := Lib.hid hfin2
      replace hfin := Lib.hid hfin
      replace htot1 := Lib.hid htot1
      clear own hap hb hm hi heq2 htot
      go_wp2_with fail
      go_loopw [14] (fun p wr => ∃ (k g : Nat) (o : List Nat) (out : List Int) (vo vt : Value), p = .int .i64 (k : Int) ∧ k ≤ o.length ∧ k + g = ls.length + 1 ∧ Owns 22 .u32 (w.heap.size + 2) wr (.slice Ax acc.length cx) acc ∧ Apart (w.heap.size + 1) w.heap.size vo vt (.slice Ax acc.length cx) ∧ Mover wr (w.heap.size + 1) w.heap.size (w.heap.size + 2) (.slice Al ls.length cl) ls a to o out vo vt ∧ Hp.Inv ls hs o out ∧ fin = Hp.scan ls a to g k o out ∧ Below w.heap.size w wr ∧ w.heap.size + 2 ≤ wr.heap.size)
        (fun p _ => ls.length + 1 - (intOf p).toNat)
      case atStart => exact ⟨0, ls.length + 1, o, out, vo, vt, rfl, by omega, by omega, OWN.out, HAP.out, HM.out, HI.out, hfin2.out, HB.out, hz⟩
      case round =>
        clear OWN HAP HB HM HI hfin2 hz
        obtain ⟨k, g, o, out, vo, vt, rfl, hk, hkg, own, hap, hm, hi, heq, hb, hz⟩ := hrel
        obtain ⟨Ao, co, hvo, o1, o2⟩ := hm.order.sees.len
        rw [nums_length] at hvo o1
        subst hvo
        unfold maxLen at o2
        have hbd := hi.bound hhs.out
        have c4 := hm.cells.cell 4
        have c5 := hm.cells.cell 5
        have clt := hm.cells.lt
        simp at c4 c5
        by_cases hko : k < o.length
        · obtain ⟨go, cgo, hgo, go1, go2, _, _, hgc⟩ := hm.order.cells (by intro e; have := congrArg List.length e; rw [nums_length, List.length_nil] at this; omega)
          rw [nums_length] at hgo
          simp only [Value.slice.injEq] at hgo
          obtain ⟨rfl, -, -⟩ := hgo
          have ck := hgc k (by rw [nums_length]; exact hko)
          rw [show (nums o)[k]'(by rw [nums_length]; exact hko) = ((o[k] : Nat) : Int) by simp [nums]] at ck
          have him : o[k] ∈ o := List.getElem_mem hko
          obtain ⟨g', rfl⟩ : ∃ g', g = g' + 1 := ⟨g - 1, by omega⟩
          rw [Hp.scan, List.getElem?_eq_getElem hko] at heq
          obtain ⟨i, hie⟩ : ∃ i, i = o[k] := ⟨_, rfl⟩
          rw [← hie] at ck him heq
          obtain ⟨P, hP⟩ := Hp.pos_mem ls i o him
          have hih := hi.sub i him
          have hhd := Hp.heads_head hhs.out hih
          have hfit := Hp.fields_fit hhd
          simp only [hP, Option.getD_some] at heq
          have hcallF := HF.out wr (HL.out.sees.below hb (Nat.le_refl _)) i hih
          have hfr := Hp.fields_range hlr'.out i
          have hfok := hfo.out i hih
          obtain ⟨fs, hfs⟩ : ∃ fs, fs = Hp.fields ls i := ⟨_, rfl⟩
          rw [← hfs] at hfit heq hcallF hfr hfok
          have hwl : Hp.wnAt ls i ≤ 65536 := by have := (Hp.thing_head hhd).1; have := hhd.fits; omega
          have OWN := Lib.hid own
          have HAP := Lib.hid hap
          have HB := Lib.hid hb
          have HM := Lib.hid hm
          have HI := Lib.hid hi
          replace heq := Lib.hid heq
          replace hP := Lib.hid hP
          replace hcallF := Lib.hid hcallF
          replace hfr := Lib.hid hfr
          replace hfok := Lib.hid hfok
          have hi65 : i < 9223372036854775808 := by have := hhd.lt; omega
          clear own hap hb hm hi hgc hie him hhd hfs hih go1 go2
          go_wp2_with fail
          refine hcallF.out.mono ?_
          rintro _ w6 ⟨vf, rfl, svf, hw6⟩
          subst hw6
          obtain ⟨Af, cf, rfl, f1, f2, f3⟩ := svf _ _ HL.out
          unfold maxLen at f2
          replace f3 := Lib.hid f3
          clear svf c4 c5 clt ck
          go_wp2_with fail
          go_loopw [58] (fun p wr => ∃ (n : Nat) (o : List Nat) (out : List Int) (vo vt : Value), p = .int .i64 (n : Int) ∧ n ≤ fs.length ∧ Owns 22 .u32 (w.heap.size + 2) wr (.slice Ax acc.length cx) acc ∧ Apart (w.heap.size + 1) w.heap.size vo vt (.slice Ax acc.length cx) ∧ Mover wr (w.heap.size + 1) w.heap.size (w.heap.size + 2) (.slice Al ls.length cl) ls a to o out vo vt ∧ Hp.Inv ls hs o out ∧ Hp.pos ls o 0 i = some P ∧ fin = Hp.scan ls a to g' (k + 1) (Hp.fill ls a to (fs.drop n) (P + 1 + n) o out).1 (Hp.fill ls a to (fs.drop n) (P + 1 + n) o out).2 ∧ k < o.length ∧ Below w.heap.size w wr ∧ w.heap.size + 2 ≤ wr.heap.size)
            (fun p _ => fs.length - (intOf p).toNat)
          case atStart => exact ⟨0, o, out, _, vt, rfl, by omega, OWN.out, HAP.out, HM.out, HI.out, hP.out, by rw [heq.out]; simp, hko, HB.out, hz⟩
          case round =>
            clear OWN HAP HB HM HI heq hP hz hcallF hko hbd o1 o2
            obtain ⟨n, o, out, vo, vt, rfl, hn, own, hap, hm, hi, hP, heq, hko, hb, hz⟩ := hrel
            by_cases hnl : n < fs.length
            · obtain ⟨bf, offf, rfl, hbf, hcf⟩ := f3.out (by intro e; subst e; simp at hnl)
              have hcn := cellK hb (hcf n hnl)
              have hrn := hfr.out _ (List.getElem_mem hnl)
              have hokn : Hp.okw (Hp.mem hs) a fs[n] = true := by
                have := hfok.out
                unfold Hp.okws at this
                exact List.all_eq_true.1 this _ (List.getElem_mem hnl)
              rw [List.drop_eq_getElem_cons hnl] at heq
              obtain ⟨u, hu⟩ : ∃ u, u = fs[n] := ⟨_, rfl⟩
              rw [← hu] at hcn hrn hokn heq
              rw [Hp.fill] at heq
              have hcall := HW.out wr o out vo vt u hi hm (HL.out.keep (Nat.le_refl _) (fun b hb' _ => hb.block b hb')) hrn hokn hz
              obtain ⟨hi6, hpos6, more, hmore⟩ := hi.word hhs.out (to := to) hokn
              have hP6 := hpos6 i P hP
              obtain ⟨u6, hu6⟩ : ∃ x, x = (Hp.word ls a to o out u).1 := ⟨_, rfl⟩
              obtain ⟨o6, ho6⟩ : ∃ x, x = (Hp.word ls a to o out u).2.1 := ⟨_, rfl⟩
              obtain ⟨out6, hout6⟩ : ∃ x, x = (Hp.word ls a to o out u).2.2 := ⟨_, rfl⟩
              rw [← hu6, ← ho6, ← hout6] at hcall
              rw [← ho6, ← hout6] at hi6
              rw [← ho6] at hP6 hmore
              simp only [← hu6, ← ho6, ← hout6] at heq
              have hk6 : k < o6.length := by rw [hmore]; simp; omega
              have hpf := (Hp.pos_fit ls i o6 0 P hP6).2
              have hl6 := hi6.len
              have hb6 := hi6.bound hhs.out
              have hmlo := hm.lo (w0 := w.heap.size) (by omega) (by omega) (by omega)
              have OWN := Lib.hid own
              have HAP := Lib.hid hap
              have HB := Lib.hid hb
              replace hcall := Lib.hid hcall
              replace heq := Lib.hid heq
              replace hi6 := Lib.hid hi6
              replace hP6 := Lib.hid hP6
              replace hmlo := Lib.hid hmlo
              have hidx : P + 1 + n < out6.length := by omega
              clear own hap hb hm hi hcf hu hu6 ho6 hout6 hpos6 hmore hP hl6 hpf
              go_wp2_with fail
              refine hcall.out.mono ?_
              rintro _ w6 ⟨rfl, vo6, vt6, hm6, g6, lo6, lt6⟩
              have own6 := Lib.hid (OWN.out.block (fun g hg => g6.block g (OWN.out.lt g hg).2 (HAP.out g hg)))
              have hap6 := Lib.hid (HAP.out.step OWN.out lo6 lt6)
              have HB6 := Lib.hid (HB.out.trans (g6.toBelow HB.out.size hmlo.out))
              have hz6 := g6.size
              obtain ⟨gt, ct, rfl, gt1, gt2, gt3, gt4, gtc⟩ := hm6.out.cells (by intro e; rw [e] at hidx; simp at hidx)
              unfold maxLen at gt4
              have d3 := hm6.cells.cell 3
              have d5 := hm6.cells.cell 5
              have dl := hm6.cells.lt
              simp at d3 d5
              have dt := gtc _ hidx
              have dtf := hm6.out.free (P + 1 + n)
              obtain ⟨nn, _, hnum⟩ := hm6.num
              have hlook : ∀ w', w'.heap = w6.heap → (Instr.lookup 143 (.map (some w.heap.size)) (.int .i64 (i : Int)) false).run Try.prog w' = .ok (.int .i64 (P : Int)) w' := fun w' h => (hnum.block (by rw [h])).run i hi65 P hP6.out
              have hlk := hlook w6.drew rfl
              have s1 : IntKind.i64.wrap ((P : Int) + 1) = (P : Int) + 1 := by rw [IntKind.wrap_i64]; omega
              have s2 : IntKind.i64.wrap ((P : Int) + 1 + (n : Int)) = (P : Int) + 1 + (n : Int) := by rw [IntKind.wrap_i64]; omega
              have s3 : 0 ≤ (P : Int) + 1 + (n : Int) := by omega
              have s4 : (P : Int) + 1 + (n : Int) < (out6.length : Int) := by omega
              have s5 : ((P : Int) + 1 + (n : Int)).toNat = P + 1 + n := by omega
              have HM6 := Lib.hid hm6
              replace hlook := Lib.hid hlook
              replace hnum := Lib.hid hnum
              clear hm6 g6 lo6 lt6 gtc
              go_wp2_with fail
              go_region
              go_wp2_with fail
              go_roundw
              case measure => simp only [intOf]; omega
              case rel =>
                refine ⟨n + 1, o6, out6.set (P + 1 + n) u6, vo6, .slice (some ⟨gt, 0, none⟩) out6.length ct, by simp, by omega, ?_, hap6.out, (HM6.out.setOut gt1 (P + 1 + n) u6).keep (fun _ _ => rfl), ⟨hi6.out.nodup, hi6.out.sub, by rw [List.length_set]; exact hi6.out.len⟩, hP6.out, heq.out, hk6, (HB6.out.setCell (p := ⟨gt, P + 1 + n, none⟩) (by simp; omega) _).drew, ?_⟩
                · refine own6.out.block (fun g hg => Below.heap_setCell w6 ⟨gt, P + 1 + n, none⟩ _ g ?_)
                  rintro rfl
                  exact hap6.out _ hg (.inr (.inr (.inr rfl)))
                · show w.heap.size + 2 ≤ (w6.setCell ⟨gt, P + 1 + n, none⟩ (.int .u32 u6)).heap.size
                  simp [World.setCell]; omega
            · have hne : n = fs.length := by omega
              rw [List.drop_of_length_le (by omega), Hp.fill] at heq
              have OWN := Lib.hid own
              have HAP := Lib.hid hap
              have HB := Lib.hid hb
              have HM := Lib.hid hm
              have HI := Lib.hid hi
              replace heq := Lib.hid heq
              have hbd := hi.bound hhs.out
              clear own hap hb hm hi hP
              go_wp2_with fail
              go_roundw
              case measure => simp only [intOf]; omega
              case rel => exact ⟨k + 1, by simp, g', o, by omega, by omega, OWN.out, out, vo, vt, HAP.out, HM.out, HI.out, heq.out, HB.out⟩
        · have hke : k = o.length := by omega
          rw [Hp.scan_end (by omega)] at heq
          have hf2 : fin.2 = out := by rw [heq]
          have OWN := Lib.hid own
          have HB := Lib.hid hb
          have HM := Lib.hid hm
          clear own hap hb hm hi heq
          go_wp2_with fail
          go_returns
          exact ⟨vt, .slice Ax acc.length cx, rfl, by simp only; rw [← hfin.out, hf2]; exact HM.out.out.mono (B' := w.heap.size) (by omega), by simp only; rw [htot1.out]; exact OWN.out.mono (B' := w.heap.size) (by omega), HB.out⟩

end Go.Proofs.Ytgohnekaolgblaa
