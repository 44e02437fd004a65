/- (*heap.mover).word: contract. -/
import Derived.Test.YtgohnekaolgblaaHpApp
import Derived.Test.YtgohnekaolgblaaHpC
import Derived.Test.YtgohnekaolgblaaRdText
import Derived.Test.YtgohnekaolgblaaTrCopy
namespace Go.Proofs.Ytgohnekaolgblaa
open Go.RowKit

def nums (o : List Nat) : List Int := List.map (fun n : Nat => (n : Int)) o
theorem nums_length (o : List Nat) : (nums o).length = o.length := by simp [nums]

structure Mover (w : World) (bm bn lo : Nat) (vl : Value) (ls : List Int) (a to : Int) (o : List Nat) (out : List Int) (vo vt : Value) : Prop where
  cells : VB w bm 146 #[vl, .int .u32 a, .int .u32 to, .map (some bn), vo, vt]
  num : ∃ n, n ≤ o.length ∧ IsNum w bn n (Hp.pos ls o 0)
  order : Owns 3 .i64 lo w vo (nums o)
  out : Owns 22 .u32 lo w vt out
  apart : ∀ g, vo.ownBlock = some g → vt.ownBlock ≠ some g
  ne : bm ≠ bn
  lo_bm : bm < lo
  lo_bn : bn < lo

theorem ap_ne {vo vt : Value} (hap : ∀ g, vo.ownBlock = some g → vt.ownBlock ≠ some g) : vt.ownBlock = none ∨ vt.ownBlock ≠ vo.ownBlock := by
  cases h : vt.ownBlock with
  | none => exact .inl rfl
  | some g => exact .inr (fun e => hap g e.symm h)

/-- What may have turned of what was there. -/
def MvS (bm bn : Nat) (vo vt : Value) (k : Nat) : Prop := k = bm ∨ k = bn ∨ vo.ownBlock = some k ∨ vt.ownBlock = some k
def MoverPost (w w' : World) (bm bn lo : Nat) (vl : Value) (ls : List Int) (a to : Int) (o : List Nat) (out : List Int) (vo vt : Value) : Prop :=
  ∃ vo' vt', Mover w' bm bn lo vl ls a to o out vo' vt' ∧ GrowS (MvS bm bn vo vt) w w' ∧ (vo'.ownBlock = vo.ownBlock ∨ ∃ g, vo'.ownBlock = some g ∧ w.heap.size ≤ g) ∧ (vt'.ownBlock = vt.ownBlock ∨ ∃ g, vt'.ownBlock = some g ∧ w.heap.size ≤ g)

theorem Hp.pos_le (ls : List Int) : ∀ (o : List Nat) (acc i n : Nat), Hp.pos ls o acc i = some n → n ≤ acc + Hp.sum ls o := by
  intro o
  induction o with
  | nil => intro acc i n h; cases h
  | cons j r ih =>
    intro acc i n h
    rw [Hp.pos] at h
    rw [Hp.sum]
    split at h
    · simp only [Option.some.injEq] at h; omega
    · have := ih _ _ _ h; omega
theorem Hp.pos_snoc (ls : List Int) (i j : Nat) : ∀ (o : List Nat) (acc : Nat), Hp.pos ls o acc i = none → Hp.pos ls (o ++ [i]) acc j = if j = i then some (acc + Hp.sum ls o) else Hp.pos ls o acc j := by
  intro o
  induction o with
  | nil =>
    intro acc _
    simp only [List.nil_append, Hp.pos, Hp.sum]
    by_cases h : j = i
    · rw [if_pos h, if_pos h.symm]; rfl
    · rw [if_neg h, if_neg (fun e => h e.symm)]
  | cons k r ih =>
    intro acc h
    rw [Hp.pos] at h
    by_cases hk : k = i
    · rw [if_pos hk] at h; cases h
    · rw [if_neg hk] at h
      simp only [List.cons_append, Hp.pos, Hp.sum]
      rw [ih _ h]
      by_cases hj : k = j
      · subst hj
        rw [if_pos rfl, if_neg hk, if_pos rfl]
      · rw [if_neg hj, if_neg hj]
        congr 2
        omega
theorem Hp.sum_snoc (ls : List Int) (i : Nat) : ∀ (o : List Nat), Hp.sum ls (o ++ [i]) = Hp.sum ls o + Hp.wnAt ls i := by
  intro o
  induction o with
  | nil => simp [Hp.sum]
  | cons k r ih => simp only [List.cons_append, Hp.sum, ih]; omega
theorem Hp.thing_head {ls : List Int} {i : Nat} (h : Hp.Head ls i) : Hp.wnAt ls i = Hp.wn (ls[i]'h.lt) ∧ (Hp.thing ls i).length = Hp.wnAt ls i := by
  have hlt := h.lt
  have e : Hp.wnAt ls i = Hp.wn ls[i] := by unfold Hp.wnAt; rw [List.getElem?_eq_getElem hlt]
  refine ⟨e, ?_⟩
  have := h.fits
  unfold Hp.thing
  rw [List.length_take, List.length_drop, e]
  omega

section
variable (w : World) (bm bn lo : Nat) (vl : Value) (ls : List Int) (a to : Int) (o : List Nat) (out : List Int) (vo vt : Value) (u : Int) (B : Nat)

set_option maxHeartbeats 1000000 in
set_option maxRecDepth 100000 in
theorem word_stays (hm : Mover w bm bn lo vl ls a to o out vo vt) (ha : 0 ≤ a ∧ a < 4294967296) (hu : 0 ≤ u ∧ u < 4294967296) (h : ¬ (Hp.isAdr a u = true ∧ Hp.whole a u = true)) :
    Calls Try.prog 105 #[.pointer (some ⟨bm, 0, none⟩), .int .u32 u] w fun e w' => e = .returned (.int .u32 u) ∧ w' = w := by
  have c1 := hm.cells.cell 1
  have cl := hm.cells.lt
  simp at c1
  have hN := fun w' => hpNames u a w' hu.1 hu.2 ha.1 ha.2
  rw [show (Hp.isAdr a u && Hp.whole a u) = false by simpa using h] at hN
  obtain ⟨k, hk⟩ : ∃ k, k = (if Hp.isAdr a u = true then Hp.idx a u else 0) := ⟨_, rfl⟩
  rw [← hk] at hN
  replace hN := Lib.hid hN
  clear h hm hk
  go_enter Try.func105, Try.ntmps105
  go_wp2_with fail
  refine (hN.out _).mono ?_
  rintro _ w1 ⟨rfl, hw1⟩
  subst hw1
  go_wp2_with fail
  go_returns
  exact ⟨rfl, rfl⟩

set_option maxHeartbeats 1000000 in
set_option maxRecDepth 100000 in
theorem word_was (hm : Mover w bm bn lo vl ls a to o out vo vt) (ha : 0 ≤ a ∧ a < 4294967296) (hto : 0 ≤ to ∧ to ≤ 2147483648) (hu : 0 ≤ u ∧ u < 4294967296) (h : Hp.isAdr a u = true ∧ Hp.whole a u = true) (n : Nat) (hn : Hp.pos ls o 0 (Hp.idx a u) = some n) (hlim : n ≤ 65536) :
    Calls Try.prog 105 #[.pointer (some ⟨bm, 0, none⟩), .int .u32 u] w fun e w' => e = .returned (.int .u32 (to + 4 * n)) ∧ w' = w := by
  have c1 := hm.cells.cell 1
  have c2 := hm.cells.cell 2
  have c3 := hm.cells.cell 3
  have cl := hm.cells.lt
  simp at c1 c2 c3
  have hN := fun w' => hpNames u a w' hu.1 hu.2 ha.1 ha.2
  rw [show (Hp.isAdr a u && Hp.whole a u) = true by simpa using h, if_pos h.1] at hN
  have hidx : Hp.idx a u < 4294967296 := by unfold Hp.idx; omega
  obtain ⟨i, hi⟩ : ∃ i, i = Hp.idx a u := ⟨_, rfl⟩
  rw [← hi] at hN hidx hn
  obtain ⟨nn, _, hnum⟩ := hm.num
  have hlook := hnum.run_ok i (by omega)
  rw [hn] at hlook
  simp only [Option.getD_some, Option.isSome_some] at hlook
  replace hN := Lib.hid hN
  clear h hm hn hi hnum
  go_enter Try.func105, Try.ntmps105
  go_wp2_with fail
  refine (hN.out _).mono ?_
  rintro _ w1 ⟨rfl, hw1⟩
  subst hw1
  go_wp2_with fail
  go_returns
  exact ⟨rfl, rfl⟩

set_option maxHeartbeats 4000000 in
set_option maxRecDepth 100000 in
theorem word_new (hm : Mover w bm bn lo vl ls a to o out vo vt) (hl : SeesB .u32 B w vl ls) (hB : B ≤ bm ∧ B ≤ bn ∧ B ≤ lo) (hlr : ∀ x ∈ ls, 0 ≤ x ∧ x < 4294967296) (ha : 0 ≤ a ∧ a < 4294967296) (hto : 0 ≤ to ∧ to ≤ 2147483648) (hu : 0 ≤ u ∧ u < 4294967296) (h : Hp.isAdr a u = true ∧ Hp.whole a u = true)
    (hn : Hp.pos ls o 0 (Hp.idx a u) = none) (hsum : out.length = Hp.sum ls o) (hlim : out.length ≤ 65536) (hol : o.length ≤ 65536) (hls : ls.length ≤ 65536) (hlo : lo ≤ w.heap.size) (hhead : Hp.Head ls (Hp.idx a u)) :
    Calls Try.prog 105 #[.pointer (some ⟨bm, 0, none⟩), .int .u32 u] w fun e w' => e = .returned (.int .u32 (to + 4 * out.length)) ∧ MoverPost w w' bm bn lo vl ls a to (o ++ [Hp.idx a u]) (out ++ Hp.thing ls (Hp.idx a u)) vo vt := by
  obtain ⟨hcells, ⟨nn, hnn, hnum⟩, hord, hout, hap, hne, hlbm, hlbn⟩ := hm
  have hN := fun w' => hpNames u a w' hu.1 hu.2 ha.1 ha.2
  rw [show (Hp.isAdr a u && Hp.whole a u) = true by simpa using h, if_pos h.1] at hN
  have hidx : Hp.idx a u < 4294967296 := by unfold Hp.idx; omega
  obtain ⟨i, hi⟩ : ∃ i, i = Hp.idx a u := ⟨_, rfl⟩
  rw [← hi] at hN hidx hn hhead ⊢
  have hlook := hnum.run_ok i (by omega)
  rw [hn] at hlook
  simp only [Option.getD_none, Option.isSome_none] at hlook
  obtain ⟨hw1, hw2⟩ := Hp.thing_head hhead
  obtain ⟨hlt, hyes, hfit⟩ := hhead
  obtain ⟨hp1, hp2, hp3, hp4⟩ := Wd.words_pos hyes
  have hls0 := hl
  obtain ⟨Al, cl, rfl, q1, q2, q3⟩ := hl
  obtain ⟨bl, offl, rfl, hblB, hlc⟩ := q3 (by intro e; subst e; simp at hlt)
  unfold maxLen at q2
  have hri := hlr _ (List.getElem_mem hlt)
  have hci := hlc i hlt
  obtain ⟨hd, hhd⟩ : ∃ x, x = ls[i] := ⟨_, rfl⟩
  rw [← hhd] at hri hci hyes hfit hp1 hp4 hw1
  obtain ⟨wn, hwn⟩ : ∃ x, x = Hp.wn hd := ⟨_, rfl⟩
  rw [← hwn] at hfit hp1 hp4 hw1
  have HW : ∀ w, Calls Try.prog 50 #[.int .u32 hd] w fun e w' => e = .returned (.tuple #[.int .i64 (wn : Int), .bool true]) ∧ w' = w := fun w => by
    have h := wdWords hd w hri.1 hri.2
    rw [hyes] at h
    have e : (Wd.words hd).1 = (wn : Int) := by
      rw [hwn]; unfold Hp.wn
      have := Wd.unhead_size hd
      have : 0 ≤ (Wd.words hd).1 := by
        unfold Wd.words
        split
        · split <;> simp only <;> omega
        · simp
      omega
    rw [e] at h
    exact h
  replace HW := Lib.hid HW
  replace hN := Lib.hid hN
  have hpsn := Lib.hid fun j => Hp.pos_snoc ls i j o 0 hn
  obtain ⟨iI, hiI, hzI, hsI, hbI⟩ := info_parts (show (Try.prog.info? 3).map (fun i => (i.zero, i.size, i.bytes)) = some (some (.int .i64 0), 1, 8) by kernel_rfl)
  obtain ⟨iU, hiU, hzU, hsU, hbU⟩ := info_parts (show (Try.prog.info? 22).map (fun i => (i.zero, i.size, i.bytes)) = some (some (.int .u32 0), 1, 4) by kernel_rfl)
  obtain ⟨Ao, co, rfl, o1, o2⟩ := hord.sees.len
  obtain ⟨At, ct, rfl, t1, t2⟩ := hout.sees.len
  unfold maxLen at o2 t2
  have hol1 := hord.lt
  have hot1 := hout.lt
  have c1 := hcells.cell 1
  have c2 := hcells.cell 2
  have c3 := hcells.cell 3
  have c5 := hcells.cell 5
  have clt := hcells.lt
  simp at c1 c2 c3 c5
  have V0 := Lib.hid hcells
  have NUM := Lib.hid hnum
  have ORD := Lib.hid hord
  have OUT := Lib.hid hout
  have HLC := Lib.hid hlc
  have HL0 := Lib.hid hls0
  replace hol1 := Lib.hid hol1
  replace hot1 := Lib.hid hot1
  replace hap := Lib.hid hap
  replace hlr := Lib.hid hlr
  replace hsum := Lib.hid hsum
  replace hw1 := Lib.hid hw1
  replace hw2 := Lib.hid hw2
  have hblw : bl < w.heap.size := by have := hci; simpa using World.block_lt_of_cell? w _ hci
  clear hcells hnum hord hout hlc hls0 h hn hi hhd hwn
  go_enter Try.func105, Try.ntmps105
  go_wp2_with fail
  refine (hN.out _).mono ?_
  rintro _ w1 ⟨rfl, hw1⟩
  subst hw1
  go_wp2_with (first
    | (at_mapUpdate; refine put_num _ rfl _ _ _ rfl bn nn _ rfl NUM.out (by unfold maxLen; omega) i (by omega) rfl out.length (by omega) rfl ?_; intro w2 num2 g2
       have V2 := VB.grownRow V0.out g2 (by simp; omega)
       have c4 := V2.cell 4
       have lt2 := V2.lt
       have z2 := g2.size
       simp at c4
       have ci2 := grCell g2 hci (by simp; omega)
       have OW2 := ORD.out.grown g2 (.inr (fun e => by have := (hol1.out bn e).1; omega))
       have OT2 := OUT.out.grown g2 (.inr (fun e => by have := (hot1.out bn e).1; omega))
       have N2 := Lib.hid num2
       have G2 := Lib.hid g2
       replace V2 := Lib.hid V2
       replace OW2 := Lib.hid OW2
       replace OT2 := Lib.hid OT2
       clear num2 g2)
    | (at_builtin; refine app_at Try.underlying144 hiI hzI hsI hbI rfl (.tmp 49) (.tmp 51) rfl rfl rfl (Sees.one .i64 w2 _ (i : Int) _ rfl) (OW2.out.alloc _) (by simp; omega) (by rw [nums_length]; simp; omega) (by rw [nums_length]; unfold maxLen; simp; omega) ?_; intro v3 w3 own3 g3 loc3
       obtain ⟨A3, k3, rfl, _, _⟩ := own3.sees.len
       obtain ⟨n3, hn3⟩ : ∃ n, n = (nums o ++ [(i : Int)]).length := ⟨_, rfl⟩
       rw [← hn3] at own3 loc3 ⊢
       replace hn3 := Lib.hid hn3
       have V3 := VB.grownRow (V2.out.alloc _) g3 (fun e => by have := (hol1.out bm e.symm).1; omega)
       have c40 := V3.cell 4
       have f40 := V3.free 4
       have c00 := V3.cell 0
       have c50 := V3.cell 5
       have c20 := V3.cell 2
       have lt3 := V3.lt
       have z3 := g3.size
       simp at c40 c00 c50 c20 z3
       have ci3 := grCell g3 (cellA ci2 _) (fun e => by have := (hol1.out bl e.symm).1; omega)
       have OT3 := (OT2.out.alloc _).grown g3 (ap_ne hap.out)
       have N3 := Lib.hid ((N2.out.alloc _).block (g3.block bn (by simp; have := N2.out.lt; omega) (fun e => by have := (hol1.out bn e.symm).1; omega)))
       have O3 := Lib.hid own3
       have G3 := Lib.hid g3
       replace V3 := Lib.hid V3
       replace OT3 := Lib.hid OT3
       replace loc3 := Lib.hid loc3
       clear own3 g3)
    | fail)
  refine (HW.out _).mono ?_
  rintro _ w4 ⟨rfl, hw4⟩
  subst hw4
  go_wp2_with fail
  obtain ⟨W, hW⟩ : ∃ W, W = w3.setCell ⟨bm, 4, none⟩ (.slice A3 n3 k3) := ⟨_, rfl⟩
  rw [← hW]
  have V4 : VB W bm 146 #[.slice (some ⟨bl, offl, none⟩) ls.length cl, .int .u32 a, .int .u32 to, .map (some bn), .slice A3 n3 k3, .slice At out.length ct] := by
    rw [hW]; simpa using V3.out.set 4 (.slice A3 n3 k3)
  have OT4 : Owns 22 .u32 lo W (.slice At out.length ct) out := by rw [hW]; exact OT3.out.far hlbm _
  have O4 : Owns 3 .i64 lo W (.slice A3 n3 k3) (nums o ++ [(i : Int)]) := by rw [hW]; exact O3.out.far hlbm _
  have N4 : IsNum W bn (nn + 1) (fun j => if j = i then some out.length else Hp.pos ls o 0 j) := by rw [hW]; exact N3.out.far bm 4 (fun e => hne e.symm) _
  have G4 : GrowS (MvS bm bn (.slice Ao (nums o).length co) (.slice At out.length ct)) w1 W := by
    rw [hW]
    refine GrowS.set (b := bm) (i := 4) ?_ (.inl rfl) _
    refine GrowS.grown (GrowS.alloc (GrowS.grown (GrowS.refl _ w1) G2.out (fun g hg _ => by cases hg; exact .inr (.inl rfl))) _) G3.out (fun g hg _ => .inr (.inr (.inl hg)))
  have HL4 : SeesB .u32 B W (.slice (some ⟨bl, offl, none⟩) ls.length cl) ls := HL0.out.grow G4 (fun b hb h => by
    rcases h with h | h | h | h
    · omega
    · omega
    · have := (hol1.out b h).1; omega
    · have := (hot1.out b h).1; omega)
  have hz4 : w1.heap.size ≤ W.heap.size := G4.size
  have hloc4 : (Value.slice A3 n3 k3).ownBlock = (Value.slice Ao (nums o).length co).ownBlock ∨ ∃ g, (Value.slice A3 n3 k3).ownBlock = some g ∧ w1.heap.size ≤ g := by
    rcases loc3.out with e | e
    · exact .inl e
    · exact .inr ⟨_, e, by simp; omega⟩
  have hap4 : ∀ g, (Value.slice A3 n3 k3).ownBlock = some g → (Value.slice At out.length ct).ownBlock ≠ some g := by
    intro g h1 h2
    rcases hloc4 with e | ⟨g', e, hg'⟩
    · exact hap.out g (e ▸ h1) h2
    · have := (hot1.out g h2).2
      rw [e] at h1
      cases h1
      omega
  clear hW V3 OT3 O3 N3 c40 f40 c00 c50 c20 lt3 z3 ci3 V2 OW2 OT2 N2 c4 lt2 z2 ci2 V0 NUM ORD OUT G3 G2
  have d0 := V4.cell 0
  have d2 := V4.cell 2
  have d5 := V4.cell 5
  have dl := V4.lt
  simp at d0 d2 d5
  have d50 : W.frozen? ⟨bm, 5, none⟩ = false := V4.free 5
  have HST : ∀ w5, W.grownBy w5 (Value.slice At out.length ct).ownBlock → w5.cell? ⟨bm, 5, none⟩ = some (.slice At out.length ct) ∧ w5.frozen? ⟨bm, 5, none⟩ = false ∧ bm < w5.heap.size ∧ w5.cell? ⟨bm, 2, none⟩ = some (.int .u32 to) := fun w5 g5 => by
    have hnb : some bm ≠ (Value.slice At out.length ct).ownBlock := fun e => by have := (hot1.out bm e.symm).1; omega
    have V5 := V4.grownRow g5 hnb
    exact ⟨V5.cell 5, V5.free 5, V5.lt, V5.cell 2⟩
  have HTH : Sees .u32 W.drew (.slice (some ⟨bl, offl + i, none⟩) (i + wn - i) (cl - i)) (Hp.thing ls i) := by
    show Sees .u32 W _ _
    obtain ⟨A', c', he, _, _, h3⟩ := HL4
    obtain ⟨b', off', he2, _, hc'⟩ := h3 (by intro e; subst e; simp at hlt)
    subst he2
    simp only [Value.slice.injEq, Option.some.injEq, Addr.mk.injEq] at he
    obtain ⟨⟨rfl, rfl, -⟩, -, rfl⟩ := he
    unfold Hp.thing
    rw [hw1.out, show i + wn - i = wn by omega]
    exact Sees.cut hc' i wn (cl - i) _ (fun _ => rfl) (by omega) (by omega) (by unfold maxLen; omega)
  have OT4d : Owns 22 .u32 lo W.drew (.slice At out.length ct) out := OT4
  replace OT4d := Lib.hid OT4d
  replace hap4 := Lib.hid hap4
  replace hloc4 := Lib.hid hloc4
  have hloW : lo ≤ W.drew.heap.size := by show lo ≤ W.heap.size; omega
  replace HST := Lib.hid HST
  replace HTH := Lib.hid HTH
  replace V4 := Lib.hid V4
  replace OT4 := Lib.hid OT4
  replace O4 := Lib.hid O4
  replace N4 := Lib.hid N4
  replace G4 := Lib.hid G4
  replace HL4 := Lib.hid HL4
  have s1 : IntKind.i64.wrap ((i : Int) + (wn : Int)) = (i : Int) + (wn : Int) := by rw [IntKind.wrap_i64]; omega
  have s2 : 0 ≤ (i : Int) + (wn : Int) := by omega
  have s3 : (i : Int) + (wn : Int) ≤ (cl : Int) := by omega
  have s4 : ((i : Int) + (wn : Int)).toNat = i + wn := by omega
  have s5 : ¬ cl = i := by omega
  go_region_law (refine step_app_at (u := .slice (some ⟨bl, offl + i, none⟩) (i + wn - i) (cl - i)) (v := .slice At out.length ct) Try.underlying24 hiU hzU hsU hbU rfl (.tmp 70) (.tmp 79) rfl (by simp [go_sem]) (by simp [go_sem]) HTH.out OT4d.out hloW (by rw [hw2.out, hw1.out]; omega) (by rw [hw2.out, hw1.out]; unfold maxLen; omega) ?_; intro v5 w5 own5 g5d loc5; have g5 : W.grownBy w5 (Value.slice At out.length ct).ownBlock := ⟨g5d.os, g5d.tape, g5d.output, g5d.size, g5d.block⟩; obtain ⟨A5, k5, rfl, _, _⟩ := own5.sees.len; obtain ⟨e5, f5, l5, t5⟩ := HST.out w5 g5; clear g5d)
  all_goals
    replace own5 := Lib.hid own5
    replace g5 := Lib.hid g5
    replace loc5 := Lib.hid loc5
    go_wp2_with fail
    go_returns
    refine ⟨rfl, _, _, ⟨?_, ⟨nn + 1, by simp; omega, ?_⟩, ?_, own5.out.far hlbm _, ?_, hne, hlbm, hlbn⟩, ?_, hloc4.out, ?_⟩
    · have hnb : some bm ≠ (Value.slice At out.length ct).ownBlock := fun e => by have := (hot1.out bm e.symm).1; omega
      simpa using (V4.out.grownRow g5.out hnb).set 5 (.slice A5 (out ++ Hp.thing ls i).length k5)
    · rw [show Hp.pos ls (o ++ [i]) 0 = fun j => if j = i then some out.length else Hp.pos ls o 0 j from funext fun j => by rw [hpsn.out j, hsum.out]; simp]
      exact (N4.out.block (g5.out.block bn (by have := N4.out.lt; exact this) (fun e => by have := (hot1.out bn e.symm).1; omega))).far bm 5 (fun e => hne e.symm) _
    · rw [show nums (o ++ [i]) = nums o ++ [(i : Int)] by simp [nums]]
      refine (O4.out.grown g5.out ?_).far hlbm _
      cases hq : (Value.slice A3 n3 k3).ownBlock with
      | none => exact .inl rfl
      | some g => exact .inr (fun e => hap4.out g hq e.symm)
    · intro g h1 h2
      rcases loc5.out with e | e
      · exact hap4.out g h1 (e ▸ h2)
      · rw [e] at h2
        cases h2
        have := (O4.out.lt _ h1).2
        exact absurd this (Nat.lt_irrefl _)
    · exact (G4.out.grown g5.out (fun g hg _ => .inr (.inr (.inr hg)))).set (b := bm) (i := 5) (.inl rfl) _
    · rcases loc5.out with e | e
      · exact .inl e
      · exact .inr ⟨_, e, hz4⟩
end

end Go.Proofs.Ytgohnekaolgblaa
