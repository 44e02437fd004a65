/- Layer 4: the reader's steps: byte, number, words: contracts. -/
import Derived.Test.YtdlfmchpaohoaaaLebShortPlain
import Derived.Test.YtdlfmchpaohoaaaLebLaws
import Derived.Test.YtdlfmchpaohoaaaApp
import Derived.BigQuiet
import Derived.BigRegion
import Derived.Deep.QuietTactic
import Derived.Deep.RegionHeld3
namespace Go.Proofs.Ytdlfmchpaohoaaa
open Go.RowKit

/-- The reader in block g: what it reads, and where it stands. -/
def RB (w : World) (g : Nat) (v : Value) (a : Nat) : Prop := w.heap[g]? = some (.cells #[v, .int .i64 a] 82 (0, 0))

theorem RB.cell0 {w : World} {g : Nat} {v : Value} {a : Nat} (h : RB w g v a) : w.cell? ⟨g, 0, none⟩ = some v := cell_of_row w g 0 _ _ _ h
theorem RB.cell1 {w : World} {g : Nat} {v : Value} {a : Nat} (h : RB w g v a) : w.cell? ⟨g, 1, none⟩ = some (.int .i64 a) := cell_of_row w g 1 _ _ _ h
theorem RB.free {w : World} {g : Nat} {v : Value} {a : Nat} (h : RB w g v a) (i : Nat) : w.frozen? ⟨g, i, none⟩ = false := by
  unfold RB at h; simp [World.frozen?, h]
theorem RB.lt {w : World} {g : Nat} {v : Value} {a : Nat} (h : RB w g v a) : g < w.heap.size := World.block_lt_of_cell? w _ h.cell0
theorem RB.set1 {w : World} {g : Nat} {v : Value} {a : Nat} (h : RB w g v a) (c : Nat) (x : Int) (hx : x = c) : RB (w.setCell ⟨g, 1, none⟩ (.int .i64 x)) g v c := by
  subst hx
  unfold RB at h ⊢
  simp [World.setCell, Array.getElem?_modify, h]

theorem RB.below {w w' : World} {g : Nat} {v : Value} {a B : Nat} (h : RB w g v a) (hb : Below B w w') (hg : g < B) : RB w' g v a := (hb.block g hg).trans h
theorem RB.alloc {w : World} {g : Nat} {v : Value} {a : Nat} (h : RB w g v a) (o : Obj) : RB (w.alloc o) g v a := (Below.heap_alloc w o g h.lt).trans h
theorem RB.far {w : World} {g : Nat} {v : Value} {a : Nat} (h : RB w g v a) (b i : Nat) (hne : g ≠ b) (u : Value) : RB (w.setCell ⟨b, i, none⟩ u) g v a := (Below.heap_setCell w ⟨b, i, none⟩ u g hne).trans h

/-- The fault with which reading stops. -/
def stopv (e p : Int) : Value := .iface 79 (.agg #[.int .i64 e, .int .i64 p])

theorem grown_drewN (w : World) (n : Nat) (row : Option Nat) : w.grownBy (w.drewN n) row := ⟨rfl, rfl, rfl, Nat.le_refl _, fun _ _ _ => rfl⟩

theorem G.trans {a b c : World} {row : Option Nat} (h : a.grownBy b row) (k : b.grownBy c row) : a.grownBy c row :=
  ⟨k.os.trans h.os, k.tape.trans h.tape, k.output.trans h.output, Nat.le_trans h.size k.size, fun i hi hne => (k.block i (Nat.lt_of_lt_of_le hi h.size) hne).trans (h.block i hi hne)⟩
theorem G.setCell (w : World) (g i : Nat) (u : Value) : w.grownBy (w.setCell ⟨g, i, none⟩ u) (some g) :=
  ⟨rfl, rfl, rfl, by simp [World.setCell], fun k _ hne => Below.heap_setCell w ⟨g, i, none⟩ u k (fun e => hne (by rw [e]))⟩
theorem G.below {w w' : World} (h : Below w.heap.size w w') (row : Option Nat) : w.grownBy w' row := ⟨h.os, h.tape, h.output, h.size, fun k hk _ => h.block k hk⟩

theorem below_drew {B : Nat} {w w' : World} (h : Below B w.drew w') : Below B w w' := ⟨h.os, h.tape, h.output, h.size, h.block⟩

theorem frozenK {W w2 : World} (hb : Below W.heap.size W w2) {b o : Nat} (hlt : b < W.heap.size) (h : W.frozen? ⟨b, o, none⟩ = false) : w2.frozen? ⟨b, o, none⟩ = false :=
  (hb.frozen (p := ⟨b, o, none⟩) hlt).trans h

theorem byte_end (g : Nat) (v vl : Value) (bs : List Int) (a : Nat) (w : World) (hr : RB w g v a) (hv : Sees .u8 w v bs) (ha : bs.length ≤ a) :
    Calls Try.prog 45 #[.pointer (some ⟨g, 0, none⟩), vl] w fun e w' => e = .panicked [{ v := stopv 4 bs.length, recovered := false }] ∧ w.grownBy w' (some g) := by
  obtain ⟨A, cap, rfl, _, _⟩ := hv.len
  have h0 := hr.cell0
  have h1 := hr.cell1
  clear hv
  have hai : (bs.length : Int) ≤ a := by omega
  go_enter Try.func45, Try.ntmps45
  go_wp2_with fail
  go_quiet (fail)
  go_wp2_with fail
  exact ⟨rfl, rfl, grown_drewN _ _ _⟩

/-- What byte tells: the byte, and the reader has gone on; or it panics. -/
def ByteOut (w : World) (g : Nat) (v : Value) (a : Nat) (c : Int) (ls : List Int) (e : Ending) (w' : World) : Prop :=
  (c ∈ ls ∧ e = .returned (.int .u8 c) ∧ w.grownBy w' (some g) ∧ RB w' g v (a + 1)) ∨ (¬ c ∈ ls ∧ e = .panicked [{ v := stopv 140 a, recovered := false }] ∧ w.grownBy w' (some g))

set_option maxHeartbeats 1000000 in
theorem byte_any (g : Nat) (v vl : Value) (bs ls : List Int) (a : Nat) (w : World) (hr : RB w g v a) (hv : Sees .u8 w v bs) (hl : Sees .u8 w vl ls) (ha : a < bs.length) (hm : bs.length ≤ 140737488351232) :
    Calls Try.prog 45 #[.pointer (some ⟨g, 0, none⟩), vl] w fun e w' => ByteOut w g v a bs[a] ls e w' := by
  obtain ⟨A, cap, rfl, _, _⟩ := hv.len
  obtain ⟨A', cap', rfl, hl1, hl2⟩ := hl.len
  unfold maxLen at hl2
  have h0 := hr.cell0
  have h1 := hr.cell1
  have h2 := hr.free 1
  have HR := Lib.hid hr; clear hr
  obtain ⟨b, off, rfl, hcell⟩ := hv.at_ (by omega)
  have hx := hcell a ha
  clear hcell hv
  obtain ⟨c, hc⟩ : ∃ c, c = bs[a] := ⟨_, rfl⟩
  rw [← hc] at hx ⊢
  clear hc
  have HL := Lib.hid hl; clear hl
  have hai : ¬ (bs.length : Int) ≤ a := by omega
  have hai2 : (a : Int) < bs.length := by omega
  go_enter Try.func45, Try.ntmps45
  go_wp2_with fail
  go_quiet (fail)
  go_wp2_with fail
  go_quiet (fail)
  go_wp2_with fail
  go_loop [38] (fun i => ∃ k : Nat, i = .int .i64 k ∧ k ≤ ls.length ∧ ∀ j (hj : j < ls.length), j < k → ls[j] ≠ c) (fun i => ls.length - (intOf i).toNat)
  case atStart => exact ⟨0, rfl, Nat.zero_le _, fun j _ hj => by omega⟩
  case round =>
    obtain ⟨k, rfl, hk, hno⟩ := hrel
    have HN := Lib.hid hno; clear hno
    by_cases hlt : k < ls.length
    · obtain ⟨b', off', rfl, hcl⟩ := HL.out.at_ (by omega)
      have hy := hcl k hlt
      clear hcl
      obtain ⟨d, hd⟩ : ∃ d, d = ls[k] := ⟨_, rfl⟩
      rw [← hd] at hy
      have HD := Lib.hid hd; clear hd
      by_cases hcd : c = d
      · subst hcd
        go_wp2_with fail
        go_ret
        refine .inl ⟨List.mem_iff_getElem.2 ⟨k, hlt, HD.out.symm⟩, rfl, ?_, ?_⟩
        · exact G.trans (grown_drewN _ _ _) (G.setCell _ _ _ _)
        · exact RB.set1 (w := w.drewN _) HR.out (a + 1) _ (by omega)
      · have hcd' : (c == d) = false := by simpa using hcd
        go_wp2_with fail
        refine ⟨⟨k + 1, by go_num, by omega, fun j hj hjk => ?_⟩, by simp only [intOf]; omega⟩
        by_cases hjk' : j = k
        · subst hjk'; rw [← HD.out]; exact fun e => hcd e.symm
        · exact HN.out j hj (by omega)
    · go_wp2_with fail
      refine ⟨rfl, .inr ⟨fun hmem => ?_, rfl, grown_drewN _ _ _⟩⟩
      obtain ⟨j, hj, he⟩ := List.mem_iff_getElem.1 hmem
      exact HN.out j hj (by omega) he

set_option maxHeartbeats 1000000 in
theorem number_err (g : Nat) (v : Value) (bs : List Int) (a : Nat) (least most : Int) (w : World) (hr : RB w g v a) (hv : Sees .u8 w v bs) (hb : Byt bs) (_ha : a ≤ bs.length) (hm : bs.length ≤ 140737488351232)
    (e p : Int) (hg : Leb.getU bs a = (0, 0, e, p)) (he : ¬ e = 0) :
    Calls Try.prog 50 #[.pointer (some ⟨g, 0, none⟩), .int .u32 least, .int .u32 most] w fun e' w' => e' = .panicked [{ v := stopv e p, recovered := false }] ∧ w.grownBy w' (some g) := by
  have h0 := hr.cell0
  have h1 := hr.cell1
  have h2 := hr.free 1
  have h3 := hr.lt
  have HR := Lib.hid hr; clear hr
  have HV := Lib.hid hv; clear hv
  have HB := Lib.hid hb; clear hb
  have HG := Lib.hid hg; clear hg
  go_enter Try.func50, Try.ntmps50
  go_wp2_with fail
  have ne0 : ¬ g = w.heap.size := by omega
  have ne1 := World.new_ne w _ h0
  have ne2 := World.new_ne w _ h1
  go_region_held3 (fun w' => w'.cell? ⟨g, 0, none⟩ = some v ∧ w'.cell? ⟨g, 1, none⟩ = some (.int .i64 a)) (first | go_keep)
    ((go_at_call 19; refine (getU _ _ _ _ (by first | exact HV.out.drew | exact (HV.out.alloc _).drew | exact HV.out) HB.out (by omega)).mono ?_; rintro e' w1 ⟨rfl, b1⟩; rw [HG.out]; simp only [tupU]; have c0 : w1.cell? ⟨g, 0, none⟩ = some v := cellK b1 (by first | exact h0 | exact cellA h0 _); have c1 : w1.cell? ⟨g, 1, none⟩ = some (.int .i64 a) := cellK b1 (by first | exact h1 | exact cellA h1 _); have c2 : w1.frozen? ⟨g, 1, none⟩ = false := (by first | exact frozenK b1 h3 h2 | exact frozenK (B.call (B.alloc (B.refl w) _) (below_drew b1)) h3 h2); have c3 : g < w1.heap.size := World.block_lt_of_cell? _ _ c0; first | (have kk := bcell2 (below_drew b1); obtain ⟨k1, k2, k3, k4, k5⟩ := kk) | skip))
  all_goals go_wp2_with fail
  · exact ⟨rfl, rfl, G.below (B.alloc (B.call (B.refl w) (below_drew b1)) _) _⟩
  · exact ⟨rfl, rfl, G.below (((B.call (B.alloc (B.refl w) _) (below_drew b1)).setCell (p := ⟨w.heap.size, 0, none⟩) (Nat.le_refl _) _).setCell (p := ⟨w.heap.size, 1, none⟩) (Nat.le_refl _) _) _⟩

set_option maxHeartbeats 1000000 in
theorem number_low (g : Nat) (v : Value) (bs : List Int) (a : Nat) (least most : Int) (w : World) (hr : RB w g v a) (hv : Sees .u8 w v bs) (hb : Byt bs) (_ha : a ≤ bs.length) (hm : bs.length ≤ 140737488351232)
    (x q : Int) (hg : Leb.getU bs a = (x, q, 0, 0)) (hx : x < least) :
    Calls Try.prog 50 #[.pointer (some ⟨g, 0, none⟩), .int .u32 least, .int .u32 most] w fun e' w' => e' = .panicked [{ v := stopv 141 a, recovered := false }] ∧ w.grownBy w' (some g) := by
  have h0 := hr.cell0
  have h1 := hr.cell1
  have h2 := hr.free 1
  have h3 := hr.lt
  have HR := Lib.hid hr; clear hr
  have HV := Lib.hid hv; clear hv
  have HB := Lib.hid hb; clear hb
  have HG := Lib.hid hg; clear hg
  go_enter Try.func50, Try.ntmps50
  go_wp2_with fail
  have ne0 : ¬ g = w.heap.size := by omega
  have ne1 := World.new_ne w _ h0
  have ne2 := World.new_ne w _ h1
  go_region_held3 (fun w' => w'.cell? ⟨g, 0, none⟩ = some v ∧ w'.cell? ⟨g, 1, none⟩ = some (.int .i64 a)) (first | go_keep)
    ((go_at_call 19; refine (getU _ _ _ _ (by first | exact HV.out.drew | exact (HV.out.alloc _).drew | exact HV.out) HB.out (by omega)).mono ?_; rintro e' w1 ⟨rfl, b1⟩; rw [HG.out]; simp only [tupU]; have c0 : w1.cell? ⟨g, 0, none⟩ = some v := cellK b1 (by first | exact h0 | exact cellA h0 _); have c1 : w1.cell? ⟨g, 1, none⟩ = some (.int .i64 a) := cellK b1 (by first | exact h1 | exact cellA h1 _); have c2 : w1.frozen? ⟨g, 1, none⟩ = false := (by first | exact frozenK b1 h3 h2 | exact frozenK (B.call (B.alloc (B.refl w) _) (below_drew b1)) h3 h2); have c3 : g < w1.heap.size := World.block_lt_of_cell? _ _ c0; first | (have kk := bcell2 (below_drew b1); obtain ⟨k1, k2, k3, k4, k5⟩ := kk) | skip))
  all_goals go_wp2_with fail
  · exact ⟨rfl, rfl, G.below (B.alloc (B.call (B.refl w) (below_drew b1)) _) _⟩
  · exact ⟨rfl, rfl, G.below (((B.call (B.alloc (B.refl w) _) (below_drew b1)).setCell (p := ⟨w.heap.size, 0, none⟩) (Nat.le_refl _) _).setCell (p := ⟨w.heap.size, 1, none⟩) (Nat.le_refl _) _) _⟩

set_option maxHeartbeats 1000000 in
theorem number_high (g : Nat) (v : Value) (bs : List Int) (a : Nat) (least most : Int) (w : World) (hr : RB w g v a) (hv : Sees .u8 w v bs) (hb : Byt bs) (_ha : a ≤ bs.length) (hm : bs.length ≤ 140737488351232)
    (x q : Int) (hg : Leb.getU bs a = (x, q, 0, 0)) (hx0 : ¬ x < least) (hx : most < x) :
    Calls Try.prog 50 #[.pointer (some ⟨g, 0, none⟩), .int .u32 least, .int .u32 most] w fun e' w' => e' = .panicked [{ v := stopv 141 a, recovered := false }] ∧ w.grownBy w' (some g) := by
  have h0 := hr.cell0
  have h1 := hr.cell1
  have h2 := hr.free 1
  have h3 := hr.lt
  have HR := Lib.hid hr; clear hr
  have HV := Lib.hid hv; clear hv
  have HB := Lib.hid hb; clear hb
  have HG := Lib.hid hg; clear hg
  go_enter Try.func50, Try.ntmps50
  go_wp2_with fail
  have ne0 : ¬ g = w.heap.size := by omega
  have ne1 := World.new_ne w _ h0
  have ne2 := World.new_ne w _ h1
  go_region_held3 (fun w' => w'.cell? ⟨g, 0, none⟩ = some v ∧ w'.cell? ⟨g, 1, none⟩ = some (.int .i64 a)) (first | go_keep)
    ((go_at_call 19; refine (getU _ _ _ _ (by first | exact HV.out.drew | exact (HV.out.alloc _).drew | exact HV.out) HB.out (by omega)).mono ?_; rintro e' w1 ⟨rfl, b1⟩; rw [HG.out]; simp only [tupU]; have c0 : w1.cell? ⟨g, 0, none⟩ = some v := cellK b1 (by first | exact h0 | exact cellA h0 _); have c1 : w1.cell? ⟨g, 1, none⟩ = some (.int .i64 a) := cellK b1 (by first | exact h1 | exact cellA h1 _); have c2 : w1.frozen? ⟨g, 1, none⟩ = false := (by first | exact frozenK b1 h3 h2 | exact frozenK (B.call (B.alloc (B.refl w) _) (below_drew b1)) h3 h2); have c3 : g < w1.heap.size := World.block_lt_of_cell? _ _ c0; first | (have kk := bcell2 (below_drew b1); obtain ⟨k1, k2, k3, k4, k5⟩ := kk) | skip))
  all_goals go_wp2_with fail
  · exact ⟨rfl, rfl, G.below (B.alloc (B.call (B.refl w) (below_drew b1)) _) _⟩
  · exact ⟨rfl, rfl, G.below (((B.call (B.alloc (B.refl w) _) (below_drew b1)).setCell (p := ⟨w.heap.size, 0, none⟩) (Nat.le_refl _) _).setCell (p := ⟨w.heap.size, 1, none⟩) (Nat.le_refl _) _) _⟩

set_option maxHeartbeats 1000000 in
theorem number_ok (g : Nat) (v : Value) (bs : List Int) (a : Nat) (least most : Int) (w : World) (hr : RB w g v a) (hv : Sees .u8 w v bs) (hb : Byt bs) (_ha : a ≤ bs.length) (hm : bs.length ≤ 140737488351232)
    (x q : Int) (hg : Leb.getU bs a = (x, q, 0, 0)) (hx0 : least ≤ x) (hx1 : x ≤ most) (hq : 0 ≤ q) :
    Calls Try.prog 50 #[.pointer (some ⟨g, 0, none⟩), .int .u32 least, .int .u32 most] w fun e' w' => e' = .returned (.int .u32 x) ∧ w.grownBy w' (some g) ∧ RB w' g v q.toNat := by
  have h0 := hr.cell0
  have h1 := hr.cell1
  have h2 := hr.free 1
  have h3 := hr.lt
  have HR := Lib.hid hr; clear hr
  have HV := Lib.hid hv; clear hv
  have HB := Lib.hid hb; clear hb
  have HG := Lib.hid hg; clear hg
  have hx2 : ¬ x < least := by omega
  have hx3 : ¬ most < x := by omega
  go_enter Try.func50, Try.ntmps50
  go_wp2_with fail
  have ne0 : ¬ g = w.heap.size := by omega
  have ne1 := World.new_ne w _ h0
  have ne2 := World.new_ne w _ h1
  go_region_held3 (fun w' => w'.cell? ⟨g, 0, none⟩ = some v ∧ w'.cell? ⟨g, 1, none⟩ = some (.int .i64 a)) (first | go_keep)
    ((go_at_call 19; refine (getU _ _ _ _ (by first | exact HV.out.drew | exact (HV.out.alloc _).drew | exact HV.out) HB.out (by omega)).mono ?_; rintro e' w1 ⟨rfl, b1⟩; rw [HG.out]; simp only [tupU]; have c0 : w1.cell? ⟨g, 0, none⟩ = some v := cellK b1 (by first | exact h0 | exact cellA h0 _); have c1 : w1.cell? ⟨g, 1, none⟩ = some (.int .i64 a) := cellK b1 (by first | exact h1 | exact cellA h1 _); have c2 : w1.frozen? ⟨g, 1, none⟩ = false := (by first | exact frozenK b1 h3 h2 | exact frozenK (B.call (B.alloc (B.refl w) _) (below_drew b1)) h3 h2); have c3 : g < w1.heap.size := World.block_lt_of_cell? _ _ c0; first | (have kk := bcell2 (below_drew b1); obtain ⟨k1, k2, k3, k4, k5⟩ := kk) | skip))
  all_goals go_wp2_with fail
  · go_ret
    have bw := B.call (B.refl w) (below_drew b1)
    exact ⟨rfl, G.trans (G.trans (G.below bw _) (G.setCell _ _ _ _)) (World.grownBy_alloc _ _ _), ((HR.out.below bw h3).set1 q.toNat q (by omega)).alloc _⟩
  · go_ret
    have bw := ((B.call (B.alloc (B.refl w) _) (below_drew b1)).setCell (p := ⟨w.heap.size, 0, none⟩) (Nat.le_refl _) (.int .i64 0)).setCell (p := ⟨w.heap.size, 1, none⟩) (Nat.le_refl _) (.int .i64 0)
    exact ⟨rfl, G.trans (G.below bw _) (G.setCell _ _ _ _), (HR.out.below bw h3).set1 q.toNat q (by omega)⟩

end Go.Proofs.Ytdlfmchpaohoaaa
