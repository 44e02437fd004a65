/- reader.text: contract. -/
import Derived.Test.YtgohnekaolgblaaRdPlain
import Derived.Test.YtgohnekaolgblaaWdLayAt
namespace Go.Proofs.Ytgohnekaolgblaa
open Go.RowKit

/-- The slice value v, in a block below B, reads as the numbers xs. -/
def SeesB (k : IntKind) (B : Nat) (w : World) (v : Value) (xs : List Int) : Prop :=
  ∃ A cap, v = .slice A xs.length cap ∧ xs.length ≤ cap ∧ cap ≤ maxLen ∧ (xs ≠ [] → ∃ b off, A = some ⟨b, off, none⟩ ∧ b < B ∧ ∀ j (hj : j < xs.length), w.cell? ⟨b, off + j, none⟩ = some (.int k xs[j]))

theorem Sees.seesB {k : IntKind} {w : World} {v : Value} {xs : List Int} (h : Sees k w v xs) : SeesB k w.heap.size w v xs := by
  obtain ⟨A, cap, rfl, h1, h2, h3⟩ := h
  refine ⟨A, cap, rfl, h1, h2, fun hne => ?_⟩
  obtain ⟨b, off, rfl, hc⟩ := h3 hne
  refine ⟨b, off, rfl, ?_, hc⟩
  have := hc 0 (List.length_pos_iff.2 hne)
  simpa using World.block_lt_of_cell? w _ this
theorem SeesB.sees {k : IntKind} {B : Nat} {w : World} {v : Value} {xs : List Int} (h : SeesB k B w v xs) : Sees k w v xs := by
  obtain ⟨A, cap, rfl, h1, h2, h3⟩ := h
  refine ⟨A, cap, rfl, h1, h2, fun hne => ?_⟩
  obtain ⟨b, off, rfl, _, hc⟩ := h3 hne
  exact ⟨b, off, rfl, hc⟩
theorem SeesB.keep {k : IntKind} {B B' : Nat} {w w' : World} {v : Value} {xs : List Int} (h : SeesB k B w v xs) (hB : B ≤ B') (hc : ∀ b, b < B → b < w.heap.size → w'.heap[b]? = w.heap[b]?) : SeesB k B' w' v xs := by
  obtain ⟨A, cap, rfl, h1, h2, h3⟩ := h
  refine ⟨A, cap, rfl, h1, h2, fun hne => ?_⟩
  obtain ⟨b, off, rfl, hb, hcell⟩ := h3 hne
  refine ⟨b, off, rfl, by omega, fun j hj => ?_⟩
  have h1 := hcell j hj
  have hlt := World.block_lt_of_cell? w _ h1
  rw [World.cell?_of_block (w := w) (hc b hb (by simpa using hlt))]
  exact h1
theorem SeesB.grow {S : Nat → Prop} {k : IntKind} {B : Nat} {w w' : World} {v : Value} {xs : List Int} (h : SeesB k B w v xs) (hg : GrowS S w w') (hS : ∀ b, b < B → ¬ S b) : SeesB k B w' v xs :=
  h.keep (Nat.le_refl _) (fun b hb hl => hg.block b hl (hS b hb))
theorem SeesB.len {k : IntKind} {B : Nat} {w : World} {v : Value} {xs : List Int} (h : SeesB k B w v xs) : ∃ A cap, v = .slice A xs.length cap ∧ xs.length ≤ cap ∧ cap ≤ maxLen := h.sees.len

theorem GrowS.belowC {S : Nat → Prop} {a w w' : World} (h : GrowS S a w) {C : Nat} (hb : Below C w w') (hC : a.heap.size ≤ C) : GrowS S a w' :=
  ⟨hb.os.trans h.os, hb.tape.trans h.tape, hb.output.trans h.output, Nat.le_trans h.size hb.size, fun k hk hn => (hb.block k (by omega)).trans (h.block k hk hn)⟩

/-- What a reader of words is. -/
def Rd5 (vl : Value) (a : Int) (next many : Nat) (bad : Bool) : Array Value := #[vl, .int .u32 a, .int .i64 (next : Int), .int .i64 (many : Int), .bool bad]

/-- Whether a byte behind a text is no nought, among the first i. -/
def Wd.late (own : List Int) (size i : Nat) : Bool := !((((Wd.bys own).take i).drop size).all (fun x => x == 0))

theorem Wd.late_in (own : List Int) (size i : Nat) (h : i ≤ size) : Wd.late own size i = false := by
  unfold Wd.late
  rw [List.drop_eq_nil_of_le (by simp; omega)]
  rfl
theorem Wd.late_step (own : List Int) (size i : Nat) (h : size ≤ i) (hi : i < 4 * own.length) (b : Int) (hb : (Wd.bys own)[i]? = some b) : Wd.late own size (i + 1) = (Wd.late own size i || !(b == 0)) := by
  unfold Wd.late
  rw [List.take_add_one, hb, Option.toList_some, List.drop_append_of_le_length (by rw [List.length_take, Wd.bys_length]; omega), List.all_append]
  simp [Bool.not_and]

set_option maxHeartbeats 1000000 in
set_option maxRecDepth 100000 in
theorem wdText (own : List Int) (size next many : Nat) (bad : Bool) (vl vi : Value) (a : Int) (br B : Nat) (w : World)
    (hr : VB w br 114 (Rd5 vl a next many bad)) (hvl : ∃ A n c, vl = .slice A n c) (hi : SeesB .u32 B w vi own) (hB : B ≤ br) (hu : ∀ x ∈ own, 0 ≤ x ∧ x < 4294967296) (hs : size ≤ 4 * own.length) (hol : own.length ≤ 1048576) :
    Calls Try.prog 107 #[.pointer (some ⟨br, 0, none⟩), vi, .int .i64 (size : Int)] w fun e w' =>
      e = .returned (.agg #[.int .i64 2, .int .i64 0, .string (str ((Wd.bys own).take size)), .slice none 0 0]) ∧ VB w' br 114 (Rd5 vl a next many (bad || Wd.late own size (4 * own.length))) ∧ GrowS (fun k => k = br) w w' := by
  obtain ⟨i0, hi1, hz0, hz1, hz2⟩ := info_parts (show (Try.prog.info? 5).map (fun i => (i.zero, i.size, i.bytes)) = some (some (.int .u8 0), 1, 1) by kernel_rfl)
  obtain ⟨vA, vn, vc, rfl⟩ := hvl
  obtain ⟨A, cap, rfl, hcap1, hcap2⟩ := hi.len
  unfold maxLen at hcap2
  have HI := Lib.hid hi
  have HR := Lib.hid hr
  have HU := Lib.hid hu
  have hlt := hr.lt
  clear hi hr hu
  go_enter Try.func107, Try.ntmps107
  go_wp2_with fail
  have R0 := HR.out.alloc (.cells #[.int .i64 0, .int .i64 0, .string ⟨#[]⟩, .slice none 0 0] 58)
  have X0 := VB.new w 58 #[.int .i64 0, .int .i64 0, .string ⟨#[]⟩, .slice none 0 0]
  have G0 := (GrowS.refl (fun k => k = br) w).alloc (.cells #[.int .i64 0, .int .i64 0, .string ⟨#[]⟩, .slice none 0 0] 58)
  replace R0 := Lib.hid R0
  replace X0 := Lib.hid X0
  replace G0 := Lib.hid G0
  go_loopw [7, 13] (fun o q wr => ∃ i : Nat, q = .int .i64 (i : Int) ∧ i ≤ 4 * own.length ∧ Owns 5 .u8 (w.heap.size + 1) wr o ((Wd.bys own).take (min i size)) ∧ VB wr br 114 (Rd5 (.slice vA vn vc) a next many (bad || Wd.late own size i)) ∧ VB wr w.heap.size 58 #[.int .i64 0, .int .i64 0, .string ⟨#[]⟩, .slice none 0 0] ∧ GrowS (fun k => k = br) w wr ∧ w.heap.size + 1 ≤ wr.heap.size)
    (fun _ q _ => 4 * own.length - (intOf q).toNat)
  case atStart =>
    refine ⟨0, rfl, by omega, ?_, ?_, X0.out, G0.out, by simp⟩
    · simpa using Owns.nil _ _ _ _
    · rw [Wd.late_in own size 0 (by omega), Bool.or_false]
      exact R0.out
  case round =>
    obtain ⟨i, rfl, hil, ho, hr, hx, hg, hz⟩ := hrel
    by_cases hi : i < 4 * own.length
    · have hne : own ≠ [] := by intro e; subst e; simp at hi
      have hI := HI.out.grow hg (fun b hb e => by omega)
      obtain ⟨A', cap', he, _, _, hc⟩ := hI
      obtain ⟨b, off, rfl, hbB, hcell⟩ := hc hne
      simp only [Value.slice.injEq] at he
      obtain ⟨rfl, -, -⟩ := he
      have hc4 := hcell (i / 4) (by omega)
      obtain ⟨x, hx4⟩ : ∃ x, x = own[i / 4]'(by omega) := ⟨_, rfl⟩
      have hxr := HU.out _ (List.getElem_mem (by omega : i / 4 < own.length))
      rw [← hx4] at hc4 hxr
      have hby := Wd.bys_get own i hi
      rw [← hx4] at hby
      have hand : bits .and .i64 (i : Int) 3 = (i : Int) % 4 := bits_mask .i64 i 2 (by decide)
      have HO := Lib.hid ho
      have HRr := Lib.hid hr
      have HX := Lib.hid hx
      have HG := Lib.hid hg
      replace hby := Lib.hid hby
      replace hx4 := Lib.hid hx4
      clear hcell hc ho hr hx hg hne
      have hp2 : (2 : Int) ^ (8 * (i % 4)) = 256 ^ (i % 4) := by rw [Int.pow_mul]; rfl
      have hby' : (Wd.bys own)[i]? = some (x / 2 ^ (8 * (i % 4)) % 256) := by rw [hp2]; exact hby.out
      clear hby hp2
      replace hby' := Lib.hid hby'
      have hlen := HO.out.sees.len
      have r4 := HRr.out.cell 4
      have f4 := HRr.out.free 4
      have lr := HRr.out.lt
      simp [Rd5] at r4
      by_cases his : i < size
      · have hl1 : Wd.late own size i = false := Wd.late_in own size i (by omega)
        have hl2 : Wd.late own size (i + 1) = false := Wd.late_in own size (i + 1) (by omega)
        replace hl1 := Lib.hid hl1
        replace hl2 := Lib.hid hl2
        clear hlen
        have hm1 : min i size = i := by omega
        have hm2 : min (i + 1) size = i + 1 := by omega
        replace hm1 := Lib.hid hm1
        replace hm2 := Lib.hid hm2
        go_wp2_with (at_builtin; refine app_own Try.underlying25 hi1 hz0 hz1 hz2 rfl (.tmp 29) (.tmp 31) rfl rfl rfl HO.out (Below.refl (w.heap.size + 1) _) (by omega) (by rw [List.length_take]; omega) (by rw [List.length_take]; unfold maxLen; omega) ?_; intro o2 w2 ow2 bw2 zw2; obtain ⟨A2, cap2, rfl, _, _⟩ := ow2.sees.len; rw [show (List.take (min i size) (Wd.bys own) ++ [x / 2 ^ (8 * (i % 4)) % 256]).length = i + 1 by (simp [Wd.bys_length]; omega)] at ow2 ⊢)
        go_roundw
        case measure => simp only [intOf]; omega
        case rel =>
          refine ⟨i + 1, rfl, by omega, ?_, ?_, HX.out.below bw2 (by omega), HG.out.belowC bw2 (by omega), zw2⟩
          · rw [hm1.out] at ow2
            rw [hm2.out, List.take_add_one, hby'.out]
            exact ow2
          · have := HRr.out.below bw2 (by omega)
            rw [hl1.out] at this
            rw [hl2.out]
            exact this
      · have hl2 := Wd.late_step own size i (by omega) hi _ hby'.out
        have hm : min (i + 1) size = min i size := by omega
        replace hl2 := Lib.hid hl2
        replace hm := Lib.hid hm
        obtain ⟨c, hc⟩ : ∃ c, c = x / 2 ^ (8 * (i % 4)) % 256 := ⟨_, rfl⟩
        by_cases hc0 : c = 0
        · have hcx : x / 2 ^ (8 * (i % 4)) % 256 = 0 := by rw [← hc, hc0]
          have h3 : Wd.late own size (i + 1) = Wd.late own size i := by rw [hl2.out, hcx]; simp
          replace h3 := Lib.hid h3
          clear hlen hc
          go_wp2_with fail
          go_roundw
          case measure => simp only [intOf]; omega
          case rel =>
            refine ⟨i + 1, rfl, by omega, ?_, ?_, HX.out, HG.out, hz⟩
            · rw [hm.out]; exact HO.out
            · rw [h3.out]; exact HRr.out
        · have hcx : ¬ x / 2 ^ (8 * (i % 4)) % 256 = 0 := by rw [← hc]; exact hc0
          have hcb : (x / 2 ^ (8 * (i % 4)) % 256 == 0) = false := by simpa using hcx
          have h3 : Wd.late own size (i + 1) = true := by rw [hl2.out, hcb]; simp
          replace h3 := Lib.hid h3
          clear hlen hc
          go_wp2_with fail
          go_roundw
          case measure => simp only [intOf]; omega
          case rel =>
            refine ⟨i + 1, rfl, by omega, ?_, ?_, HX.out.far _ _ (by omega) _, HG.out.set rfl _, by simpa [World.setCell] using hz⟩
            · rw [hm.out]; exact HO.out.far (by omega) _
            · rw [h3.out, Bool.or_true]
              have := HRr.out.set 4 (.bool true)
              simpa [Rd5] using this
    · have hie : i = 4 * own.length := by omega
      subst hie
      rw [Nat.min_eq_right hs] at ho
      have ho' := ho.sees
      obtain ⟨A2, cap2, rfl, _, _⟩ := ho'.len
      rw [show (List.take size (Wd.bys own)).length = size by (simp [Wd.bys_length]; omega)] at ho' ⊢
      have x0 := hx.cell 0
      have x1 := hx.cell 1
      have x2 := hx.cell 2
      have x3 := hx.cell 3
      have fx0 := hx.free 0
      have fx1 := hx.free 1
      have fx2 := hx.free 2
      have fx3 := hx.free 3
      have lx := hx.lt
      simp at x0 x1 x2 x3
      have es := run_str (P := Try.prog) (T := 25) (E := 5) (S := 9) Try.underlying25 Try.underlying5 Try.underlying9 ho'
      have HRr := Lib.hid hr
      have HG := Lib.hid hg
      clear ho ho' hr hg hx
      go_wp2_with fail
      refine bodyPost_ret (v := .agg #[.int .i64 2, .int .i64 0, .string (str ((Wd.bys own).take size)), .slice none 0 0]) (by simp [results, Try.results107, go_sem, x0, x1, x2, x3]) rfl ⟨rfl, ?_, ?_⟩
      · exact (((HRr.out.far _ _ (by omega) _).far _ _ (by omega) _).far _ _ (by omega) _).far _ _ (by omega) _
      · exact (((HG.out.setNew (Nat.le_refl _) _).setNew (Nat.le_refl _) _).setNew (Nat.le_refl _) _).setNew (Nat.le_refl _) _

end Go.Proofs.Ytgohnekaolgblaa
