/- What the closure of word.Lay is laid with; the text's words. -/
import Derived.Test.YtgohnekaolgblaaWdLayPlain
import Derived.Test.YtgohnekaolgblaaAppMake
import Derived.BigRegion
namespace Go.Proofs.Ytgohnekaolgblaa
open Go.RowKit

structure LayAt (w : World) (bo ba bl C : Nat) (o : Value) (at' : Int) : Prop where
  ho : VB w bo 24 #[o]
  ha : VB w ba 22 #[.int .u32 at']
  hl : VB w bl 103 #[.func (.func 69) #[] #[.pointer (some ⟨bo, 0, none⟩), .pointer (some ⟨ba, 0, none⟩), .pointer (some ⟨bl, 0, none⟩)]]
  ne : bo ≠ ba ∧ bo ≠ bl ∧ ba ≠ bl
  lt : bo < C ∧ ba < C ∧ bl < C

theorem LayAt.alloc {w : World} {bo ba bl C : Nat} {o : Value} {a : Int} (h : LayAt w bo ba bl C o a) (ob : Obj) : LayAt (w.alloc ob) bo ba bl C o a :=
  ⟨h.ho.alloc _, h.ha.alloc _, h.hl.alloc _, h.ne, h.lt⟩
theorem LayAt.drew {w : World} {bo ba bl C : Nat} {o : Value} {a : Int} (h : LayAt w bo ba bl C o a) : LayAt w.drew bo ba bl C o a := ⟨h.ho, h.ha, h.hl, h.ne, h.lt⟩
theorem LayAt.setO {w : World} {bo ba bl C : Nat} {o : Value} {a : Int} (h : LayAt w bo ba bl C o a) (u : Value) : LayAt (w.setCell ⟨bo, 0, none⟩ u) bo ba bl C u a := by
  obtain ⟨h1, h2, h3, ⟨e1, e2, e3⟩, h5⟩ := h
  exact ⟨by simpa using h1.set 0 u, h2.far _ _ (by omega) _, h3.far _ _ (by omega) _, ⟨e1, e2, e3⟩, h5⟩
theorem LayAt.setBig {w : World} {bo ba bl C : Nat} {o : Value} {a : Int} (h : LayAt w bo ba bl C o a) {g i : Nat} (hg : C ≤ g) (u : Value) : LayAt (w.setCell ⟨g, i, none⟩ u) bo ba bl C o a := by
  obtain ⟨h1, h2, h3, h4, h5⟩ := h
  exact ⟨h1.far _ _ (by omega) _, h2.far _ _ (by omega) _, h3.far _ _ (by omega) _, h4, h5⟩
theorem LayAt.grown {w w' : World} {bo ba bl C : Nat} {o : Value} {a : Int} (h : LayAt w bo ba bl C o a) {r : Option Nat} (hg : w.grownBy w' r) (hr : ∀ g, r = some g → C ≤ g) : LayAt w' bo ba bl C o a := by
  obtain ⟨h1, h2, h3, h4, h5⟩ := h
  exact ⟨(hg.block bo h1.lt (fun e => by have := hr bo e.symm; omega)).trans h1, (hg.block ba h2.lt (fun e => by have := hr ba e.symm; omega)).trans h2, (hg.block bl h3.lt (fun e => by have := hr bl e.symm; omega)).trans h3, h4, h5⟩

theorem GrowS.grown {S : Nat → Prop} {a w w' : World} (h : GrowS S a w) {r : Option Nat} (hg : w.grownBy w' r) (hr : ∀ g, r = some g → g < a.heap.size → S g) : GrowS S a w' :=
  ⟨hg.os.trans h.os, hg.tape.trans h.tape, hg.output.trans h.output, Nat.le_trans h.size hg.size, fun k hk hn => (hg.block k (by have := h.size; omega) (fun e => hn (hr k e.symm hk))).trans (h.block k hk hn)⟩
theorem VB.grownAny {w w' : World} {t : Nat} {T : TypeId} {cs : Array Value} (h : VB w t T cs) {r : Option Nat} (hg : w.grownBy w' r) (hne : ∀ g, r = some g → t ≠ g) : VB w' t T cs :=
  (hg.block t h.lt (fun e => hne t e.symm rfl)).trans h

set_option maxHeartbeats 1000000 in
/-- What is owned stays owned where an older block's cell is set. -/
theorem Owns.far {E : TypeId} {k : IntKind} {C : Nat} {w : World} {v : Value} {xs : List Int} (h : Owns E k C w v xs) {b i : Nat} (hb : b < C) (u : Value) : Owns E k C (w.setCell ⟨b, i, none⟩ u) v xs := by
  have hg : w.grownBy (w.setCell ⟨b, i, none⟩ u) (some b) := ⟨rfl, rfl, rfl, by simp [World.setCell], fun k _ hn => Below.heap_setCell w ⟨b, i, none⟩ u k (fun e => hn (by rw [e]))⟩
  refine h.grown hg ?_
  cases hv : v.ownBlock with
  | none => exact .inl rfl
  | some g =>
    have := (h.lt g hv).1
    exact .inr (by simp only [ne_eq, Option.some.injEq]; omega)

/-- What is owned is no block of another type. -/
theorem Owns.ne {E T : TypeId} {k : IntKind} {C : Nat} {w : World} {v : Value} {xs : List Int} (h : Owns E k C w v xs) {t : Nat} {cs : Array Value} (hv : VB w t T cs) (hne : E ≠ T) : ∀ g, v.ownBlock = some g → t ≠ g := by
  intro g hg e
  subst e
  rcases h.2 with ⟨rfl, _⟩ | ⟨g', cap, cur, rfl, _, hh, _⟩
  · cases hg
  · simp only [Value.ownBlock, Option.some.injEq] at hg
    subst hg
    have := hh.symm.trans hv
    simp only [Option.some.injEq, Obj.cells.injEq] at this
    exact hne this.2.1

theorem Owns.free {E : TypeId} {k : IntKind} {C : Nat} {w : World} {g n cap : Nat} {xs : List Int} (h : Owns E k C w (.slice (some ⟨g, 0, none⟩) n cap) xs) (j : Nat) : w.frozen? ⟨g, j, none⟩ = false := by
  rcases h.2 with ⟨h, _⟩ | ⟨g', cap', cur, he, _, hh, _⟩
  · cases h
  · simp only [Value.slice.injEq, Option.some.injEq, Addr.mk.injEq] at he
    obtain ⟨⟨rfl, _⟩, _, _⟩ := he
    exact VB.free (w := w) (T := E) (cs := cur) hh j

/-- A byte is put into a word. -/
theorem Wd.or_byte (old b : Int) (r : Nat) (hr : r < 4) (h0 : 0 ≤ old) (h1 : old < 256 ^ r) (hb0 : 0 ≤ b) (hb : b ≤ 255) : bits .or .u32 old (b % 4294967296 * 2 ^ (8 * r) % 4294967296) = old + b * 256 ^ r := by
  obtain ⟨o, rfl⟩ := Int.eq_ofNat_of_zero_le h0
  obtain ⟨c, rfl⟩ := Int.eq_ofNat_of_zero_le hb0
  have hp : (2 : Int) ^ (8 * r) = 256 ^ r := by rw [Int.pow_mul]; rfl
  have hpn : (2 : Nat) ^ (8 * r) = 256 ^ r := by rw [Nat.pow_mul]
  have hle : (256 : Nat) ^ r ≤ 16777216 := by
    rcases (show r = 0 ∨ r = 1 ∨ r = 2 ∨ r = 3 by omega) with rfl | rfl | rfl | rfl <;> decide
  have hc : c ≤ 255 := by omega
  have ho : o < 256 ^ r := Int.ofNat_lt.1 (by rw [Int.natCast_pow]; exact h1)
  have hm : c * 256 ^ r ≤ 255 * 256 ^ r := Nat.mul_le_mul_right _ hc
  have e1 : (c : Int) % 4294967296 = c := by omega
  have e2 : ((c : Int) * 2 ^ (8 * r)) % 4294967296 = ((c * 256 ^ r : Nat) : Int) := by
    rw [hp]
    have : ((c * 256 ^ r : Nat) : Int) = (c : Int) * 256 ^ r := by rw [Int.natCast_mul, Int.natCast_pow]; rfl
    rw [← this]
    omega
  rw [e1, e2, bits_or_comm, bits_join .u32 (c * 256 ^ r) o (8 * r) (by rw [hpn]; exact Nat.mul_mod_left _ _) (by rw [hpn]; exact ho) (by show _ < 2 ^ 32; omega), IntKind.wrap_u32]
  have : ((c * 256 ^ r : Nat) : Int) = (c : Int) * 256 ^ r := by rw [Int.natCast_mul, Int.natCast_pow]; rfl
  omega

set_option maxHeartbeats 1000000 in
set_option maxRecDepth 100000 in
theorem wdLayText (n0 : Int) (s : ByteArray) (A : Option Addr) (c cap : Nat) (xs : List Int) (at' : Int) (bo ba bl C : Nat) (o : Value) (w : World)
    (hs : s.size ≤ 4096) (hL : LayAt w bo ba bl C o at') (hC : C ≤ w.heap.size) (hO : Owns 22 .u32 C w o xs) (hx : xs.length ≤ 1073741824) :
    Calls Try.prog 69 #[.agg #[.int .i64 2, .int .i64 n0, .string s, .slice A c cap], .pointer (some ⟨bo, 0, none⟩), .pointer (some ⟨ba, 0, none⟩), .pointer (some ⟨bl, 0, none⟩)] w fun e w' =>
      ∃ o', e = .returned (.int .u32 ((at' + 4 * xs.length) % 4294967296)) ∧ LayAt w' bo ba bl C o' at' ∧ Owns 22 .u32 C w' o' (xs ++ (Wd.head 2 0 s.size).1 :: Wd.tw (Wd.byt s) ((s.size + 3) / 4)) ∧ GrowS (fun k => k = bo ∨ C ≤ k) w w' := by
  obtain ⟨i0, hi, hz0, hz1, hz2⟩ := info_parts (show (Try.prog.info? 22).map (fun i => (i.zero, i.size, i.bytes)) = some (some (.int .u32 0), 1, 4) by kernel_rfl)
  obtain ⟨hd, hhd⟩ : ∃ x, x = (Wd.head 2 0 s.size).1 := ⟨_, rfl⟩
  have hok := Wd.head_text s.size hs
  have HH : ∀ w, Calls Try.prog 46 #[.int .i64 2, .int .i64 0, .int .i64 (s.size : Int)] w fun e w' => e = .returned (.tuple #[.int .u32 hd, .int .i64 0]) ∧ w' = w := fun w => by
    have h := wdHead 2 0 s.size w
    rw [← hhd, show (Wd.head 2 0 (s.size : Int)).2 = 0 by rw [Wd.head_yes hok]] at h
    exact h
  obtain ⟨m, hm⟩ : ∃ m : Nat, m = (s.size + 3) / 4 := ⟨_, rfl⟩
  have hr := Wd.head_range hok
  have hwo := Wd.words_head hok
  rw [← hhd] at hr hwo ⊢
  rw [← hm]
  rw [if_pos rfl] at hwo
  have HW : ∀ w, Calls Try.prog 50 #[.int .u32 hd] w fun e w' => e = .returned (.tuple #[.int .i64 (1 + (m : Int)), .bool true]) ∧ w' = w := fun w => by
    have h := wdWords hd w hr.1 hr.2
    rw [hwo, show (1 + ((s.size : Int) + 3) / 4) = 1 + (m : Int) by omega] at h
    exact h
  replace HH := Lib.hid HH
  replace HW := Lib.hid HW
  have HM := Lib.hid hm
  have hm8 : m ≤ 1024 := by omega
  clear hwo hhd hok hm
  obtain ⟨A0, cap0, rfl, hcap1, hcap2⟩ := hO.sees.len
  have c1 := hL.ho.cell 0
  have c2 := hL.ho.free 0
  have c3 := hL.ho.lt
  simp at c1
  have HL := Lib.hid hL
  have HO := Lib.hid hO
  clear hL hO
  go_enter Try.func69, Try.ntmps69
  go_wp2_with fail
  refine (HH.out _).mono ?_
  rintro _ w1 ⟨rfl, hw1⟩
  subst hw1
  go_wp2_with fail
  refine (HW.out _).mono ?_
  rintro _ w1 ⟨rfl, hw1⟩
  subst hw1
  have L2 := (HL.out.alloc (.cells #[.int .i64 2, .int .i64 n0, .string s, .slice A c cap] 58)).alloc (.cells #[.int .u32 hd] 22)
  have O2 := (HO.out.alloc (.cells #[.int .i64 2, .int .i64 n0, .string s, .slice A c cap] 58)).alloc (.cells #[.int .u32 hd] 22)
  have S2 := Sees.lit .u32 (w.alloc (.cells #[.int .i64 2, .int .i64 n0, .string s, .slice A c cap] 58)) 22 [hd] 1 (by simp) (by unfold maxLen; omega)
  have X2 := (VB.new w 58 #[.int .i64 2, .int .i64 n0, .string s, .slice A c cap]).alloc (.cells #[.int .u32 hd] 22)
  have G2 := ((GrowS.refl (fun k => k = bo ∨ C ≤ k) w).alloc (.cells #[.int .i64 2, .int .i64 n0, .string s, .slice A c cap] 58)).alloc (.cells #[.int .u32 hd] 22)
  have P2 := HO.out.lt
  simp only [World.size_alloc] at S2
  replace L2 := Lib.hid L2
  replace O2 := Lib.hid O2
  replace S2 := Lib.hid S2
  replace X2 := Lib.hid X2
  replace G2 := Lib.hid G2
  replace P2 := Lib.hid P2
  have hbo : bo < C := HL.out.lt.1
  go_wp2_with (at_builtin; first
    | (refine app_src Try.underlying24 hi hz0 hz1 hz2 rfl (.tmp 52) (.tmp 54) rfl rfl rfl S2.out O2.out (Below.refl C _) (by simp; omega) (by simp; omega) (by unfold maxLen; simp; omega) ?_; intro v3 w3 o3 b3 z3 g3; obtain ⟨A3, k3, rfl, _, _⟩ := o3.sees.len; rw [show (xs ++ [hd]).length = xs.length + 1 by simp] at o3 ⊢; have L3 := L2.out.grown g3 (fun g hg => (P2.out g hg).1); have X3 := X2.out.grownAny g3 (fun g hg => by have := (P2.out g hg).2; simp; omega); have G3 := G2.out.grown g3 (fun g hg _ => .inr (P2.out g hg).1); have N3 := o3.ne X3 (by decide)
       have q1 := L3.ho.cell 0; have q2 := L3.ho.free 0; have q3 := L3.ho.lt; simp at q1; have L3 := Lib.hid (L3.setO (.slice A3 (xs.length + 1) k3)); have X3 := Lib.hid (X3.far bo 0 (by omega) (.slice A3 (xs.length + 1) k3)); have G3 := Lib.hid (G3.set (b := bo) (i := 0) (.inl rfl) (.slice A3 (xs.length + 1) k3)); have O3 := Lib.hid (o3.far (i := 0) hbo (.slice A3 (xs.length + 1) k3)); have P3 := Lib.hid o3.lt; replace N3 := Lib.hid N3; clear o3 b3 g3)
    | refine Hid.out ?_)
  refine Lib.hid ?_
  refine app_zeros Try.underlying24 Try.underlying3 hi hz0 hz1 hz2 rfl (.tmp 56) (.tmp 58) rfl m rfl (by show Value.int .i64 (1 + (m : Int) - 1) = _; congr 1; omega) O3.out (by simp) (Below.refl C _) (by simp; omega) (by simp; omega) (by unfold maxLen; simp; omega) (by omega) (by omega) ?_
  intro v4 w4 o4 b4 z4 g4
  obtain ⟨A4, k4, rfl, _, _⟩ := o4.sees.len
  rw [show (xs ++ [hd] ++ List.replicate m (0 : Int)).length = xs.length + 1 + m by simp; omega] at o4 ⊢
  have L4 := L3.out.grown g4 (fun g hg => (P3.out g hg).1)
  have X4 := X3.out.grownAny g4 N3.out
  have G4 := G3.out.grown g4 (fun g hg _ => .inr (P3.out g hg).1)
  have N4 := o4.ne X4 (by decide)
  have q1 := L4.ho.cell 0
  have q2 := L4.ho.free 0
  have q3 := L4.ho.lt
  have x2 := X4.cell 2
  simp at q1 x2
  have hne : ¬ w.heap.size = bo := by omega
  replace L4 := Lib.hid (L4.setO (.slice A4 (xs.length + 1 + m) k4))
  replace X4 := Lib.hid (X4.far bo 0 hne (.slice A4 (xs.length + 1 + m) k4))
  replace G4 := Lib.hid (G4.set (b := bo) (i := 0) (.inl rfl) (.slice A4 (xs.length + 1 + m) k4))
  have O4 := Lib.hid (o4.far (i := 0) hbo (.slice A4 (xs.length + 1 + m) k4))
  replace N4 := Lib.hid N4
  clear o4 b4 g4 L3 X3 G3 N3 P3 O3 L2 O2 S2 X2 G2 P2
  go_wp2_with fail
  go_loopw [63] (fun q wr => ∃ i : Nat, q = .int .i64 (i : Int) ∧ i ≤ s.size ∧ LayAt wr bo ba bl C (.slice A4 (xs.length + 1 + m) k4) at' ∧ Owns 22 .u32 C wr (.slice A4 (xs.length + 1 + m) k4) (xs ++ hd :: Wd.tw ((Wd.byt s).take i) m) ∧ VB wr w.heap.size 58 #[.int .i64 2, .int .i64 n0, .string s, .slice A c cap] ∧ GrowS (fun k => k = bo ∨ C ≤ k) w wr)
    (fun q _ => s.size - (intOf q).toNat)
  case atStart =>
    refine ⟨0, rfl, by omega, L4.out, ?_, X4.out, G4.out⟩
    have := O4.out
    simpa [Wd.tw_nil] using this
  case round =>
    obtain ⟨i, rfl, hi', l5, o5, x5, g5⟩ := hrel
    by_cases hil : i < s.size
    · have hmi : i / 4 < m := by have := HM.out; omega
      obtain ⟨g, cap5, he5, hg5, hg5', _, _, hc5⟩ := o5.cells (by simp)
      simp only [Value.slice.injEq] at he5
      obtain ⟨rfl, -, -⟩ := he5
      have hlen : (xs ++ hd :: Wd.tw ((Wd.byt s).take i) m).length = xs.length + 1 + m := by simp [Wd.tw_length]; omega
      have hc := hc5 (xs.length + 1 + i / 4) (by rw [hlen]; omega)
      have hold : (xs ++ hd :: Wd.tw ((Wd.byt s).take i) m)[xs.length + 1 + i / 4]'(by rw [hlen]; omega) = Wd.wv ((((Wd.byt s).take i).drop (4 * (i / 4))).take 4) := by
        apply Option.some.inj
        rw [← List.getElem?_eq_getElem, List.getElem?_append_right (by omega), show xs.length + 1 + i / 4 - xs.length = i / 4 + 1 by omega, List.getElem?_cons_succ, Wd.tw_get _ _ _ hmi]
      rw [hold] at hc
      obtain ⟨old, hod⟩ : ∃ x, x = Wd.wv ((((Wd.byt s).take i).drop (4 * (i / 4))).take 4) := ⟨_, rfl⟩
      rw [← hod] at hc
      have y1 := l5.ho.cell 0
      have y2 := x5.cell 2
      have y3 := l5.ho.lt
      simp at y1 y2
      have y4 := o5.free (xs.length + 1 + i / 4)
      replace hod := Lib.hid hod
      have L5 := Lib.hid l5
      have O5 := Lib.hid o5
      have X5 := Lib.hid x5
      have G5 := Lib.hid g5
      clear l5 o5 x5 g5 hc5 hold hlen
      have hand : bits .and .i64 (i : Int) 3 = (i : Int) % 4 := bits_mask .i64 i 2 (by decide)
      go_wp2_with fail
      go_region
      go_wp2_with fail
      go_roundw
      case measure => simp only [intOf]; omega
      case rel =>
        have hb : (Wd.byt s)[i]'(by rw [Wd.byt_length]; exact hil) = (s[i].toNat : Int) := by simp [Wd.byt]; rfl
        have hbb := Wd.byt_byt s _ (List.getElem_mem (by rw [Wd.byt_length]; exact hil : i < (Wd.byt s).length))
        rw [hb] at hbb
        have hl4 : ((((Wd.byt s).take i).drop (4 * (i / 4))).take 4).length = i % 4 := by simp [Wd.byt_length]; omega
        have hwl := Wd.wv_lt ((((Wd.byt s).take i).drop (4 * (i / 4))).take 4) (fun n hn => Wd.byt_byt s n (List.mem_of_mem_take (List.mem_of_mem_drop (List.mem_of_mem_take hn))))
        rw [hl4, ← hod.out] at hwl
        rw [Wd.or_byte old _ (i % 4) (Nat.mod_lt _ (by decide)) hwl.1 hwl.2 hbb.1 hbb.2]
        refine ⟨i + 1, rfl, by omega, (L5.out.setBig hg5 _).drew, ?_, X5.out.far _ _ (fun e => N4.out g rfl e) _, (G5.out.set (.inr hg5) _).drew⟩
        have ho := O5.out.set (xs.length + 1 + i / 4) (old + s[i].toNat * 256 ^ (i % 4))
        rw [List.set_append_right _ _ (by omega), show xs.length + 1 + i / 4 - xs.length = i / 4 + 1 by omega, List.set_cons_succ, hod.out, ← hb, ← Wd.tw_step _ _ _ (by rw [Wd.byt_length]; exact hil) hmi] at ho
        rw [hod.out, ← hb]
        exact ho
    · have hie : i = s.size := by omega
      subst hie
      have y1 := l5.ha.cell 0
      have y3 := l5.ha.lt
      simp at y1
      have L5 := Lib.hid l5
      have O5 := Lib.hid o5
      have G5 := Lib.hid g5
      clear l5 o5 x5 g5
      go_wp2_with fail
      go_returns
      refine ⟨.slice A4 (xs.length + 1 + m) k4, ?_, L5.out, ?_, G5.out⟩
      · show Ending.returned (.int .u32 _) = _
        congr 2
        omega
      · have := O5.out
        rw [List.take_of_length_le (by rw [Wd.byt_length]; exact Nat.le_refl _)] at this
        exact this

end Go.Proofs.Ytgohnekaolgblaa
