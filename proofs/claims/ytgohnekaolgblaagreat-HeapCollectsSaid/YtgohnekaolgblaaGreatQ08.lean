/- The document's memory: words: contracts (gimletref12's bytes, Load, Store, of a word). -/
import Derived.Test.YtgohnekaolgblaaGreatQ07
import Derived.Test.YtgohnekaolgblaaGreatQ01
import Derived.Test.YtgohnekaolgblaaGreatProg
import Derived.Laws.BitsAllLaws
import Derived.Laws.ShiftsVarLaws
namespace Go.Proofs.YtgohnekaolgblaaGreat
open Go.RowKit

theorem mmAlign (op : Int) (w : World) (h : op = 40 ∨ op = 54) : Calls Tryz.prog 102 #[.int .i64 op] w fun e w' => e = .returned (.tuple #[.int .u32 2, .bool true]) ∧ w' = w := by
  go_enter Tryz.func102, Tryz.ntmps102
  rcases h with rfl | rfl
  · go_wp2_with fail
    go_returns
    exact ⟨rfl, rfl⟩
  · go_wp2_with fail
    go_returns
    exact ⟨rfl, rfl⟩

theorem mmBytes (op : Int) (w : World) (h : op = 40 ∨ op = 54) : Calls Tryz.prog 97 #[.int .i64 op] w fun e w' => e = .returned (.int .i64 4) ∧ w' = w := by
  have C := mmAlign op w h
  go_enter Tryz.func97, Tryz.ntmps97
  go_wp2_with fail
  refine C.mono ?_
  rintro _ _ ⟨rfl, rfl⟩
  go_wp2_with fail
  go_returns
  exact ⟨rfl, rfl⟩

/-- The bytes are bytes. -/
def Mm.Byt (L : List (Int × Int)) : Prop := ∀ q ∈ L, 0 ≤ q.2 ∧ q.2 < 256
theorem Mm.Byt.get : ∀ {L : List (Int × Int)} (_ : Mm.Byt L) (a : Int), 0 ≤ Mm.get L a ∧ Mm.get L a < 256
  | [], _, a => by simp [Mm.get]
  | p :: L, h, a => by
    simp only [Mm.get]
    split
    · exact h p (by simp)
    · exact Mm.Byt.get (fun q hq => h q (by simp [hq])) a
/-- The upper bytes of a word. -/
def Mm.hi (L : List (Int × Int)) (a : Int) : Nat → Int
  | 0 => 0
  | k + 1 => 256 * Mm.hi L a k + Mm.get L (a + (3 - k))
theorem Mm.Byt.hi {L : List (Int × Int)} (h : Mm.Byt L) (a : Int) : ∀ k, 0 ≤ Mm.hi L a k ∧ Mm.hi L a k < 256 ^ k
  | 0 => by simp [Mm.hi]
  | k + 1 => by
    have h1 := Mm.Byt.hi h a k
    have h2 := h.get (a + (3 - k))
    have e : (256 : Int) ^ (k + 1) = 256 * 256 ^ k := by rw [Int.pow_succ, Int.mul_comm]
    rw [e]
    simp only [Mm.hi]
    generalize (256 : Int) ^ k = t at h1
    omega
/-- A word. -/
def Mm.word (L : List (Int × Int)) (a : Int) : Int := Mm.get L a + 256 * Mm.get L (a + 1) + 65536 * Mm.get L (a + 2) + 16777216 * Mm.get L (a + 3)
theorem Mm.word_hi (L : List (Int × Int)) (a : Int) : Mm.hi L a 4 = Mm.word L a := by
  have e3 : a + (3 - ((0 : Nat) : Int)) = a + 3 := by omega
  have e2 : a + (3 - ((1 : Nat) : Int)) = a + 2 := by omega
  have e1 : a + (3 - ((2 : Nat) : Int)) = a + 1 := by omega
  have e0 : a + (3 - ((3 : Nat) : Int)) = a := by omega
  simp only [Mm.hi, Mm.word, e0, e1, e2, e3]
  omega

set_option maxRecDepth 100000 in
set_option maxHeartbeats 600000 in
theorem mmLoadQ (w : World) (B m : Nat) (N Most : Int) (sv : Value) (L : List (Int × Int)) (a o : Int) (h : MemAt w B m N Most sv L) (hlen : L.length ≤ 1000000) (hb : Mm.Byt L) (h0 : 0 ≤ a ∧ a < 4294967296 ∧ 0 ≤ o ∧ o < 4294967296 ∧ 0 ≤ N ∧ N ≤ 65536) (hin : a + o + 4 ≤ N * 65536) :
    Calls Tryz.prog 99 #[.pointer (some ⟨m, 0, none⟩), .int .i64 40, .int .u32 a, .int .u32 o] w fun e w' => e = .returned (.tuple #[.int .u32 (Mm.word L (a + o)), .int .i64 0]) ∧ ∃ q, w' = w.drewN q := by
  have C1 := mmBytes 40 w (.inl rfl)
  have C2 := mmThere w B m N Most sv L (a + o) 4 h (by omega)
  have hw : a + o < 4294967296 := by omega
  rw [decide_eq_true hin] at C2
  have hg : ∀ wr, (∃ q, wr = w.drewN q) → ∀ x, Calls Tryz.prog 103 #[.pointer (some ⟨m, 0, none⟩), .int .i64 x] wr fun e w' => e = .returned (.int .u8 (Mm.get L x)) ∧ ∃ q, w' = w.drewN q := fun wr hbl x =>
    let ⟨q, hq⟩ := hbl
    (mmGetQ wr B m N Most sv L x (h.call (hq ▸ below_drewN w q)) hlen).mono fun _ _ ⟨h1, q2, h2⟩ => ⟨h1, q + q2, by rw [h2, hq, World.drewN_drewN]⟩
  obtain ⟨r, hr⟩ : ∃ r, r = Mm.word L (a + o) := ⟨_, rfl⟩
  rw [← hr]
  replace hr := Lib.hid hr
  replace hg := Lib.hid hg
  replace C2 := Lib.hid C2
  replace hb := Lib.hid hb
  clear h hlen hin
  go_enter Tryz.func99, Tryz.ntmps99
  go_wp2_with fail
  refine C1.mono ?_
  rintro _ _ ⟨rfl, ew⟩
  replace ew := ew.symm
  subst ew
  clear C1
  go_wp2_with fail
  refine C2.out.mono ?_
  rintro _ _ ⟨rfl, ew⟩
  replace ew := ew.symm
  subst ew
  clear C2
  go_wp2_with fail
  go_loopw [12, 13] (fun v i wr => ∃ k : Nat, k ≤ 4 ∧ v = .int .u32 (Mm.hi L (a + o) k) ∧ i = .int .i64 (3 - (k : Int)) ∧ ∃ q, wr = w.drewN q)
    (fun _ i _ => (intOf i + 1).toNat)
  case atStart => exact ⟨0, by omega, rfl, rfl, 0, rfl⟩
  case round =>
    obtain ⟨k, hk, rfl, rfl, hbl⟩ := hrel
    obtain ⟨v, hv⟩ : ∃ v, v = Mm.hi L (a + o) k := ⟨_, rfl⟩
    rw [← hv]
    by_cases hk4 : k = 4
    · subst hk4
      rw [Mm.word_hi, ← hr.out] at hv
      replace hbl := Lib.hid hbl
      subst hv
      go_wp2_with fail
      go_returns
      exact ⟨rfl, hbl.out⟩
    · have hv1 := hb.out.hi (a + o) k
      have hv3 : Mm.hi L (a + o) k < 16777216 := Int.lt_of_lt_of_le hv1.2 (by
        rcases (show k = 0 ∨ k = 1 ∨ k = 2 ∨ k = 3 by omega) with e | e | e | e <;> rw [e] <;> decide)
      have hv0 : 0 ≤ Mm.hi L (a + o) k := hv1.1
      rw [← hv] at hv3 hv0
      clear hv1
      have hkI : (k : Int) ≤ 3 := by omega
      have hgb := hb.out.get (a + o + (3 - (k : Int)))
      have C := Lib.hid (hg.out _ hbl (a + o + (3 - (k : Int))))
      obtain ⟨y, hy⟩ : ∃ y, y = Mm.get L (a + o + (3 - (k : Int))) := ⟨_, rfl⟩
      rw [← hy] at hgb C
      replace hy := Lib.hid hy
      replace hv := Lib.hid hv
      go_wp2_with fail
      refine C.out.mono ?_
      rintro _ w2 ⟨rfl, b2⟩
      clear C
      go_wp2_with fail
      go_roundw
      case measure => simp only [intOf]; omega
      case rel => exact ⟨k + 1, by omega, by rw [Mm.hi, ← hv.out, ← hy.out], by rw [show ((k + 1 : Nat) : Int) = (k : Int) + 1 by omega]; congr 1; omega, b2⟩

theorem mmLoad (w : World) (B m : Nat) (N Most : Int) (sv : Value) (L : List (Int × Int)) (a o : Int) (h : MemAt w B m N Most sv L) (hlen : L.length ≤ 1000000) (hb : Mm.Byt L) (h0 : 0 ≤ a ∧ a < 4294967296 ∧ 0 ≤ o ∧ o < 4294967296 ∧ 0 ≤ N ∧ N ≤ 65536) (hin : a + o + 4 ≤ N * 65536) :
    Calls Tryz.prog 99 #[.pointer (some ⟨m, 0, none⟩), .int .i64 40, .int .u32 a, .int .u32 o] w fun e w' => e = .returned (.tuple #[.int .u32 (Mm.word L (a + o)), .int .i64 0]) ∧ Below w.heap.size w w' :=
  (mmLoadQ w B m N Most sv L a o h hlen hb h0 hin).mono fun _ _ ⟨h1, q, h3⟩ => ⟨h1, h3 ▸ below_drewN w q⟩

/-- The bytes of a word are laid, so many of them. -/
def Mm.put (L : List (Int × Int)) (a v : Int) : Nat → List (Int × Int)
  | 0 => L
  | k + 1 => Mm.set (Mm.put L a v k) (a + (k : Int)) (v / 256 ^ k % 256)
theorem Mm.put_len (L : List (Int × Int)) (a v : Int) : ∀ k, (Mm.put L a v k).length ≤ L.length + k
  | 0 => Nat.le_refl _
  | k + 1 => by
    have h1 := Mm.put_len L a v k
    have h2 := (Mm.set_len (Mm.put L a v k) (a + (k : Int)) (v / 256 ^ k % 256)).2
    simp only [Mm.put]
    omega
theorem GrowS.thenS {S S' : Nat → Prop} {w w1 w2 : World} (h : GrowS S w w1) (h' : GrowS S' w1 w2) (hs : ∀ k, k < w.heap.size → S' k → S k) : GrowS S w w2 :=
  ⟨h'.os.trans h.os, h'.tape.trans h.tape, h'.output.trans h.output, Nat.le_trans h.size h'.size, fun k hk hn => (h'.block k (Nat.lt_of_lt_of_le hk h.size) (fun e => hn (hs k hk e))).trans (h.block k hk hn)⟩

set_option maxRecDepth 100000 in
set_option maxHeartbeats 600000 in
theorem mmStore (w : World) (B m : Nat) (N Most : Int) (sv : Value) (L : List (Int × Int)) (a o v : Int) (h : MemAt w B m N Most sv L) (hlen : L.length ≤ 900000) (hm : m < B) (hB : B ≤ w.heap.size) (h0 : 0 ≤ a ∧ a < 4294967296 ∧ 0 ≤ o ∧ o < 4294967296 ∧ 0 ≤ N ∧ N ≤ 65536) (hv : 0 ≤ v ∧ v < 4294967296) (hin : a + o + 4 ≤ N * 65536) :
    Calls Tryz.prog 93 #[.pointer (some ⟨m, 0, none⟩), .int .i64 54, .int .u32 a, .int .u32 o, .int .u32 v] w fun e w' => ∃ sv', e = .returned (.int .i64 0) ∧ MemAt w' B m N Most sv' (Mm.put L (a + o) v 4) ∧ GrowS (MmS m sv) w w' ∧ (∀ g, sv'.ownBlock = some g → sv.ownBlock = some g ∨ w.heap.size ≤ g) := by
  have C1 := mmBytes 54 w (.inr rfl)
  have C2 := mmThere w B m N Most sv L (a + o) 4 h (by omega)
  have hw : a + o < 4294967296 := by omega
  rw [decide_eq_true hin] at C2
  have hl := Mm.put_len L (a + o) v
  replace h := Lib.hid h
  replace hl := Lib.hid hl
  replace C2 := Lib.hid C2
  clear hin
  go_enter Tryz.func93, Tryz.ntmps93
  go_wp2_with fail
  refine C1.mono ?_
  rintro _ _ ⟨rfl, ew⟩
  replace ew := ew.symm
  subst ew
  clear C1
  go_wp2_with fail
  refine C2.out.mono ?_
  rintro _ _ ⟨rfl, ew⟩
  replace ew := ew.symm
  subst ew
  clear C2
  go_wp2_with fail
  go_loopw [4, 13] (fun u i wr => ∃ (k : Nat) (sv' : Value), k ≤ 4 ∧ u = .int .u32 (v / 256 ^ k) ∧ i = .int .i64 (k : Int) ∧ MemAt wr B m N Most sv' (Mm.put L (a + o) v k) ∧ GrowS (MmS m sv) w wr ∧ (∀ g, sv'.ownBlock = some g → sv.ownBlock = some g ∨ w.heap.size ≤ g))
    (fun _ i _ => (4 - intOf i).toNat)
  case atStart => exact ⟨0, sv, by omega, by simp, rfl, h.out, GrowS.refl _ _, fun g hg => .inl hg⟩
  case round =>
    obtain ⟨k, sv', hk, rfl, rfl, hM, hG, hsv⟩ := hrel
    obtain ⟨u, hu⟩ : ∃ u, u = v / 256 ^ k := ⟨_, rfl⟩
    rw [← hu]
    have hGs := hG.size
    replace hG := Lib.hid hG
    replace hsv := Lib.hid hsv
    by_cases hk4 : k = 4
    · subst hk4
      replace hM := Lib.hid hM
      go_wp2_with fail
      go_returns
      exact ⟨sv', rfl, hM.out, hG.out, hsv.out⟩
    · have hkI : (k : Int) ≤ 3 := by omega
      have hu0 : 0 ≤ u ∧ u < 4294967296 := by
        rw [hu]
        rcases (show k = 0 ∨ k = 1 ∨ k = 2 ∨ k = 3 by omega) with e | e | e | e <;> rw [e] <;> omega
      have hus : u / 256 = v / 256 ^ (k + 1) := by
        rw [hu]
        rcases (show k = 0 ∨ k = 1 ∨ k = 2 ∨ k = 3 by omega) with e | e | e | e <;> rw [e] <;> omega
      have C := Lib.hid (mmSet wr B m N Most sv' _ (a + o + (k : Int)) (u % 256) hM (by have := hl.out k; omega) hm (by omega))
      replace hM := Lib.hid hM
      replace hu := Lib.hid hu
      replace hus := Lib.hid hus
      go_wp2_with fail
      refine C.out.mono ?_
      rintro _ w2 ⟨sv2, rfl, hM2, hG2, hsv2⟩
      clear C
      replace hM2 := Lib.hid hM2
      replace hG2 := Lib.hid hG2
      replace hsv2 := Lib.hid hsv2
      go_wp2_with fail
      go_roundw
      case measure => simp only [intOf]; omega
      case rel =>
        refine ⟨k + 1, sv2, by omega, by rw [hus.out], by rw [show ((k + 1 : Nat) : Int) = (k : Int) + 1 by omega], by rw [Mm.put, ← hu.out]; exact hM2.out, hG.out.thenS hG2.out fun g hg hS => ?_, fun g hg => ?_⟩
        · rcases hS with e | e
          · exact .inl e
          · rcases hsv.out g e with e | e
            · exact .inr e
            · omega
        · rcases hsv2.out g hg with e | e
          · exact hsv.out g e
          · exact .inr (by omega)

end Go.Proofs.YtgohnekaolgblaaGreat

/- Operations on words: contracts (gimletref03). -/
namespace Go.Proofs.YtgohnekaolgblaaGreat
open Go.RowKit

theorem rkBit (a i : Nat) (w : World) (ha : a < 4294967296) (hi : i < 32) : Calls Tryz.prog 106 #[.int .u32 (a : Int), .int .i64 (i : Int)] w fun e w' => e = .returned (.int .i64 ((a / 2 ^ i % 2 : Nat) : Int)) ∧ w' = w := by
  have h1 : (a : Int) < 4294967296 := by omega
  have h2 : (i : Int) < 32 := by omega
  go_enter Tryz.func106, Tryz.ntmps106
  go_wp2_with fail
  go_returns
  refine ⟨?_, rfl⟩
  show Ending.returned (.int .i64 (((a : Int) / 2 ^ i).tmod 2)) = _
  have e : ((a : Int) / 2 ^ i) = ((a / 2 ^ i : Nat) : Int) := by push_cast; rfl
  rw [e, Int.tmod_eq_emod_of_nonneg (Int.natCast_nonneg _)]
  congr 2

/-- 1, or 0. -/
def rkB (b : Bool) : Int := if b then 1 else 0
theorem rkTruth (b : Bool) (w : World) : Calls Tryz.prog 105 #[.bool b] w fun e w' => e = .returned (.int .u32 (rkB b)) ∧ w' = w := by
  cases b <;>
  · go_enter Tryz.func105, Tryz.ntmps105
    go_wp2_with fail
    go_returns
    exact ⟨rfl, rfl⟩

/-- What a comparison says. -/
def rkCmp (op a b : Int) : Bool := if op = 70 then decide (a = b) else if op = 73 then decide (a < b) else decide (b ≤ a)
theorem rkCompares (op a b : Int) (w : World) (h : op = 70 ∨ op = 73 ∨ op = 79) : Calls Tryz.prog 107 #[.int .i64 op, .int .i64 a, .int .i64 b] w fun e w' => e = .returned (.bool (rkCmp op a b)) ∧ w' = w := by
  rcases h with rfl | rfl | rfl
  · go_enter Tryz.func107, Tryz.ntmps107
    go_wp2_with fail
    go_returns
    exact ⟨by simp [rkCmp]; rfl, rfl⟩
  · go_enter Tryz.func107, Tryz.ntmps107
    go_wp2_with fail
    go_returns
    exact ⟨by simp [rkCmp], rfl⟩
  · go_enter Tryz.func107, Tryz.ntmps107
    go_wp2_with fail
    go_returns
    exact ⟨by simp [rkCmp], rfl⟩

theorem tmod_word (n : Int) : (n.tmod 4294967296 < 0 → n.tmod 4294967296 + 4294967296 = n % 4294967296) ∧ (0 ≤ n.tmod 4294967296 → n.tmod 4294967296 = n % 4294967296) ∧ -4294967296 < n.tmod 4294967296 ∧ n.tmod 4294967296 < 4294967296 := by
  rcases Int.le_total 0 n with h | h
  · rw [Int.tmod_eq_emod_of_nonneg h]; omega
  · obtain ⟨k, rfl⟩ : ∃ k, n = -k := ⟨-n, by omega⟩
    rw [Int.neg_tmod, Int.tmod_eq_emod_of_nonneg (by omega)]; omega
theorem rkWord (n : Int) (w : World) : Calls Tryz.prog 108 #[.int .i64 n] w fun e w' => e = .returned (.int .u32 (n % 4294967296)) ∧ w' = w := by
  obtain ⟨t1, t2, t3, t4⟩ := tmod_word n
  replace t1 := Lib.hid t1
  replace t2 := Lib.hid t2
  go_enter Tryz.func108, Tryz.ntmps108
  go_wp2_with fail
  all_goals go_returns
  all_goals refine ⟨?_, rfl⟩
  · have := t1.out (by assumption)
    show Ending.returned (.int .u32 (n.tmod 4294967296 + 4294967296)) = _
    rw [this]
  · have := t2.out (by assumption)
    show Ending.returned (.int .u32 (n.tmod 4294967296)) = _
    rw [this]

theorem rkSigned (a : Int) (w : World) (h : 0 ≤ a ∧ a < 2147483648) : Calls Tryz.prog 98 #[.int .u32 a] w fun e w' => e = .returned (.int .i64 a) ∧ w' = w := by
  have h1 : ¬ 2147483648 ≤ a := by omega
  have hw : IntKind.i64.wrap a = a := by simp [IntKind.wrap, IntKind.signed, IntKind.bits]; omega
  go_enter Tryz.func98, Tryz.ntmps98
  go_wp2_with fail
  go_returns
  exact ⟨rfl, rfl⟩

/-- What an operation that works bit by bit tells. -/
def rkBitwise (op : Int) (a b : Nat) : Nat := if op = 113 then a &&& b else if op = 114 then a ||| b else if op = 116 then a * 2 ^ (b % 32) % 4294967296 else a / 2 ^ (b % 32)
theorem bit_of (x i : Nat) : x / 2 ^ i % 2 = (x.testBit i).toNat := (Nat.toNat_testBit x i).symm
theorem rkBitwise_bit (op : Int) (a b i : Nat) (h : op = 113 ∨ op = 114 ∨ op = 116 ∨ op = 118) (ha : a < 4294967296) (hi : i < 32) :
    (op = 113 → rkBitwise op a b / 2 ^ i % 2 = (a / 2 ^ i % 2) * (b / 2 ^ i % 2)) ∧ (op = 114 → rkBitwise op a b / 2 ^ i % 2 = (a / 2 ^ i % 2) + (b / 2 ^ i % 2) - (a / 2 ^ i % 2) * (b / 2 ^ i % 2)) ∧
    (op = 116 → rkBitwise op a b / 2 ^ i % 2 = if b % 32 ≤ i then a / 2 ^ (i - b % 32) % 2 else 0) ∧ (op = 118 → rkBitwise op a b / 2 ^ i % 2 = if i + b % 32 < 32 then a / 2 ^ (i + b % 32) % 2 else 0) := by
  refine ⟨fun e => ?_, fun e => ?_, fun e => ?_, fun e => ?_⟩
  · subst e
    simp only [rkBitwise, if_true, bit_of, Nat.testBit_and]
    cases a.testBit i <;> cases b.testBit i <;> rfl
  · subst e
    simp only [rkBitwise, show ¬ ((114 : Int) = 113) by decide, if_false, if_true, bit_of, Nat.testBit_or]
    cases a.testBit i <;> cases b.testBit i <;> rfl
  · subst e
    simp only [rkBitwise, show ¬ ((116 : Int) = 113) by decide, show ¬ ((116 : Int) = 114) by decide, if_false, if_true, bit_of]
    rw [show (4294967296 : Nat) = 2 ^ 32 by decide, Nat.testBit_mod_two_pow, Nat.testBit_mul_two_pow]
    by_cases hk : b % 32 ≤ i <;> simp [hk, hi]
  · subst e
    simp only [rkBitwise, show ¬ ((118 : Int) = 113) by decide, show ¬ ((118 : Int) = 114) by decide, show ¬ ((118 : Int) = 116) by decide, if_false]
    rw [Nat.div_div_eq_div_mul, ← Nat.pow_add, Nat.add_comm (b % 32) i]
    split
    · rfl
    · rename_i hk
      have : a / 2 ^ (i + b % 32) = 0 := Nat.div_eq_of_lt (Nat.lt_of_lt_of_le ha (by rw [show (4294967296 : Nat) = 2 ^ 32 by decide]; exact Nat.pow_le_pow_right (by decide) (by omega)))
      rw [this]

set_option maxRecDepth 100000 in
set_option maxHeartbeats 4000000 in
theorem rkBits (op : Int) (a b i : Nat) (w : World) (h : op = 113 ∨ op = 114 ∨ op = 116 ∨ op = 118) (ha : a < 4294967296) (hb : b < 4294967296) (hi : i < 32) :
    Calls Tryz.prog 110 #[.int .i64 op, .int .u32 (a : Int), .int .u32 (b : Int), .int .i64 (i : Int)] w fun e w' => e = .returned (.int .i64 ((rkBitwise op a b / 2 ^ i % 2 : Nat) : Int)) ∧ w' = w := by
  obtain ⟨f1, f2, f3, f4⟩ := rkBitwise_bit op a b i h ha hi
  have hbI : 0 ≤ (b : Int) ∧ (b : Int) < 4294967296 := by omega
  obtain ⟨k, hkd⟩ : ∃ k, k = b % 32 := ⟨_, rfl⟩
  rw [← hkd] at f3 f4
  have hk : (b : Int) % 32 = (k : Int) := by omega
  have hk32 : (k : Int) < 32 := by omega
  have C1 := Lib.hid (rkBit a i w ha hi)
  have C2 := Lib.hid (rkBit b i w hb hi)
  have hx : a / 2 ^ i % 2 < 2 := Nat.mod_lt _ (by decide)
  have hy : b / 2 ^ i % 2 < 2 := Nat.mod_lt _ (by decide)
  replace hkd := Lib.hid hkd
  rcases h with rfl | rfl | rfl | rfl
  · have f := f1 rfl
    clear f1 f2 f3 f4
    generalize a / 2 ^ i % 2 = x at *
    generalize b / 2 ^ i % 2 = y at *
    have hp : 0 ≤ (x : Int) * (y : Int) ∧ (x : Int) * (y : Int) ≤ 1 := by
      have h1 : x = 0 ∨ x = 1 := by omega
      have h2 : y = 0 ∨ y = 1 := by omega
      rcases h1 with rfl | rfl <;> rcases h2 with rfl | rfl <;> decide
    replace f := Lib.hid f
    go_enter Tryz.func110, Tryz.ntmps110
    go_wp2_with fail
    refine C1.out.mono ?_
    rintro _ w1 ⟨rfl, rfl⟩
    go_wp2_with fail
    refine C2.out.mono ?_
    rintro _ w2 ⟨rfl, rfl⟩
    go_wp2_with fail
    go_returns
    exact ⟨by rw [f.out]; push_cast; rfl, rfl⟩
  · have f := f2 rfl
    clear f1 f2 f3 f4
    generalize a / 2 ^ i % 2 = x at *
    generalize b / 2 ^ i % 2 = y at *
    have hp : 0 ≤ (x : Int) * (y : Int) ∧ (x : Int) * (y : Int) ≤ 1 := by
      have h1 : x = 0 ∨ x = 1 := by omega
      have h2 : y = 0 ∨ y = 1 := by omega
      rcases h1 with rfl | rfl <;> rcases h2 with rfl | rfl <;> decide
    have f' : ((x + y - x * y : Nat) : Int) = (x : Int) + y - x * y := by
      have h1 : x = 0 ∨ x = 1 := by omega
      have h2 : y = 0 ∨ y = 1 := by omega
      rcases h1 with rfl | rfl <;> rcases h2 with rfl | rfl <;> rfl
    rw [f, f']
    clear f f'
    go_enter Tryz.func110, Tryz.ntmps110
    go_wp2_with fail
    refine C1.out.mono ?_
    rintro _ w1 ⟨rfl, rfl⟩
    go_wp2_with fail
    refine C2.out.mono ?_
    rintro _ w2 ⟨rfl, rfl⟩
    go_wp2_with fail
    go_returns
    exact ⟨rfl, rfl⟩
  · have f := f3 rfl
    clear f1 f2 f3 f4
    generalize hx0 : a / 2 ^ i % 2 = x at C1
    generalize hy0 : b / 2 ^ i % 2 = y at C2
    clear hx hy hx0 hy0
    by_cases hle : k ≤ i
    · rw [if_pos hle] at f
      have C3 := Lib.hid (rkBit a (i - k) w ha (by omega))
      rw [← f] at C3
      have e : (i : Int) - (k : Int) = ((i - k : Nat) : Int) := by omega
      have hle2 : (k : Int) ≤ (i : Int) := by omega
      generalize rkBitwise 116 a b / 2 ^ i % 2 = r at *
      generalize i - k = q at *
      clear f hle
      go_enter Tryz.func110, Tryz.ntmps110
      go_wp2_with fail
      refine C1.out.mono ?_
      rintro _ w1 ⟨rfl, rfl⟩
      go_wp2_with fail
      refine C2.out.mono ?_
      rintro _ w2 ⟨rfl, rfl⟩
      go_wp2_with fail
      refine C3.out.mono ?_
      rintro _ w3 ⟨rfl, rfl⟩
      go_wp2_with fail
      go_returns
      exact ⟨rfl, rfl⟩
    · rw [if_neg hle] at f
      rw [f]
      have hle2 : ¬ (k : Int) ≤ (i : Int) := by omega
      clear f hle
      go_enter Tryz.func110, Tryz.ntmps110
      go_wp2_with fail
      refine C1.out.mono ?_
      rintro _ w1 ⟨rfl, rfl⟩
      go_wp2_with fail
      refine C2.out.mono ?_
      rintro _ w2 ⟨rfl, rfl⟩
      go_wp2_with fail
      go_returns
      exact ⟨rfl, rfl⟩
  · have f := f4 rfl
    clear f1 f2 f3 f4
    generalize hx0 : a / 2 ^ i % 2 = x at C1
    generalize hy0 : b / 2 ^ i % 2 = y at C2
    clear hx hy hx0 hy0
    by_cases hle : i + k < 32
    · rw [if_pos hle] at f
      have C3 := Lib.hid (rkBit a (i + k) w ha hle)
      rw [← f] at C3
      have e : (i : Int) + (k : Int) = ((i + k : Nat) : Int) := by omega
      have hle2 : ((i + k : Nat) : Int) < 32 := by omega
      generalize rkBitwise 118 a b / 2 ^ i % 2 = r at *
      generalize i + k = q at *
      clear f hle
      go_enter Tryz.func110, Tryz.ntmps110
      go_wp2_with fail
      refine C1.out.mono ?_
      rintro _ w1 ⟨rfl, rfl⟩
      go_wp2_with fail
      refine C2.out.mono ?_
      rintro _ w2 ⟨rfl, rfl⟩
      go_wp2_with fail
      refine C3.out.mono ?_
      rintro _ w3 ⟨rfl, rfl⟩
      go_wp2_with fail
      go_returns
      exact ⟨rfl, rfl⟩
    · rw [if_neg hle] at f
      rw [f]
      have hle2 : ¬ (i : Int) + (k : Int) < 32 := by omega
      clear f hle
      go_enter Tryz.func110, Tryz.ntmps110
      go_wp2_with fail
      refine C1.out.mono ?_
      rintro _ w1 ⟨rfl, rfl⟩
      go_wp2_with fail
      refine C2.out.mono ?_
      rintro _ w2 ⟨rfl, rfl⟩
      go_wp2_with fail
      go_returns
      exact ⟨rfl, rfl⟩

end Go.Proofs.YtgohnekaolgblaaGreat

/- How many things and expressions a program on words has: contracts (gimletref28.Size, deep, exps). -/
namespace Go.Proofs.YtgohnekaolgblaaGreat
open Go.RowKit

def Lo.k : Lo → Int | .mk k _ _ _ _ => k
def Lo.x : Lo → Int | .mk _ x _ _ _ => x
def Lo.n : Lo → Int | .mk _ _ n _ _ => n
def Lo.a : Lo → List Ex | .mk _ _ _ a _ => a
def Lo.l : Lo → List Lo | .mk _ _ _ _ l => l
def Ex.k : Ex → Int | .mk k _ _ => k
def Ex.n : Ex → Int | .mk _ n _ => n
def Ex.l : Ex → List Ex | .mk _ _ l => l

/-- One of a list of expressions, of things. -/
theorem ExL.elem {S : Nat → Prop} {w : World} {l : List Ex} {A : Option Addr} {cap : Nat} (h : ExL S w l (.slice A l.length cap)) (i : Nat) (hi : i < l.length) :
    ∃ b off A1 k1, A = some ⟨b, off, none⟩ ∧ b < w.heap.size ∧ w.cell? ⟨b, off + i * 3, none⟩ = some (.int .i64 l[i].k) ∧ w.cell? ⟨b, off + i * 3 + 1, none⟩ = some (.int .i64 l[i].n) ∧ w.cell? ⟨b, off + i * 3 + 2, none⟩ = some (.slice A1 l[i].l.length k1) ∧ ExL S w l[i].l (.slice A1 l[i].l.length k1) := by
  obtain ⟨A', cap', e, h1, h2, h3⟩ := h
  simp only [Value.slice.injEq, true_and] at e
  obtain ⟨rfl, rfl⟩ := e
  obtain ⟨b, off, rfl, hb, -, ha⟩ := h3 (by intro e; subst e; simp at hi)
  obtain ⟨v0, v1, v2, c0, c1, c2, hat⟩ := Ex.ats_get ha i hi
  generalize l[i] = t at *
  obtain ⟨k, n, l'⟩ := t
  obtain ⟨u, e, hu⟩ := Ex.at_mk.1 hat
  simp only [Value.agg.injEq, Array.mk.injEq, List.cons.injEq, and_true] at e
  obtain ⟨rfl, rfl, rfl⟩ := e
  obtain ⟨A1, k1, rfl, r⟩ := id hu
  exact ⟨b, off, A1, k1, rfl, hb, c0, c1, c2, hu⟩
theorem LoL.elem {S : Nat → Prop} {w : World} {l : List Lo} {A : Option Addr} {cap : Nat} (h : LoL S w l (.slice A l.length cap)) (i : Nat) (hi : i < l.length) :
    ∃ b off A1 k1 A2 k2, A = some ⟨b, off, none⟩ ∧ b < w.heap.size ∧ w.cell? ⟨b, off + i * 6, none⟩ = some (.int .i64 l[i].k) ∧ w.cell? ⟨b, off + i * 6 + 1, none⟩ = some (.int .i64 l[i].x) ∧ w.cell? ⟨b, off + i * 6 + 2, none⟩ = some (.int .i64 l[i].n) ∧ w.cell? ⟨b, off + i * 6 + 3, none⟩ = some (.slice A1 l[i].a.length k1) ∧
      w.cell? ⟨b, off + i * 6 + 4, none⟩ = some (.slice A2 l[i].l.length k2) ∧ w.cell? ⟨b, off + i * 6 + 5, none⟩ = some (.slice none 0 0) ∧ ExL S w l[i].a (.slice A1 l[i].a.length k1) ∧ LoL S w l[i].l (.slice A2 l[i].l.length k2) := by
  obtain ⟨A', cap', e, h1, h2, h3⟩ := h
  simp only [Value.slice.injEq, true_and] at e
  obtain ⟨rfl, rfl⟩ := e
  obtain ⟨b, off, rfl, hb, -, ha⟩ := h3 (by intro e; subst e; simp at hi)
  obtain ⟨v0, v1, v2, v3, v4, v5, c0, c1, c2, c3, c4, c5, hat⟩ := Lo.ats_get ha i hi
  generalize l[i] = t at *
  obtain ⟨k, x, n, a, l'⟩ := t
  obtain ⟨ua, u, e, hua, hu⟩ := Lo.at_mk.1 hat
  simp only [Value.agg.injEq, Array.mk.injEq, List.cons.injEq, and_true] at e
  obtain ⟨rfl, rfl, rfl, rfl, rfl, rfl⟩ := e
  obtain ⟨A1, k1, rfl, r⟩ := id hua
  obtain ⟨A2, k2, rfl, r⟩ := id hu
  exact ⟨b, off, A1, k1, A2, k2, rfl, hb, c0, c1, c2, c3, c4, c5, hua, hu⟩
theorem ExL.slice {S : Nat → Prop} {w : World} {l : List Ex} {v : Value} (h : ExL S w l v) : ∃ A cap, v = .slice A l.length cap := let ⟨A, c, e, _⟩ := h; ⟨A, c, e⟩
theorem LoL.slice {S : Nat → Prop} {w : World} {l : List Lo} {v : Value} (h : LoL S w l v) : ∃ A cap, v = .slice A l.length cap := let ⟨A, c, e, _⟩ := h; ⟨A, c, e⟩

mutual
/-- How many things there are. -/
def Lo.size : Lo → Nat | .mk _ _ _ _ l => 1 + Lo.sizes l
def Lo.sizes : List Lo → Nat | [] => 0 | t :: l => t.size + Lo.sizes l
end
mutual
/-- How many stand in one another. -/
def Lo.deep : Lo → Nat | .mk _ _ _ _ l => 1 + Lo.deeps l
def Lo.deeps : List Lo → Nat | [] => 0 | t :: l => max t.deep (Lo.deeps l)
end
mutual
def Ex.num : Ex → Nat | .mk _ _ l => 1 + Ex.nums l
def Ex.nums : List Ex → Nat | [] => 0 | t :: l => t.num + Ex.nums l
end
mutual
def Ex.deep : Ex → Nat | .mk _ _ l => 1 + Ex.deeps l
def Ex.deeps : List Ex → Nat | [] => 0 | t :: l => max t.deep (Ex.deeps l)
end
theorem Lo.sizes_append : ∀ a b : List Lo, Lo.sizes (a ++ b) = Lo.sizes a + Lo.sizes b
  | [], b => by simp [Lo.sizes]
  | t :: a, b => by simp [Lo.sizes, Lo.sizes_append a b, Nat.add_assoc]
theorem Lo.deeps_append : ∀ a b : List Lo, Lo.deeps (a ++ b) = max (Lo.deeps a) (Lo.deeps b)
  | [], b => by simp [Lo.deeps]
  | t :: a, b => by simp [Lo.deeps, Lo.deeps_append a b, Nat.max_assoc]
theorem Ex.nums_append : ∀ a b : List Ex, Ex.nums (a ++ b) = Ex.nums a + Ex.nums b
  | [], b => by simp [Ex.nums]
  | t :: a, b => by simp [Ex.nums, Ex.nums_append a b, Nat.add_assoc]
theorem Ex.deeps_append : ∀ a b : List Ex, Ex.deeps (a ++ b) = max (Ex.deeps a) (Ex.deeps b)
  | [], b => by simp [Ex.deeps]
  | t :: a, b => by simp [Ex.deeps, Ex.deeps_append a b, Nat.max_assoc]
theorem take_step {α : Type} (l : List α) (i : Nat) (hi : i < l.length) : l.take (i + 1) = l.take i ++ [l[i]] := List.take_succ_eq_append_getElem hi
theorem Lo.sizes_take (l : List Lo) (i : Nat) (hi : i < l.length) : Lo.sizes (l.take (i + 1)) = Lo.sizes (l.take i) + (1 + Lo.sizes l[i].l) := by
  rw [take_step l i hi, Lo.sizes_append]; generalize l[i] = t; obtain ⟨k, x, n, a, l'⟩ := t; simp [Lo.sizes, Lo.size, Lo.l]
theorem Lo.deeps_take (l : List Lo) (i : Nat) (hi : i < l.length) : Lo.deeps (l.take (i + 1)) = max (Lo.deeps (l.take i)) (1 + Lo.deeps l[i].l) := by
  rw [take_step l i hi, Lo.deeps_append]; generalize l[i] = t; obtain ⟨k, x, n, a, l'⟩ := t; simp [Lo.deeps, Lo.deep, Lo.l]
theorem Ex.nums_take (l : List Ex) (i : Nat) (hi : i < l.length) : Ex.nums (l.take (i + 1)) = Ex.nums (l.take i) + (1 + Ex.nums l[i].l) := by
  rw [take_step l i hi, Ex.nums_append]; generalize l[i] = t; obtain ⟨k, n, l'⟩ := t; simp [Ex.nums, Ex.num, Ex.l]
theorem Ex.deeps_take (l : List Ex) (i : Nat) (hi : i < l.length) : Ex.deeps (l.take (i + 1)) = max (Ex.deeps (l.take i)) (1 + Ex.deeps l[i].l) := by
  rw [take_step l i hi, Ex.deeps_append]; generalize l[i] = t; obtain ⟨k, n, l'⟩ := t; simp [Ex.deeps, Ex.deep, Ex.l]
theorem Lo.sizes_le (l : List Lo) (i : Nat) : Lo.sizes (l.take i) ≤ Lo.sizes l := by
  have h := Lo.sizes_append (l.take i) (l.drop i); rw [List.take_append_drop] at h; omega
theorem Lo.len_le : ∀ l : List Lo, l.length ≤ Lo.sizes l
  | [] => by simp
  | .mk _ _ _ _ l' :: l => by have := Lo.len_le l; simp [Lo.sizes, Lo.size]; omega
theorem Ex.nums_le (l : List Ex) (i : Nat) : Ex.nums (l.take i) ≤ Ex.nums l := by
  have h := Ex.nums_append (l.take i) (l.drop i); rw [List.take_append_drop] at h; omega
theorem Ex.len_le : ∀ l : List Ex, l.length ≤ Ex.nums l
  | [] => by simp
  | .mk _ _ l' :: l => by have := Ex.len_le l; simp [Ex.nums, Ex.num]; omega
theorem Lo.sizes_le' (l : List Lo) (i : Nat) : Lo.sizes (l.take i) + (l.length - i) ≤ Lo.sizes l := by
  have h := Lo.sizes_append (l.take i) (l.drop i); rw [List.take_append_drop] at h
  have := Lo.len_le (l.drop i); rw [List.length_drop] at this; omega
theorem Ex.nums_le' (l : List Ex) (i : Nat) : Ex.nums (l.take i) + (l.length - i) ≤ Ex.nums l := by
  have h := Ex.nums_append (l.take i) (l.drop i); rw [List.take_append_drop] at h
  have := Ex.len_le (l.drop i); rw [List.length_drop] at this; omega
mutual
theorem Lo.deep_le : ∀ t : Lo, t.deep ≤ t.size
  | .mk _ _ _ _ l => by have := Lo.deeps_le l; simp [Lo.deep, Lo.size]; omega
theorem Lo.deeps_le : ∀ l : List Lo, Lo.deeps l ≤ Lo.sizes l
  | [] => by simp [Lo.deeps]
  | t :: l => by have := Lo.deep_le t; have := Lo.deeps_le l; simp [Lo.deeps, Lo.sizes]; omega
end
mutual
theorem Ex.deep_le : ∀ t : Ex, t.deep ≤ t.num
  | .mk _ _ l => by have := Ex.deeps_le l; simp [Ex.deep, Ex.num]; omega
theorem Ex.deeps_le : ∀ l : List Ex, Ex.deeps l ≤ Ex.nums l
  | [] => by simp [Ex.deeps]
  | t :: l => by have := Ex.deep_le t; have := Ex.deeps_le l; simp [Ex.deeps, Ex.nums]; omega
end
theorem Lo.ind' {P : List Lo → Prop} (h : ∀ l : List Lo, (∀ t ∈ l, P t.l) → P l) (l : List Lo) : P l :=
  h l fun t _ => Lo.ind (P := fun t => P t.l) (fun _ _ _ _ l ih => h l fun t ht => ih t ht) t
theorem Ex.ind' {P : List Ex → Prop} (h : ∀ l : List Ex, (∀ t ∈ l, P t.l) → P l) (l : List Ex) : P l :=
  h l fun t _ => Ex.ind (P := fun t => P t.l) (fun _ _ l ih => h l fun t ht => ih t ht) t

set_option maxHeartbeats 1000000 in
theorem rSize (l : List Lo) : ∀ (S : Nat → Prop) (w : World) (v : Value), LoL S w l v → Lo.sizes l ≤ 1000000 →
    Calls Tryz.prog 45 #[v] w fun e w' => e = .returned (.int .i64 (Lo.sizes l : Nat)) ∧ w' = w := by
  refine Lo.ind' (P := fun l => ∀ (S : Nat → Prop) (w : World) (v : Value), LoL S w l v → Lo.sizes l ≤ 1000000 → Calls Tryz.prog 45 #[v] w fun e w' => e = .returned (.int .i64 (Lo.sizes l : Nat)) ∧ w' = w) ?_ l
  intro l ih S w v hv hle
  obtain ⟨A, cap, rfl⟩ := hv.slice
  have hll := Lo.len_le l
  replace ih := Lib.hid ih
  replace hv := Lib.hid hv
  obtain ⟨r, hr⟩ : ∃ r, r = Lo.sizes l := ⟨_, rfl⟩
  rw [← hr] at hle hll ⊢
  replace hr := Lib.hid hr
  go_enter Tryz.func45, Tryz.ntmps45
  go_wp2_with fail
  go_loopw [3, 4] (fun nn q wr => ∃ (i n : Nat), q = .int .i64 (i : Int) ∧ nn = .int .i64 (n : Int) ∧ i ≤ l.length ∧ n = Lo.sizes (l.take i) + (l.length - i) ∧ wr = w)
    (fun _ q _ => l.length - (intOf q).toNat)
  case atStart => exact ⟨0, l.length, rfl, rfl, by omega, by simp [Lo.sizes], rfl⟩
  case round =>
    obtain ⟨i, n, rfl, rfl, hi, hn, rfl⟩ := hrel
    by_cases hil : i < l.length
    · obtain ⟨b, off, A1, k1, A2, k2, rfl, hb, d0, d1, d2, d3, d4, d5, ha, hl⟩ := hv.out.elem i hil
      have h1 := Lo.sizes_take l i hil
      have h2 := Lo.sizes_le' l (i + 1)
      rw [← hr.out] at h2
      have hc := ih.out l[i] (List.getElem_mem hil) S wr _ hl (by omega)
      obtain ⟨m, hm⟩ : ∃ m, m = Lo.sizes l[i].l := ⟨_, rfl⟩
      rw [← hm] at hc h1
      replace hc := Lib.hid hc
      have hnm : n + m ≤ 1000000 := by omega
      have hn' := Lib.hid (show n + m = Lo.sizes (l.take (i + 1)) + (l.length - (i + 1)) by omega)
      clear ha hl h1 h2 hn hm d0 d1 d2 d3
      go_wp2_with fail
      refine hc.out.mono ?_
      rintro _ w1 ⟨rfl, rfl⟩
      go_wp2_with fail
      go_loopw [3, 5] (fun nn q wr => nn = .int .i64 ((n + m : Nat) : Int) ∧ q = .int .i64 0 ∧ wr = w1)
        (fun _ _ _ => 0)
      case atStart => exact ⟨by congr 1, rfl, rfl⟩
      case round =>
        obtain ⟨rfl, rfl, rfl⟩ := hrel
        go_wp2_with fail
        go_roundw
        case measure => simp only [intOf]; omega
        case rel => exact ⟨i + 1, n + m, rfl, rfl, by omega, hn'.out, by first | rfl | trivial⟩
    · have hrn : r = n := by rw [hr.out, hn, List.take_of_length_le (by omega)]; omega
      replace hrn := Lib.hid hrn
      clear hn
      go_wp2_with fail
      go_returns
      exact ⟨by rw [hrn.out]; rfl, rfl⟩

set_option maxHeartbeats 1000000 in
theorem rDeep (l : List Lo) : ∀ (S : Nat → Prop) (w : World) (v : Value), LoL S w l v → Lo.sizes l ≤ 1000000 →
    Calls Tryz.prog 46 #[v] w fun e w' => e = .returned (.int .i64 (Lo.deeps l : Nat)) ∧ w' = w := by
  refine Lo.ind' (P := fun l => ∀ (S : Nat → Prop) (w : World) (v : Value), LoL S w l v → Lo.sizes l ≤ 1000000 → Calls Tryz.prog 46 #[v] w fun e w' => e = .returned (.int .i64 (Lo.deeps l : Nat)) ∧ w' = w) ?_ l
  intro l ih S w v hv hle
  obtain ⟨A, cap, rfl⟩ := hv.slice
  have hll : l.length ≤ 1000000 := Nat.le_trans (Lo.len_le l) hle
  replace ih := Lib.hid ih
  replace hv := Lib.hid hv
  replace hle := Lib.hid hle
  obtain ⟨r, hr⟩ : ∃ r, r = Lo.deeps l := ⟨_, rfl⟩
  rw [← hr]
  replace hr := Lib.hid hr
  go_enter Tryz.func46, Tryz.ntmps46
  go_wp2_with fail
  go_loopw [3, 4] (fun nn q wr => ∃ (i n : Nat), q = .int .i64 (i : Int) ∧ nn = .int .i64 (n : Int) ∧ i ≤ l.length ∧ n = Lo.deeps (l.take i) ∧ wr = w)
    (fun _ q _ => l.length - (intOf q).toNat)
  case atStart => exact ⟨0, 0, rfl, rfl, by omega, by simp [Lo.deeps], rfl⟩
  case round =>
    obtain ⟨i, n, rfl, rfl, hi, hn, rfl⟩ := hrel
    by_cases hil : i < l.length
    · obtain ⟨b, off, A1, k1, A2, k2, rfl, hb, d0, d1, d2, d3, d4, d5, ha, hl⟩ := hv.out.elem i hil
      have h1 := Lo.deeps_take l i hil
      have h2 := Lo.sizes_le l (i + 1)
      have h3 := Lo.sizes_take l i hil
      have h4 := Lo.deeps_le (l.take i)
      have h5 := Lo.deeps_le l[i].l
      have h6 := hle.out
      have hc := ih.out l[i] (List.getElem_mem hil) S wr _ hl (by omega)
      obtain ⟨m, hm⟩ : ∃ m, m = Lo.deeps l[i].l := ⟨_, rfl⟩
      rw [← hm] at hc h1
      replace hc := Lib.hid hc
      have hnm : n ≤ 1000000 ∧ m ≤ 1000000 := by omega
      have hn' := Lib.hid (show max n (1 + m) = Lo.deeps (l.take (i + 1)) by rw [h1, hn])
      clear ha hl h1 h2 h3 h4 h5 h6 hn hm d0 d1 d2 d3
      go_wp2_with fail
      refine hc.out.mono ?_
      rintro _ w1 ⟨rfl, rfl⟩
      have hmm : (if (n : Int) < 1 + (m : Int) then 1 + (m : Int) else (n : Int)) = ((max n (1 + m) : Nat) : Int) := by split <;> omega
      generalize max n (1 + m) = q at hn' hmm
      go_wp2_with fail
      go_loopw [3, 5] (fun nn q' wr => nn = .int .i64 (q : Int) ∧ q' = .int .i64 0 ∧ wr = w1)
        (fun _ _ _ => 0)
      case atStart => exact ⟨by congr 1, rfl, rfl⟩
      case round =>
        obtain ⟨rfl, rfl, rfl⟩ := hrel
        go_wp2_with fail
        go_roundw
        case measure => simp only [intOf]; omega
        case rel => exact ⟨i + 1, q, rfl, rfl, by omega, hn'.out, by first | rfl | trivial⟩
    · have hrn : r = n := by rw [hr.out, hn, List.take_of_length_le (by omega)]
      replace hrn := Lib.hid hrn
      clear hn
      go_wp2_with fail
      go_returns
      exact ⟨by rw [hrn.out]; rfl, rfl⟩

set_option maxHeartbeats 1000000 in
theorem rExps (l : List Ex) : ∀ (S : Nat → Prop) (w : World) (v : Value), ExL S w l v → Ex.nums l ≤ 1000000 →
    Calls Tryz.prog 43 #[v] w fun e w' => e = .returned (.tuple #[.int .i64 (Ex.nums l : Nat), .int .i64 (Ex.deeps l : Nat)]) ∧ w' = w := by
  refine Ex.ind' (P := fun l => ∀ (S : Nat → Prop) (w : World) (v : Value), ExL S w l v → Ex.nums l ≤ 1000000 → Calls Tryz.prog 43 #[v] w fun e w' => e = .returned (.tuple #[.int .i64 (Ex.nums l : Nat), .int .i64 (Ex.deeps l : Nat)]) ∧ w' = w) ?_ l
  intro l ih S w v hv hle
  obtain ⟨A, cap, rfl⟩ := hv.slice
  have hll : l.length ≤ 1000000 := Nat.le_trans (Ex.len_le l) hle
  replace ih := Lib.hid ih
  replace hv := Lib.hid hv
  replace hle := Lib.hid hle
  obtain ⟨r, hr⟩ : ∃ r, r = Ex.nums l := ⟨_, rfl⟩
  obtain ⟨r2, hr2⟩ : ∃ r, r = Ex.deeps l := ⟨_, rfl⟩
  rw [← hr, ← hr2]
  replace hr := Lib.hid hr
  replace hr2 := Lib.hid hr2
  go_enter Tryz.func43, Tryz.ntmps43
  go_wp2_with fail
  go_loopw [4, 5, 6] (fun nn dd q wr => ∃ (i n d : Nat), q = .int .i64 (i : Int) ∧ nn = .int .i64 (n : Int) ∧ dd = .int .i64 (d : Int) ∧ i ≤ l.length ∧ n = Ex.nums (l.take i) + (l.length - i) ∧ d = Ex.deeps (l.take i) ∧ wr = w)
    (fun _ _ q _ => l.length - (intOf q).toNat)
  case atStart => exact ⟨0, l.length, 0, rfl, rfl, rfl, by omega, by simp [Ex.nums], by simp [Ex.deeps], rfl⟩
  case round =>
    obtain ⟨i, n, d, rfl, rfl, rfl, hi, hn, hd, rfl⟩ := hrel
    by_cases hil : i < l.length
    · obtain ⟨b, off, A1, k1, rfl, hb, d0, d1, d2, hl⟩ := hv.out.elem i hil
      have h0 := Ex.nums_take l i hil
      have h1 := Ex.deeps_take l i hil
      have h2 := Ex.nums_le' l (i + 1)
      have h4 := Ex.deeps_le (l.take i)
      have h5 := Ex.deeps_le l[i].l
      have h6 := hle.out
      have hc := ih.out l[i] (List.getElem_mem hil) S wr _ hl (by omega)
      obtain ⟨m, hm⟩ : ∃ m, m = Ex.nums l[i].l := ⟨_, rfl⟩
      obtain ⟨m2, hm2⟩ : ∃ m, m = Ex.deeps l[i].l := ⟨_, rfl⟩
      rw [← hm, ← hm2] at hc
      rw [← hm] at h0
      rw [← hm2] at h1
      replace hc := Lib.hid hc
      have hnm : n + m ≤ 1000000 ∧ d ≤ 1000000 ∧ m2 ≤ 1000000 := by omega
      have hn' := Lib.hid (show n + m = Ex.nums (l.take (i + 1)) + (l.length - (i + 1)) by omega)
      have hd' := Lib.hid (show max d (m2 + 1) = Ex.deeps (l.take (i + 1)) by rw [h1, hd, Nat.add_comm])
      clear hl h0 h1 h2 h4 h5 h6 hn hm hm2 hd d0 d1
      go_wp2_with fail
      refine hc.out.mono ?_
      rintro _ w1 ⟨rfl, rfl⟩
      have hmm : (if (d : Int) < (m2 : Int) + 1 then (m2 : Int) + 1 else (d : Int)) = ((max d (m2 + 1) : Nat) : Int) := by split <;> omega
      generalize max d (m2 + 1) = q at hd' hmm
      go_wp2_with fail
      go_roundw
      case measure => simp only [intOf]; omega
      case rel => exact ⟨i + 1, n + m, q, rfl, by congr 1, by congr 1, by omega, hn'.out, hd'.out, by first | rfl | trivial⟩
    · have hrn : r = n := by rw [hr.out, hn, List.take_of_length_le (by omega)]; omega
      have hrd : r2 = d := by rw [hr2.out, hd, List.take_of_length_le (by omega)]
      replace hrn := Lib.hid hrn
      replace hrd := Lib.hid hrd
      clear hn hd
      go_wp2_with fail
      go_returns
      exact ⟨by rw [hrn.out, hrd.out]; rfl, rfl⟩

end Go.Proofs.YtgohnekaolgblaaGreat
