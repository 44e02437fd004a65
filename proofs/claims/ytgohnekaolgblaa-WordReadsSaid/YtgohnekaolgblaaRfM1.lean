/- gimletref27.read: what it tells of numbers, and where there is no value (printed by wip/gen_rfread.py). gimletref27.read: texts (printed by wip/gen_rfread.py). gimletref27.read: things and functions (printed by wip/gen_rfread.py). gimletref27.read: things and functions (printed by wip/gen_rfread.py). gimletref27.read: things and functions (printed by wip/gen_rfread.py). gimletref27.read, Read: contracts. -/
import Derived.Test.YtgohnekaolgblaaRfPlain
import Derived.Test.YtgohnekaolgblaaRdValue
namespace Go.Proofs.Ytgohnekaolgblaa
open Go.RowKit

def RfRes (r : Option (Tr × Nat)) (t : Tr) (n : Nat) (ok : Bool) : Prop :=
  match r with
  | none => ok = false
  | some (t', n') => ok = true ∧ t' = t ∧ n' = n
/-- What read tells. -/
def RfPost (w : World) (r : Option (Tr × Nat)) (e : Ending) (w' : World) : Prop :=
  ∃ v t n ok, e = .returned (.tuple #[v, .int .i64 ((n : Nat) : Int), .bool ok]) ∧ Tr.at (fun b off => w.heap.size ≤ b ∧ b < w'.heap.size ∧ Fresh w' b off) w' t v ∧ Below w.heap.size w w' ∧ RfRes r t n ok
/-- What read does, so many levels left for things. -/
def RfHyp (g : Nat) : Prop := ∀ (u : Int) (d next : Nat) (vA : Option Addr) (ls : List Int) (vc : Nat) (a : Int) (w : World), d + g = 201 → Sees .u32 w (.slice vA ls.length vc) ls → (0 ≤ u ∧ u < 4294967296) → (∀ x ∈ ls, 0 ≤ x ∧ x < 4294967296) → next ≤ ls.length → ls.length ≤ 1048576 → 0 ≤ a → a ≤ 2147483648 →
    Calls Try.prog 81 #[.slice vA ls.length vc, .int .u32 a, .int .u32 u, .int .i64 (next : Int), .int .i64 (d : Int)] w (RfPost w (Wd.rf ls a g u next))

set_option maxHeartbeats 1000000 in
set_option maxRecDepth 100000 in
theorem rf_num (u : Int) (d next : Nat) (vA : Option Addr) (ls : List Int) (vc : Nat) (a : Int) (w : World) (n : Int) (hof : Wd.of u = (n, true)) (hu : 0 ≤ u ∧ u < 4294967296) :
    Calls Try.prog 81 #[.slice vA ls.length vc, .int .u32 a, .int .u32 u, .int .i64 (next : Int), .int .i64 (d : Int)] w fun e w' => e = .returned (.tuple #[.agg #[.int .i64 1, .int .i64 n, .string ⟨#[]⟩, .slice none 0 0], .int .i64 (next : Int), .bool true]) ∧ Below w.heap.size w w' := by
  have HO : ∀ w, Calls Try.prog 45 #[.int .u32 u] w fun e w' => e = .returned (.tuple #[.int .i64 n, .bool true]) ∧ w' = w := fun w => by
    have h := refOf u w hu.1 hu.2
    rw [hof] at h
    exact h
  replace HO := Lib.hid HO
  clear hof
  go_enter Try.func81, Try.ntmps81
  go_wp2_with fail
  refine (HO.out _).mono ?_
  rintro _ w1 ⟨rfl, hw1⟩
  subst hw1
  clear HO
  go_wp2_with fail
  refine bodyPost_ret (v := .tuple #[.agg #[.int .i64 1, .int .i64 n, .string ⟨#[]⟩, .slice none 0 0], .int .i64 (next : Int), .bool true]) (by simp [results, Try.results81, go_sem]) rfl ⟨rfl, B.alloc (B.refl w) _⟩

set_option maxHeartbeats 1000000 in
set_option maxRecDepth 100000 in
theorem rf_no (u : Int) (d next : Nat) (vA : Option Addr) (ls : List Int) (vc : Nat) (a : Int) (w : World) (hof : Wd.of u = (0, false)) (hu : 0 ≤ u ∧ u < 4294967296) (hno : u ≠ a + 4 * next ∨ ls.length ≤ next ∨ 200 < d) (hn : next ≤ 1048576) (_hd : d ≤ 201) (h0 : 0 ≤ a) (h1 : a ≤ 2147483648) :
    Calls Try.prog 81 #[.slice vA ls.length vc, .int .u32 a, .int .u32 u, .int .i64 (next : Int), .int .i64 (d : Int)] w fun e w' => e = .returned (.tuple #[.agg #[.int .i64 0, .int .i64 0, .string ⟨#[]⟩, .slice none 0 0], .int .i64 0, .bool false]) ∧ Below w.heap.size w w' := by
  have HO : ∀ w, Calls Try.prog 45 #[.int .u32 u] w fun e w' => e = .returned (.tuple #[.int .i64 0, .bool false]) ∧ w' = w := fun w => by
    have h := refOf u w hu.1 hu.2
    rw [hof] at h
    exact h
  replace HO := Lib.hid HO
  clear hof
  by_cases c1 : u = a + 4 * next
  · subst c1
    by_cases c2 : ls.length ≤ next
    · clear hno
      go_enter Try.func81, Try.ntmps81
      go_wp2_with fail
      refine (HO.out _).mono ?_
      rintro _ w1 ⟨rfl, hw1⟩
      subst hw1
      clear HO
      go_wp2_with fail
      refine bodyPost_ret (v := .tuple #[.agg #[.int .i64 0, .int .i64 0, .string ⟨#[]⟩, .slice none 0 0], .int .i64 0, .bool false]) (by simp [results, Try.results81, go_sem]) rfl ⟨rfl, B.alloc (B.refl w) _⟩
    · have c3 : 200 < d := by omega
      clear hno
      go_enter Try.func81, Try.ntmps81
      go_wp2_with fail
      refine (HO.out _).mono ?_
      rintro _ w1 ⟨rfl, hw1⟩
      subst hw1
      clear HO
      go_wp2_with fail
      refine bodyPost_ret (v := .tuple #[.agg #[.int .i64 0, .int .i64 0, .string ⟨#[]⟩, .slice none 0 0], .int .i64 0, .bool false]) (by simp [results, Try.results81, go_sem]) rfl ⟨rfl, B.alloc (B.refl w) _⟩
  · clear hno
    go_enter Try.func81, Try.ntmps81
    go_wp2_with fail
    refine (HO.out _).mono ?_
    rintro _ w1 ⟨rfl, hw1⟩
    subst hw1
    clear HO
    go_wp2_with fail
    refine bodyPost_ret (v := .tuple #[.agg #[.int .i64 0, .int .i64 0, .string ⟨#[]⟩, .slice none 0 0], .int .i64 0, .bool false]) (by simp [results, Try.results81, go_sem]) rfl ⟨rfl, B.alloc (B.refl w) _⟩

set_option maxHeartbeats 1000000 in
set_option maxRecDepth 100000 in
theorem rf_bad (u : Int) (d next : Nat) (b off : Nat) (ls : List Int) (vc : Nat) (a : Int) (w : World) (h : Int) (k n s : Int) (is : Bool) (wn : Nat) (hof : Wd.of u = (0, false)) (hu : 0 ≤ u ∧ u < 4294967296) (hua : u = a + 4 * next) (hh : ls[next]? = some h)
    (hun : Wd.unhead h = (k, n, s, is)) (hwn : Wd.words h = ((wn : Int), is)) (hno : is = false ∨ ls.length < next + wn) (hw5 : wn ≤ 5000) (hc : w.cell? ⟨b, off + next, none⟩ = some (.int .u32 h)) (hh0 : 0 ≤ h ∧ h < 4294967296) (hd : d ≤ 200) (hl : ls.length ≤ 1048576) (h0 : 0 ≤ a) (h1 : a ≤ 2147483648) :
    Calls Try.prog 81 #[.slice (some ⟨b, off, none⟩) ls.length vc, .int .u32 a, .int .u32 u, .int .i64 (next : Int), .int .i64 (d : Int)] w fun e w' => e = .returned (.tuple #[.agg #[.int .i64 0, .int .i64 0, .string ⟨#[]⟩, .slice none 0 0], .int .i64 0, .bool false]) ∧ Below w.heap.size w w' := by
  have HO : ∀ w, Calls Try.prog 45 #[.int .u32 u] w fun e w' => e = .returned (.tuple #[.int .i64 0, .bool false]) ∧ w' = w := fun w => by
    have h := refOf u w hu.1 hu.2
    rw [hof] at h
    exact h
  replace HO := Lib.hid HO
  have HU : ∀ w, Calls Try.prog 49 #[.int .u32 h] w fun e w' => e = .returned (.tuple #[.int .i64 k, .int .i64 n, .int .i64 s, .bool is]) ∧ w' = w := fun w => by
    have h := refUnhead h w hh0.1 hh0.2
    rw [hun] at h
    exact h
  have HW : ∀ w, Calls Try.prog 51 #[.int .u32 h] w fun e w' => e = .returned (.tuple #[.int .i64 (wn : Int), .bool is]) ∧ w' = w := fun w => by
    have h := refWords h w hh0.1 hh0.2
    rw [hwn] at h
    exact h
  replace HU := Lib.hid HU
  replace HW := Lib.hid HW
  obtain ⟨hlt, -⟩ := List.getElem?_eq_some_iff.1 hh
  have hc' := cellA hc (.cells #[.int .i64 0, .int .i64 0, .string ⟨#[]⟩, .slice none 0 0] 58)
  clear hof hun hwn hh hc
  subst hua
  cases is
  · clear hno
    go_enter Try.func81, Try.ntmps81
    go_wp2_with fail
    refine (HO.out _).mono ?_
    rintro _ w1 ⟨rfl, hw1⟩
    subst hw1
    clear HO
    go_wp2_with fail
    refine (HU.out _).mono ?_
    rintro _ w1 ⟨rfl, hw1⟩
    subst hw1
    clear HU
    go_wp2_with fail
    refine (HW.out _).mono ?_
    rintro _ w1 ⟨rfl, hw1⟩
    subst hw1
    clear HW
    go_wp2_with fail
    refine bodyPost_ret (v := .tuple #[.agg #[.int .i64 0, .int .i64 0, .string ⟨#[]⟩, .slice none 0 0], .int .i64 0, .bool false]) (by simp [results, Try.results81, go_sem]) rfl ⟨rfl, B.alloc (B.refl w) _⟩
  · have hno : ls.length < next + wn := by simpa using hno
    go_enter Try.func81, Try.ntmps81
    go_wp2_with fail
    refine (HO.out _).mono ?_
    rintro _ w1 ⟨rfl, hw1⟩
    subst hw1
    clear HO
    go_wp2_with fail
    refine (HU.out _).mono ?_
    rintro _ w1 ⟨rfl, hw1⟩
    subst hw1
    clear HU
    go_wp2_with fail
    refine (HW.out _).mono ?_
    rintro _ w1 ⟨rfl, hw1⟩
    subst hw1
    clear HW
    go_wp2_with fail
    refine bodyPost_ret (v := .tuple #[.agg #[.int .i64 0, .int .i64 0, .string ⟨#[]⟩, .slice none 0 0], .int .i64 0, .bool false]) (by simp [results, Try.results81, go_sem]) rfl ⟨rfl, B.alloc (B.refl w) _⟩

theorem Wd.pow8 (j : Nat) (h : j < 4) : (2 : Int) ^ (8 * j) = 256 ^ j := by
  rcases (show j = 0 ∨ j = 1 ∨ j = 2 ∨ j = 3 by omega) with rfl | rfl | rfl | rfl <;> rfl
theorem Wd.set_more (l : List Int) (s i : Nat) (hl : i < l.length) (hs : i < s) : (l.take i ++ List.replicate (s - i) 0).set i l[i] = l.take (i + 1) ++ List.replicate (s - (i + 1)) 0 := by
  rw [List.set_append_right _ _ (by simp; omega), List.length_take, show i - min i l.length = 0 by omega, show s - i = (s - (i + 1)) + 1 by omega, List.replicate_succ, List.set_cons_zero, List.take_add_one, List.getElem?_eq_getElem hl]
  simp only [Option.toList_some, List.append_assoc, List.cons_append, List.nil_append]

set_option maxHeartbeats 8000000 in
set_option maxRecDepth 100000 in
theorem rf_text1 (u : Int) (d next : Nat) (b off : Nat) (ls : List Int) (vc : Nat) (a : Int) (w : World) (h : Int) (n : Int) (s : Nat) (wn : Nat) (hof : Wd.of u = (0, false)) (hua : u = a + 4 * next) (hh : ls[next]? = some h)
    (hun : Wd.unhead h = (2, n, (s : Int), true)) (hwn : Wd.words h = ((wn : Int), true)) (hfit : next + wn ≤ ls.length) (hw1 : 1 ≤ wn) (hw5 : wn ≤ 5000) (hvc : ls.length ≤ vc) (hvm : vc ≤ 9223372036854775807) (hcq : ¬ vc = next + 1) (hs5 : s ≤ 4096)
    (own : List Int) (hol : own.length = wn - 1) (hou : Hid (∀ x ∈ own, 0 ≤ x ∧ x < 4294967296)) (hoc : Hid (∀ j (hj : j < own.length), w.cell? ⟨b, off + (next + 1) + j, none⟩ = some (.int .u32 own[j]))) (hsw : (s + 3) / 4 = own.length)
    (hc : w.cell? ⟨b, off + next, none⟩ = some (.int .u32 h)) (hu : 0 ≤ u ∧ u < 4294967296) (hh0 : 0 ≤ h ∧ h < 4294967296) (hd : d ≤ 200) (hl : ls.length ≤ 1048576) (h0 : 0 ≤ a) (h1 : a ≤ 2147483648) :
    Calls Try.prog 81 #[.slice (some ⟨b, off, none⟩) ls.length vc, .int .u32 a, .int .u32 u, .int .i64 (next : Int), .int .i64 (d : Int)] w fun e w' => e = .returned (.tuple #[.agg #[.int .i64 2, .int .i64 0, .string (str ((Wd.bys own).take s)), .slice none 0 0], .int .i64 ((next + wn : Nat) : Int), .bool (decide (Wd.tw ((Wd.bys own).take s) own.length = own))]) ∧ Below w.heap.size w w' := by
  have HO : ∀ w, Calls Try.prog 45 #[.int .u32 u] w fun e w' => e = .returned (.tuple #[.int .i64 0, .bool false]) ∧ w' = w := fun w => by
    have h := refOf u w hu.1 hu.2
    rw [hof] at h
    exact h
  replace HO := Lib.hid HO
  have HU : ∀ w, Calls Try.prog 49 #[.int .u32 h] w fun e w' => e = .returned (.tuple #[.int .i64 2, .int .i64 n, .int .i64 (s : Int), .bool true]) ∧ w' = w := fun w => by
    have h := refUnhead h w hh0.1 hh0.2
    rw [hun] at h
    exact h
  have HW : ∀ w, Calls Try.prog 51 #[.int .u32 h] w fun e w' => e = .returned (.tuple #[.int .i64 (wn : Int), .bool true]) ∧ w' = w := fun w => by
    have h := refWords h w hh0.1 hh0.2
    rw [hwn] at h
    exact h
  replace HU := Lib.hid HU
  replace HW := Lib.hid HW
  obtain ⟨hlt, -⟩ := List.getElem?_eq_some_iff.1 hh
  have hc' := cellA hc (.cells #[.int .i64 0, .int .i64 0, .string ⟨#[]⟩, .slice none 0 0] 58)
  have hbw : b < w.heap.size := by simpa using World.block_lt_of_cell? w _ hc
  clear hof hun hwn hh hc
  subst hua
  clear hu
  obtain ⟨i0, hi, hz0, hz1, hz2⟩ := info_parts (show (Try.prog.info? 5).map (fun i => (i.zero, i.size, i.bytes)) = some (some (.int .u8 0), 1, 1) by kernel_rfl)
  have X0 := Lib.hid (VB.new w 58 #[.int .i64 0, .int .i64 0, .string ⟨#[]⟩, .slice none 0 0])
  have hbyl : (Wd.bys own).length = 4 * own.length := Wd.bys_length own
  have hs4 : s ≤ 4 * own.length := by omega
  obtain ⟨r, hr⟩ : ∃ r, r = decide (Wd.tw ((Wd.bys own).take s) own.length = own) := ⟨_, rfl⟩
  rw [← hr]
  obtain ⟨st, hst⟩ : ∃ r, r = str ((Wd.bys own).take s) := ⟨_, rfl⟩
  rw [← hst]
  replace hr := Lib.hid hr
  replace hst := Lib.hid hst
  go_enter Try.func81, Try.ntmps81
  go_wp2_with fail
  refine (HO.out _).mono ?_
  rintro _ w1 ⟨rfl, hw1⟩
  subst hw1
  clear HO
  go_wp2_with fail
  refine (HU.out _).mono ?_
  rintro _ w1 ⟨rfl, hw1⟩
  subst hw1
  clear HU
  go_wp2_with fail
  refine (HW.out _).mono ?_
  rintro _ w1 ⟨rfl, hw1⟩
  subst hw1
  clear HW
  go_wp2_with (at_make; refine make_row Try.underlying25 hi hz0 hz1 rfl rfl (.tmp 95) (.tmp 95) rfl s rfl rfl (by rw [hz2]; omega) (by omega) ?_; intro w1 R1 b1 z1; have O1 := Lib.hid (Owns.row (B := w.heap.size) R1.out (by simp) (by unfold maxLen; omega)); have B1 := Lib.hid (B.call (B.alloc (B.refl w) (.cells #[.int .i64 0, .int .i64 0, .string ⟨#[]⟩, .slice none 0 0] 58)) b1); have X1 := Lib.hid (X0.out.call b1); clear R1 b1)
  go_loopw [22] (fun q wr => ∃ i : Nat, q = .int .i64 (i : Int) ∧ i ≤ s ∧ Owns 5 .u8 w.heap.size wr (.slice (some ⟨w.heap.size + 1, 0, none⟩) s s) ((Wd.bys own).take i ++ List.replicate (s - i) 0) ∧ VB wr w.heap.size 58 #[.int .i64 0, .int .i64 0, .string ⟨#[]⟩, .slice none 0 0] ∧ Below w.heap.size w wr ∧ w.heap.size + 1 < wr.heap.size)
    (fun q _ => s - (intOf q).toNat)
  case atStart => exact ⟨0, rfl, by omega, by simpa using O1.out, X1.out, B1.out, by simp at z1; omega⟩
  case round =>
    obtain ⟨i, rfl, hi', o5, x5, b5, hz5⟩ := hrel
    by_cases hil : i < s
    · have hlen : ((Wd.bys own).take i ++ List.replicate (s - i) (0 : Int)).length = s := by simp only [List.length_append, List.length_take, List.length_replicate, hbyl]; omega
      obtain ⟨g, cap5, he5, hg5, hg5', _, _, hc5⟩ := o5.cells (by intro e; rw [e] at hlen; simp at hlen; omega)
      simp only [Value.slice.injEq, Option.some.injEq, Addr.mk.injEq] at he5
      obtain ⟨⟨rfl, -, -⟩, -, rfl⟩ := he5
      have hcs := hc5 i (by rw [hlen]; omega)
      have y4 := o5.free i
      have ho4 : i / 4 < own.length := by omega
      have hco := cellK b5 (hoc.out (i / 4) ho4)
      have hxr := hou.out _ (List.getElem_mem ho4)
      obtain ⟨x, hx⟩ : ∃ x, x = own[i / 4] := ⟨_, rfl⟩
      rw [← hx] at hco hxr
      have hby : (Wd.bys own)[i]'(by rw [hbyl]; omega) = x / 256 ^ (i % 4) % 256 := by
        apply Option.some.inj
        rw [← List.getElem?_eq_getElem, Wd.bys_get own i (by omega), hx]
      generalize ((Wd.bys own).take i ++ List.replicate (s - i) (0 : Int))[i]'_ = z5 at hcs
      replace hx := Lib.hid hx
      replace hby := Lib.hid hby
      have O5 := Lib.hid o5
      have X5 := Lib.hid x5
      have B5 := Lib.hid b5
      clear o5 x5 b5 hc5 hlen
      go_wp2_with fail
      go_roundw
      case measure => simp only [intOf]; omega
      case rel =>
        refine ⟨i + 1, rfl, by omega, ?_, X5.out.far _ _ (by omega) _, B5.out.setCell (p := ⟨w.heap.size + 1, i, none⟩) (by simp) _, by simpa [World.setCell] using hz5⟩
        rw [Wd.pow8 _ (Nat.mod_lt i (by decide)), ← hby.out, ← Wd.set_more (Wd.bys own) s i (by omega) hil]
        exact O5.out.set i _
    · have hie : i = s := by omega
      subst hie
      rw [Nat.sub_self, List.replicate_zero, List.append_nil] at o5
      have so := o5.sees
      have hxl : ((Wd.bys own).take i).length = i := by rw [List.length_take, hbyl]; omega
      have hxb : Byt ((Wd.bys own).take i) := fun n hn => Wd.bys_byt own n (List.mem_of_mem_take hn)
      have HT : ∀ w', Calls Try.prog 106 #[.string (str ((Wd.bys own).take i))] w' fun e w'' => ∃ o, e = .returned o ∧ Owns 22 .u32 w'.heap.size w'' o (Wd.tw ((Wd.bys own).take i) own.length) ∧ Below w'.heap.size w' w'' := fun w' => by
        have h := rfText (str ((Wd.bys own).take i)) w' (by rw [str_size, hxl]; exact hs5)
        rw [byt_str _ hxb, str_size, hxl, hsw] at h
        exact h
      replace HT := Lib.hid HT
      have hlt1 : w.heap.size + 1 < wr.heap.size := hz5
      have hso : ∀ w', GrowS (fun k => k = w.heap.size) wr w' → Sees .u8 w' (.slice (some ⟨w.heap.size + 1, 0, none⟩) i i) ((Wd.bys own).take i) := by
        intro w' hb
        obtain ⟨_, c, e, h1, h2, h3⟩ := so
        rw [hxl] at e
        simp only [Value.slice.injEq] at e
        obtain ⟨rfl, -, rfl⟩ := e
        refine ⟨_, i, by rw [hxl], by omega, by unfold maxLen; omega, fun hne => ?_⟩
        obtain ⟨b', o', he, hcc⟩ := h3 hne
        simp only [Option.some.injEq, Addr.mk.injEq] at he
        obtain ⟨rfl, rfl, -⟩ := he
        exact ⟨_, _, rfl, fun j hj => hb.cell (by omega) (hcc j hj)⟩
      have HSTR : ∀ w', GrowS (fun k => k = w.heap.size) wr w' → (convert 25 9 (.slice (some ⟨w.heap.size + 1, 0, none⟩) i i)).run Try.prog w' = .ok (.string (str ((Wd.bys own).take i))) w' := fun w' hb =>
        run_str (P := Try.prog) (T := 25) (E := 5) (S := 9) Try.underlying25 Try.underlying5 Try.underlying9 (hso w' hb)
      have SV : ∀ w', GrowS (fun k => k = w.heap.size) wr w' → Sees .u32 w' (.slice (some ⟨b, off + (next + 1), none⟩) (next + wn - (next + 1)) (vc - (next + 1))) own := by
        intro w' hb
        exact ⟨_, vc - (next + 1), by rw [show next + wn - (next + 1) = own.length by omega], by omega, by unfold maxLen; omega, fun _ => ⟨b, off + (next + 1), rfl, fun j hj => hb.cell (by omega) (cellK b5 (hoc.out j hj))⟩⟩
      have HSM := Lib.hid fun w' (hb : GrowS (fun k => k = w.heap.size) wr w') v' (hs : Sees .u32 w' v' (Wd.tw ((Wd.bys own).take i) own.length)) => rfSame v' _ _ own w' hs (SV w' hb) (by rw [Wd.tw_length]; exact Nat.le_refl _)
      rw [← hr.out] at HSM
      rw [← hst.out] at HT HSTR
      have x0 := x5.cell 0
      have x1 := x5.cell 1
      have x2 := x5.cell 2
      have x3 := x5.cell 3
      have fx0 := x5.free 0
      have fx1 := x5.free 1
      have fx2 := x5.free 2
      have fx3 := x5.free 3
      have lx := x5.lt
      simp at x0 x1 x2 x3
      have B5 := Lib.hid b5
      have HBX : ∀ wT wS, Below wr.drew.heap.size wr.drew wT → Below wT.heap.size wT wS → wS.cell? ⟨w.heap.size, 0, none⟩ = some (.int .i64 0) ∧ wS.cell? ⟨w.heap.size, 1, none⟩ = some (.int .i64 0) ∧ wS.cell? ⟨w.heap.size, 2, none⟩ = some (.string ⟨#[]⟩) ∧ wS.cell? ⟨w.heap.size, 3, none⟩ = some (.slice none 0 0) ∧ wS.frozen? ⟨w.heap.size, 0, none⟩ = false ∧ wS.frozen? ⟨w.heap.size, 1, none⟩ = false ∧ wS.frozen? ⟨w.heap.size, 2, none⟩ = false ∧ wS.frozen? ⟨w.heap.size, 3, none⟩ = false ∧ w.heap.size < wS.heap.size := by
        intro wT wS bT bS
        have XS := VB.call (VB.call (w := wr.drew) x5 bT) bS
        exact ⟨XS.cell 0, XS.cell 1, XS.cell 2, XS.cell 3, XS.free 0, XS.free 1, XS.free 2, XS.free 3, XS.lt⟩
      replace HBX := Lib.hid HBX
      replace hol := Lib.hid hol
      clear o5 so b5 x5 hso SV hr hst
      go_wp2_with fail
      go_region_held3 (fun w' => GrowS (fun k => k = w.heap.size) wr w')
        (first
          | exact (GrowS.refl _ wr).drew
          | exact GrowS.below (by assumption) bT
          | exact GrowS.below (by assumption) bS
          | exact GrowS.set (GrowS.set (GrowS.set (GrowS.set (GrowS.below (GrowS.below (GrowS.refl (fun k => k = w.heap.size) wr).drew bT) bS) (b := w.heap.size) rfl _) (b := w.heap.size) rfl _) (b := w.heap.size) rfl _) (b := w.heap.size) rfl _)
        ((first
          | (go_at_call 106; with_reducible refine (HT.out _).mono ?_; rintro _ wT ⟨oT, rfl, owT, bT⟩; obtain ⟨AT, kT, rfl, _, _⟩ := owT.sees.len)
          | (go_at_call 108; with_reducible refine (HSM.out _ (by assumption) _ owT.sees).mono ?_; rintro _ wS ⟨rfl, bS⟩; obtain ⟨z0, z1, z2, z3, zf0, zf1, zf2, zf3, zl⟩ := HBX.out _ _ bT bS)))
      have hwr : IntKind.i64.wrap ((next : Int) + wn) = ((next + wn : Nat) : Int) := by rw [IntKind.wrap_i64]; omega
      go_wp2_with fail
      refine bodyPost_ret (v := .tuple #[.agg #[.int .i64 2, .int .i64 0, .string st, .slice none 0 0], .int .i64 ((next + wn : Nat) : Int), .bool r]) (by simp [results, Try.results81, go_sem, z0, z1, z2, z3, hwr]) rfl ⟨rfl, ?_⟩
      exact ((((B.call (w := w) (W := wr.drew) B5.out.drew (B.call bT bS)).setCell (p := ⟨w.heap.size, 0, none⟩) (Nat.le_refl _) _).setCell (p := ⟨w.heap.size, 1, none⟩) (Nat.le_refl _) _).setCell (p := ⟨w.heap.size, 2, none⟩) (Nat.le_refl _) _).setCell (p := ⟨w.heap.size, 3, none⟩) (Nat.le_refl _) _

set_option maxHeartbeats 8000000 in
set_option maxRecDepth 100000 in
theorem rf_text0 (u : Int) (d next : Nat) (b off : Nat) (ls : List Int) (a : Int) (w : World) (h : Int) (n : Int) (s : Nat) (wn : Nat) (hof : Wd.of u = (0, false)) (hua : u = a + 4 * next) (hh : ls[next]? = some h)
    (hun : Wd.unhead h = (2, n, (s : Int), true)) (hwn : Wd.words h = ((wn : Int), true)) (hfit : next + wn ≤ ls.length) (hw1 : 1 ≤ wn) (hw5 : wn ≤ 5000) (hvc : ls.length ≤ (next + 1)) (hvm : (next + 1) ≤ 9223372036854775807) (hs5 : s ≤ 4096)
    (own : List Int) (hol : own.length = wn - 1) (_hou : Hid (∀ x ∈ own, 0 ≤ x ∧ x < 4294967296)) (hsw : (s + 3) / 4 = own.length)
    (hc : w.cell? ⟨b, off + next, none⟩ = some (.int .u32 h)) (hu : 0 ≤ u ∧ u < 4294967296) (hh0 : 0 ≤ h ∧ h < 4294967296) (hd : d ≤ 200) (hl : ls.length ≤ 1048576) (h0 : 0 ≤ a) (h1 : a ≤ 2147483648) :
    Calls Try.prog 81 #[.slice (some ⟨b, off, none⟩) ls.length (next + 1), .int .u32 a, .int .u32 u, .int .i64 (next : Int), .int .i64 (d : Int)] w fun e w' => e = .returned (.tuple #[.agg #[.int .i64 2, .int .i64 0, .string (str ((Wd.bys own).take s)), .slice none 0 0], .int .i64 ((next + wn : Nat) : Int), .bool (decide (Wd.tw ((Wd.bys own).take s) own.length = own))]) ∧ Below w.heap.size w w' := by
  have HO : ∀ w, Calls Try.prog 45 #[.int .u32 u] w fun e w' => e = .returned (.tuple #[.int .i64 0, .bool false]) ∧ w' = w := fun w => by
    have h := refOf u w hu.1 hu.2
    rw [hof] at h
    exact h
  replace HO := Lib.hid HO
  have HU : ∀ w, Calls Try.prog 49 #[.int .u32 h] w fun e w' => e = .returned (.tuple #[.int .i64 2, .int .i64 n, .int .i64 (s : Int), .bool true]) ∧ w' = w := fun w => by
    have h := refUnhead h w hh0.1 hh0.2
    rw [hun] at h
    exact h
  have HW : ∀ w, Calls Try.prog 51 #[.int .u32 h] w fun e w' => e = .returned (.tuple #[.int .i64 (wn : Int), .bool true]) ∧ w' = w := fun w => by
    have h := refWords h w hh0.1 hh0.2
    rw [hwn] at h
    exact h
  replace HU := Lib.hid HU
  replace HW := Lib.hid HW
  obtain ⟨hlt, -⟩ := List.getElem?_eq_some_iff.1 hh
  have hc' := cellA hc (.cells #[.int .i64 0, .int .i64 0, .string ⟨#[]⟩, .slice none 0 0] 58)
  have hbw : b < w.heap.size := by simpa using World.block_lt_of_cell? w _ hc
  clear hof hun hwn hh hc
  subst hua
  clear hu
  obtain rfl : wn = 1 := by omega
  obtain ⟨i0, hi, hz0, hz1, hz2⟩ := info_parts (show (Try.prog.info? 5).map (fun i => (i.zero, i.size, i.bytes)) = some (some (.int .u8 0), 1, 1) by kernel_rfl)
  have X0 := Lib.hid (VB.new w 58 #[.int .i64 0, .int .i64 0, .string ⟨#[]⟩, .slice none 0 0])
  have hbyl : (Wd.bys own).length = 4 * own.length := Wd.bys_length own
  have hs4 : s ≤ 4 * own.length := by omega
  obtain ⟨r, hr⟩ : ∃ r, r = decide (Wd.tw ((Wd.bys own).take s) own.length = own) := ⟨_, rfl⟩
  rw [← hr]
  obtain ⟨st, hst⟩ : ∃ r, r = str ((Wd.bys own).take s) := ⟨_, rfl⟩
  rw [← hst]
  replace hr := Lib.hid hr
  replace hst := Lib.hid hst
  go_enter Try.func81, Try.ntmps81
  go_wp2_with fail
  refine (HO.out _).mono ?_
  rintro _ w1 ⟨rfl, hw1⟩
  subst hw1
  clear HO
  go_wp2_with fail
  refine (HU.out _).mono ?_
  rintro _ w1 ⟨rfl, hw1⟩
  subst hw1
  clear HU
  go_wp2_with fail
  refine (HW.out _).mono ?_
  rintro _ w1 ⟨rfl, hw1⟩
  subst hw1
  clear HW
  go_wp2_with (at_make; refine make_row Try.underlying25 hi hz0 hz1 rfl rfl (.tmp 95) (.tmp 95) rfl s rfl rfl (by rw [hz2]; omega) (by omega) ?_; intro w1 R1 b1 z1; have O1 := Lib.hid (Owns.row (B := w.heap.size) R1.out (by simp) (by unfold maxLen; omega)); have B1 := Lib.hid (B.call (B.alloc (B.refl w) (.cells #[.int .i64 0, .int .i64 0, .string ⟨#[]⟩, .slice none 0 0] 58)) b1); have X1 := Lib.hid (X0.out.call b1); clear R1 b1)
  go_loopw [22] (fun q wr => ∃ i : Nat, q = .int .i64 (i : Int) ∧ i ≤ s ∧ Owns 5 .u8 w.heap.size wr (.slice (some ⟨w.heap.size + 1, 0, none⟩) s s) ((Wd.bys own).take i ++ List.replicate (s - i) 0) ∧ VB wr w.heap.size 58 #[.int .i64 0, .int .i64 0, .string ⟨#[]⟩, .slice none 0 0] ∧ Below w.heap.size w wr ∧ w.heap.size + 1 < wr.heap.size)
    (fun q _ => s - (intOf q).toNat)
  case atStart => exact ⟨0, rfl, by omega, by simpa using O1.out, X1.out, B1.out, by simp at z1; omega⟩
  case round =>
    obtain ⟨i, rfl, hi', o5, x5, b5, hz5⟩ := hrel
    by_cases hil : i < s
    · exact absurd hil (by omega)
    · have hie : i = s := by omega
      subst hie
      rw [Nat.sub_self, List.replicate_zero, List.append_nil] at o5
      have so := o5.sees
      have hxl : ((Wd.bys own).take i).length = i := by rw [List.length_take, hbyl]; omega
      have hxb : Byt ((Wd.bys own).take i) := fun n hn => Wd.bys_byt own n (List.mem_of_mem_take hn)
      have HT : ∀ w', Calls Try.prog 106 #[.string (str ((Wd.bys own).take i))] w' fun e w'' => ∃ o, e = .returned o ∧ Owns 22 .u32 w'.heap.size w'' o (Wd.tw ((Wd.bys own).take i) own.length) ∧ Below w'.heap.size w' w'' := fun w' => by
        have h := rfText (str ((Wd.bys own).take i)) w' (by rw [str_size, hxl]; exact hs5)
        rw [byt_str _ hxb, str_size, hxl, hsw] at h
        exact h
      replace HT := Lib.hid HT
      have hlt1 : w.heap.size + 1 < wr.heap.size := hz5
      have hso : ∀ w', GrowS (fun k => k = w.heap.size) wr w' → Sees .u8 w' (.slice (some ⟨w.heap.size + 1, 0, none⟩) i i) ((Wd.bys own).take i) := by
        intro w' hb
        obtain ⟨_, c, e, h1, h2, h3⟩ := so
        rw [hxl] at e
        simp only [Value.slice.injEq] at e
        obtain ⟨rfl, -, rfl⟩ := e
        refine ⟨_, i, by rw [hxl], by omega, by unfold maxLen; omega, fun hne => ?_⟩
        obtain ⟨b', o', he, hcc⟩ := h3 hne
        simp only [Option.some.injEq, Addr.mk.injEq] at he
        obtain ⟨rfl, rfl, -⟩ := he
        exact ⟨_, _, rfl, fun j hj => hb.cell (by omega) (hcc j hj)⟩
      have HSTR : ∀ w', GrowS (fun k => k = w.heap.size) wr w' → (convert 25 9 (.slice (some ⟨w.heap.size + 1, 0, none⟩) i i)).run Try.prog w' = .ok (.string (str ((Wd.bys own).take i))) w' := fun w' hb =>
        run_str (P := Try.prog) (T := 25) (E := 5) (S := 9) Try.underlying25 Try.underlying5 Try.underlying9 (hso w' hb)
      have SV : ∀ w', GrowS (fun k => k = w.heap.size) wr w' → Sees .u32 w' (.slice (some ⟨b, off, none⟩) 0 0) own := by
        intro w' hb
        exact ⟨_, 0, by rw [show own.length = 0 by omega], by omega, by unfold maxLen; omega, fun hne => absurd (List.eq_nil_of_length_eq_zero (by omega)) hne⟩
      have HSM := Lib.hid fun w' (hb : GrowS (fun k => k = w.heap.size) wr w') v' (hs : Sees .u32 w' v' (Wd.tw ((Wd.bys own).take i) own.length)) => rfSame v' _ _ own w' hs (SV w' hb) (by rw [Wd.tw_length]; exact Nat.le_refl _)
      rw [← hr.out] at HSM
      rw [← hst.out] at HT HSTR
      have x0 := x5.cell 0
      have x1 := x5.cell 1
      have x2 := x5.cell 2
      have x3 := x5.cell 3
      have fx0 := x5.free 0
      have fx1 := x5.free 1
      have fx2 := x5.free 2
      have fx3 := x5.free 3
      have lx := x5.lt
      simp at x0 x1 x2 x3
      have B5 := Lib.hid b5
      have HBX : ∀ wT wS, Below wr.drew.heap.size wr.drew wT → Below wT.heap.size wT wS → wS.cell? ⟨w.heap.size, 0, none⟩ = some (.int .i64 0) ∧ wS.cell? ⟨w.heap.size, 1, none⟩ = some (.int .i64 0) ∧ wS.cell? ⟨w.heap.size, 2, none⟩ = some (.string ⟨#[]⟩) ∧ wS.cell? ⟨w.heap.size, 3, none⟩ = some (.slice none 0 0) ∧ wS.frozen? ⟨w.heap.size, 0, none⟩ = false ∧ wS.frozen? ⟨w.heap.size, 1, none⟩ = false ∧ wS.frozen? ⟨w.heap.size, 2, none⟩ = false ∧ wS.frozen? ⟨w.heap.size, 3, none⟩ = false ∧ w.heap.size < wS.heap.size := by
        intro wT wS bT bS
        have XS := VB.call (VB.call (w := wr.drew) x5 bT) bS
        exact ⟨XS.cell 0, XS.cell 1, XS.cell 2, XS.cell 3, XS.free 0, XS.free 1, XS.free 2, XS.free 3, XS.lt⟩
      replace HBX := Lib.hid HBX
      replace hol := Lib.hid hol
      clear o5 so b5 x5 hso SV hr hst
      go_wp2_with fail
      go_region_held3 (fun w' => GrowS (fun k => k = w.heap.size) wr w')
        (first
          | exact (GrowS.refl _ wr).drew
          | exact GrowS.below (by assumption) bT
          | exact GrowS.below (by assumption) bS
          | exact GrowS.set (GrowS.set (GrowS.set (GrowS.set (GrowS.below (GrowS.below (GrowS.refl (fun k => k = w.heap.size) wr).drew bT) bS) (b := w.heap.size) rfl _) (b := w.heap.size) rfl _) (b := w.heap.size) rfl _) (b := w.heap.size) rfl _)
        ((first
          | (go_at_call 106; with_reducible refine (HT.out _).mono ?_; rintro _ wT ⟨oT, rfl, owT, bT⟩; obtain ⟨AT, kT, rfl, _, _⟩ := owT.sees.len)
          | (go_at_call 108; with_reducible refine (HSM.out _ (by assumption) _ owT.sees).mono ?_; rintro _ wS ⟨rfl, bS⟩; obtain ⟨z0, z1, z2, z3, zf0, zf1, zf2, zf3, zl⟩ := HBX.out _ _ bT bS)))
      have hwr : IntKind.i64.wrap ((next : Int) + 1) = ((next + 1 : Nat) : Int) := by rw [IntKind.wrap_i64]; omega
      go_wp2_with fail
      refine bodyPost_ret (v := .tuple #[.agg #[.int .i64 2, .int .i64 0, .string st, .slice none 0 0], .int .i64 ((next + 1 : Nat) : Int), .bool r]) (by simp [results, Try.results81, go_sem, z0, z1, z2, z3, hwr]) rfl ⟨rfl, ?_⟩
      exact ((((B.call (w := w) (W := wr.drew) B5.out.drew (B.call bT bS)).setCell (p := ⟨w.heap.size, 0, none⟩) (Nat.le_refl _) _).setCell (p := ⟨w.heap.size, 1, none⟩) (Nat.le_refl _) _).setCell (p := ⟨w.heap.size, 2, none⟩) (Nat.le_refl _) _).setCell (p := ⟨w.heap.size, 3, none⟩) (Nat.le_refl _) _

def Wd.rfThing (K n : Int) (ok : Bool) (q : Option (List Tr × Nat)) : Option (Tr × Nat) :=
  match q with
  | none => none
  | some (ts, n') => if ok = true then some (.mk K n ⟨#[]⟩ ts, n') else none

theorem app4 {P : Program} {T : TypeId} {bytes : Nat} {z : Value} {i : TypeInfo} (hT : P.underlying T = some (.slice 58)) (hi : P.info? 58 = some i) (hz : i.zero = some z) (hzs : z.cells.size = 4) (hsz : i.size = 4) (hby : i.bytes = bytes)
    {ops : Array Oper} {rest : List Oper} {o : Oper} {a : Act} {Q : Exit → Act → World → Prop} (hgd : o.guard = none) (s x : Operand)
    (ho : o.op = .call { callee := .builtin .append, args := #[s, x], argTypes := #[T, T] })
    {lo lo' : Nat} {w : World} {v : Value} {ts : List Tr} {t : Tr} {A : Option Addr} {c : Nat} {g : Nat} (hg : g = w.heap.size) (hs : a.eval s = v) (hx : a.eval x = .slice (some ⟨g, 0, none⟩) 1 1) (h : RowT lo w v ts) (ht : Tr.at (fun b off => lo' ≤ b ∧ b < w.heap.size ∧ Fresh w b off) w t (.agg #[.int .i64 t.k, .int .i64 t.n, .string t.s, .slice A t.l.length c]))
    (hlo : lo ≤ lo') (hv : ∀ g, v.ownBlock = some g → g < lo') (hlw : lo ≤ w.heap.size) (hlen : (ts.length + 1) * bytes ≤ 140737488355328) (hml : ts.length + 1 ≤ maxLen)
    (hk : ∀ v' w', RowT lo w' v' (ts ++ [t]) → (w.alloc (.cells #[.int .i64 t.k, .int .i64 t.n, .string t.s, .slice A t.l.length c] 58)).grownBy w' v.ownBlock → wpList P ops Q rest (a.put o.dst v') w') :
    wpList P ops Q (o :: rest) a (w.alloc (.cells #[.int .i64 t.k, .int .i64 t.n, .string t.s, .slice A t.l.length c] 58)) := by
  subst hg
  refine wpList_plain hgd fun K' hK' => ?_
  obtain ⟨v', w', hrun, h1, h2⟩ := run_app4 (ty := o.type) hT hi hz hzs hsz hby h ht hlo hv hlw hlen hml
  unfold Oper.wp execOp
  simp only [ho, resolve, invoke, builtin, Sem.run_bind, Sem.run_pure, Result.andThen_ok, List.map_toArray, List.map_cons, List.map_nil, hs, hx, hrun]
  exact hK' _ _ (hk v' w' h1 h2)

theorem Wd.rfAcc_bound {N : Nat} {f : Int → Nat → Option (Tr × Nat)} (hf : ∀ u n t n', n ≤ N → f u n = some (t, n') → n' ≤ N) : ∀ (us : List Int) (acc : List Tr) (n : Nat) (ts : List Tr) (n' : Nat), n ≤ N → Wd.rfAcc f us acc n = some (ts, n') → n' ≤ N := by
  intro us
  induction us with
  | nil =>
    intro acc n ts n' hn h
    simp only [Wd.rfAcc, Option.some.injEq, Prod.mk.injEq] at h
    obtain ⟨_, rfl⟩ := h
    exact hn
  | cons u us ih =>
    intro acc n ts n' hn h
    rw [Wd.rfAcc] at h
    cases hq : f u n with
    | none => rw [hq] at h; cases h
    | some r =>
      rw [hq] at h
      exact ih _ _ _ _ (hf _ _ _ _ hn hq) h
theorem Wd.rf_bound (ls : List Int) (a : Int) : ∀ (g : Nat) (u : Int) (n : Nat) (t : Tr) (n' : Nat), n ≤ ls.length → Wd.rf ls a g u n = some (t, n') → n' ≤ ls.length := by
  intro g
  induction g with
  | zero =>
    intro u n t n' hn h
    rw [Wd.rf] at h
    split at h
    · simp only [Option.some.injEq, Prod.mk.injEq] at h
      obtain ⟨_, rfl⟩ := h
      exact hn
    · cases h
  | succ g ih =>
    intro u n t n' hn h
    rw [Wd.rf] at h
    split at h
    · simp only [Option.some.injEq, Prod.mk.injEq] at h
      obtain ⟨_, rfl⟩ := h
      exact hn
    · split at h
      · cases h
      · split at h
        · cases h
        · unfold Wd.rfBody at h
          split at h
          · cases h
          · rename_i hw
            split at h
            · split at h
              · simp only [Option.some.injEq, Prod.mk.injEq] at h
                obtain ⟨_, rfl⟩ := h
                omega
              · cases h
            · split at h
              · cases h
              · rename_i ts1 n1 h1
                split at h
                · simp only [Option.some.injEq, Prod.mk.injEq] at h
                  obtain ⟨_, rfl⟩ := h
                  exact Wd.rfAcc_bound ih _ _ _ _ _ (by omega) h1
                · cases h

set_option maxHeartbeats 8000000 in
set_option maxRecDepth 100000 in
theorem rf_fields3 (u : Int) (d next : Nat) (b off : Nat) (ls : List Int) (vc : Nat) (a : Int) (w : World) (h : Int) (n : Int) (s : Nat) (wn : Nat) (hof : Wd.of u = (0, false)) (hua : u = a + 4 * next) (hh : ls[next]? = some h)
    (hun : Wd.unhead h = (0, n, (s : Int), true)) (hwn : Wd.words h = ((wn : Int), true)) (hfit : next + wn ≤ ls.length) (hw1 : 1 ≤ wn) (hw5 : wn ≤ 5000) (hvc : ls.length ≤ vc) (_hvm : vc ≤ 9223372036854775807) (hcq : ¬ vc = next + 1) (hs5 : s ≤ 4096)
    (own : List Int) (hol : own.length = wn - 1) (hou : Hid (∀ x ∈ own, 0 ≤ x ∧ x < 4294967296)) (hoc : Hid (∀ j (hj : j < own.length), w.cell? ⟨b, off + (next + 1) + j, none⟩ = some (.int .u32 own[j]))) (f : Int → Nat → Option (Tr × Nat)) (g : Nat) (hdg : d + 1 + g = 201) (hf : Hid (f = fun u n => Wd.rf ls a g u n)) (HI : Hid (RfHyp g)) (HB : Hid (∀ u n t n', n ≤ ls.length → f u n = some (t, n') → n' ≤ ls.length)) (HS : Hid (Sees .u32 w (.slice (some ⟨b, off, none⟩) ls.length vc) ls)) (HL : Hid (∀ x ∈ ls, 0 ≤ x ∧ x < 4294967296))
    (hc : w.cell? ⟨b, off + next, none⟩ = some (.int .u32 h)) (hu : 0 ≤ u ∧ u < 4294967296) (hh0 : 0 ≤ h ∧ h < 4294967296) (_hd : d ≤ 200) (hl : ls.length ≤ 1048576) (h0 : 0 ≤ a) (h1 : a ≤ 2147483648) :
    Calls Try.prog 81 #[.slice (some ⟨b, off, none⟩) ls.length vc, .int .u32 a, .int .u32 u, .int .i64 (next : Int), .int .i64 (d : Int)] w fun e w' => RfPost w (Wd.rfThing 3 n (decide (0 < s)) (Wd.rfAcc f own [] (next + wn))) e w' := by
  have HO : ∀ w, Calls Try.prog 45 #[.int .u32 u] w fun e w' => e = .returned (.tuple #[.int .i64 0, .bool false]) ∧ w' = w := fun w => by
    have h := refOf u w hu.1 hu.2
    rw [hof] at h
    exact h
  replace HO := Lib.hid HO
  have HU : ∀ w, Calls Try.prog 49 #[.int .u32 h] w fun e w' => e = .returned (.tuple #[.int .i64 0, .int .i64 n, .int .i64 (s : Int), .bool true]) ∧ w' = w := fun w => by
    have h := refUnhead h w hh0.1 hh0.2
    rw [hun] at h
    exact h
  have HW : ∀ w, Calls Try.prog 51 #[.int .u32 h] w fun e w' => e = .returned (.tuple #[.int .i64 (wn : Int), .bool true]) ∧ w' = w := fun w => by
    have h := refWords h w hh0.1 hh0.2
    rw [hwn] at h
    exact h
  replace HU := Lib.hid HU
  replace HW := Lib.hid HW
  obtain ⟨hlt, -⟩ := List.getElem?_eq_some_iff.1 hh
  have hc' := cellA hc (.cells #[.int .i64 0, .int .i64 0, .string ⟨#[]⟩, .slice none 0 0] 58)
  have hbw : b < w.heap.size := by simpa using World.block_lt_of_cell? w _ hc
  clear hof hun hwn hh hc
  subst hua
  clear hu
  obtain ⟨iV, hiV, hzV, hsV, hbV⟩ := info_parts (show (Try.prog.info? 58).map (fun i => (i.zero, i.size, i.bytes)) = some (some (.agg #[.int .i64 0, .int .i64 0, .string ⟨#[]⟩, .slice none 0 0]), 4, 56) by kernel_rfl)
  have X0 := Lib.hid ((VB.new w 58 #[.int .i64 0, .int .i64 0, .string ⟨#[]⟩, .slice none 0 0]).alloc (.cells #[.int .i64 3, .int .i64 n, .string ⟨#[]⟩, .slice none 0 0] 58))
  have V0 : VB ((w.alloc (.cells #[.int .i64 0, .int .i64 0, .string ⟨#[]⟩, .slice none 0 0] 58)).alloc (.cells #[.int .i64 3, .int .i64 n, .string ⟨#[]⟩, .slice none 0 0] 58)) (w.heap.size + 1) 58 #[.int .i64 3, .int .i64 n, .string ⟨#[]⟩, .slice none 0 0] := by
    simpa using VB.new (w.alloc (.cells #[.int .i64 0, .int .i64 0, .string ⟨#[]⟩, .slice none 0 0] 58)) 58 #[.int .i64 3, .int .i64 n, .string ⟨#[]⟩, .slice none 0 0]
  have B0 := Lib.hid (B.alloc (B.alloc (B.refl w) (.cells #[.int .i64 0, .int .i64 0, .string ⟨#[]⟩, .slice none 0 0] 58)) (.cells #[.int .i64 3, .int .i64 n, .string ⟨#[]⟩, .slice none 0 0] 58))
  replace V0 := Lib.hid V0
  obtain ⟨q, hq⟩ : ∃ q, q = Wd.rfAcc f own [] (next + wn) := ⟨_, rfl⟩
  rw [← hq]
  replace hq := Lib.hid hq
  obtain ⟨okb, hok⟩ : ∃ r, r = decide (0 < s) := ⟨_, rfl⟩
  rw [← hok]
  replace hok := Lib.hid hok
  go_enter Try.func81, Try.ntmps81
  go_wp2_with fail
  refine (HO.out _).mono ?_
  rintro _ w1 ⟨rfl, hw1⟩
  subst hw1
  clear HO
  go_wp2_with fail
  refine (HU.out _).mono ?_
  rintro _ w1 ⟨rfl, hw1⟩
  subst hw1
  clear HU
  go_wp2_with fail
  refine (HW.out _).mono ?_
  rintro _ w1 ⟨rfl, hw1⟩
  subst hw1
  clear HW
  go_wp2_with fail
  rw [show next + wn - (next + 1) = wn - 1 by omega]
  go_loopw [24, 25] (fun nn q2 wr => ∃ (i : Nat) (ts : List Tr) (vL : Value) (nx : Nat), q2 = .int .i64 (i : Int) ∧ nn = .int .i64 (nx : Int) ∧ i ≤ own.length ∧ ts.length = i ∧ VB wr (w.heap.size + 1) 58 #[.int .i64 3, .int .i64 n, .string ⟨#[]⟩, vL] ∧ RowT (w.heap.size + 2) wr vL ts ∧ VB wr w.heap.size 58 #[.int .i64 0, .int .i64 0, .string ⟨#[]⟩, .slice none 0 0] ∧ Below w.heap.size w wr ∧ w.heap.size + 2 ≤ wr.heap.size ∧ q = Wd.rfAcc f (own.drop i) ts nx ∧ nx ≤ ls.length)
    (fun _ q2 _ => own.length - (intOf q2).toNat)
  case atStart => exact ⟨0, [], _, next + wn, rfl, by (first | rfl | simp), by omega, rfl, V0.out, RowT.nil _ _, X0.out, B0.out, by simp, by rw [hq.out, List.drop_zero], by omega⟩
  case round =>
    obtain ⟨i, ts, vL, nx, rfl, rfl, hi, htl, v5, row5, x5, b5, hz5, hacc, hnx⟩ := hrel
    obtain ⟨AL, cL, rfl, hcL1, hcL2⟩ := row5.len
    rw [htl] at v5 row5 hcL1
    clear V0 X0 B0
    by_cases hil : i < own.length
    · have c5 : wr.cell? ⟨b, off + (next + 1) + i, none⟩ = some (.int .u32 own[i]) := cellK b5 (hoc.out i hil)
      have hoi := hou.out _ (List.getElem_mem hil)
      have l3 := v5.cell 3
      have l3f := v5.free 3
      have l3l := v5.lt
      simp at l3
      have x0 := x5.cell 0
      have x1 := x5.cell 1
      have x2 := x5.cell 2
      have x3 := x5.cell 3
      have fx0 := x5.free 0
      have fx1 := x5.free 1
      have fx2 := x5.free 2
      have fx3 := x5.free 3
      have lx := x5.lt
      simp at x0 x1 x2 x3
      have hcall := HI.out own[i] (d + 1) nx (some ⟨b, off, none⟩) ls vc a wr hdg (HS.out.below b5 (Nat.le_refl _)) hoi HL.out hnx hl h0 h1
      have hfe : f own[i] nx = Wd.rf ls a g own[i] nx := by rw [hf.out]
      rw [← hfe, show ((d + 1 : Nat) : Int) = (d : Int) + 1 by omega] at hcall
      replace hcall := Lib.hid hcall
      have V5 := Lib.hid v5
      have ROW := Lib.hid row5
      have X5 := Lib.hid x5
      have B5 := Lib.hid b5
      replace hacc := Lib.hid hacc
      replace hoi := Lib.hid hoi
      replace hfe := Lib.hid hfe
      clear v5 row5 x5 b5
      go_wp2_with fail
      refine hcall.out.mono ?_
      rintro _ w6 ⟨v6, t6, n6, ok6, rfl, at6, b6, res6⟩
      obtain ⟨A6, k6, rfl, _, _, _⟩ := Tr.at_agg at6
      have X6 := X5.out.call b6
      have V6 := V5.out.call b6
      have ROW6 := ROW.out.keep b6.size (fun k _ hk => b6.block k hk)
      have B6 := Lib.hid (B.call B5.out b6)
      have y0 := X6.cell 0
      have y1 := X6.cell 1
      have y2 := X6.cell 2
      have y3 := X6.cell 3
      have gy0 := X6.free 0
      have gy1 := X6.free 1
      have gy2 := X6.free 2
      have gy3 := X6.free 3
      have ly := X6.lt
      simp at y0 y1 y2 y3
      have m3 := V6.cell 3
      have m3f := V6.free 3
      have m3l := V6.lt
      simp at m3
      have hrlt := ROW.out.lt
      replace hrlt := Lib.hid hrlt
      replace X6 := Lib.hid X6
      replace V6 := Lib.hid V6
      replace ROW6 := Lib.hid ROW6
      replace res6 := Lib.hid res6
      clear x0 x1 x2 x3 fx0 fx1 fx2 fx3 lx l3 l3f l3l c5
      cases ok6
      · have hqn : q = none := by
          rw [hacc.out]
          refine Wd.rfAcc_none hil ?_
          cases hq2 : f own[i] nx with
          | none => rfl
          | some r =>
            have h := res6.out
            rw [hq2] at h
            obtain ⟨h, _⟩ := h
            cases h
        clear hacc hfe res6
        go_wp2_with fail
        refine bodyPost_ret (v := .tuple #[.agg #[.int .i64 0, .int .i64 0, .string ⟨#[]⟩, .slice none 0 0], .int .i64 0, .bool false]) (by simp [results, Try.results81, go_sem, y0, y1, y2, y3, ly]) rfl ⟨_, .mk 0 0 ⟨#[]⟩ [], 0, false, rfl, Tr.at_leaf _ _ _ _ _, ?_, ?_⟩
        · exact B.alloc ((((B6.out.setCell (p := ⟨w.heap.size, 0, none⟩) (Nat.le_refl _) _).setCell (p := ⟨w.heap.size, 1, none⟩) (Nat.le_refl _) _).setCell (p := ⟨w.heap.size, 2, none⟩) (Nat.le_refl _) _).setCell (p := ⟨w.heap.size, 3, none⟩) (Nat.le_refl _) _) _
        · rw [hqn]; rfl
      · have haft : ∀ o1 o2 w7, ((w6.alloc o1).alloc o2).grownBy w7 (Value.slice AL i cL).ownBlock → w7.cell? ⟨w.heap.size + 1, 3, none⟩ = some (.slice AL i cL) ∧ w7.frozen? ⟨w.heap.size + 1, 3, none⟩ = false ∧ w.heap.size + 1 < w7.heap.size :=
          fun o1 o2 w7 g7 => ⟨grCell g7 (cellA (cellA m3 _) _) (fun e => by have := (hrlt.out _ e.symm).1; omega), (grFrz g7 (cellA (cellA m3 _) _) (fun e => by have := (hrlt.out _ e.symm).1; omega)).trans ((frzA (cellA m3 _) _).trans ((frzA m3 _).trans m3f)), by have := g7.size; simp at this; omega⟩
        have hrow6 : ∀ o1, RowT (w.heap.size + 2) (w6.alloc o1) (.slice AL i cL) ts := fun o1 => ROW6.out.keep (by simp) (fun k hk1 hk2 => Below.heap_alloc w6 o1 k hk2)
        have hat6 : ∀ o1, Tr.at (fun b off => wr.heap.size ≤ b ∧ b < (w6.alloc o1).heap.size ∧ Fresh (w6.alloc o1) b off) (w6.alloc o1) t6 (.agg #[.int .i64 t6.k, .int .i64 t6.n, .string t6.s, .slice A6 t6.l.length k6]) := fun o1 => Tr.at_mono (Tr.at_alloc at6 o1) (fun b off h => ⟨h.1, by have := h.2.1; simp; omega, h.2.2.keep (Below.heap_alloc w6 o1 b h.2.1)⟩)
        have hb56 : (ts.length + 1) * 56 ≤ 140737488355328 ∧ ts.length + 1 ≤ maxLen := by unfold maxLen; omega
        have hz6 := b6.size
        replace haft := Lib.hid haft
        replace hrow6 := Lib.hid hrow6
        replace hat6 := Lib.hid hat6
        clear at6 m3f
        go_wp2_with (at_builtin; refine app4 (lo := w.heap.size + 2) (lo' := wr.heap.size) Try.underlying56 hiV hzV (by rfl) hsV hbV rfl (.tmp 158) (.tmp 160) rfl (by simp) rfl rfl (hrow6.out _) (hat6.out _) hz5 (fun g hg => (hrlt.out g hg).2) (by simp; omega) hb56.1 hb56.2 ?_; intro v7 w7 row7 g7; obtain ⟨A7, k7, rfl, _, _⟩ := row7.len; rw [show (ts ++ [t6]).length = i + 1 by simp [htl]] at row7 ⊢; obtain ⟨l38, l39, l37⟩ := haft.out _ _ _ g7)
        go_roundw
        case measure => simp only [intOf]; omega
        case rel =>
          have hres : f own[i] nx = some (t6, n6) := by
            have h := res6.out
            cases hq2 : f own[i] nx with
            | none => rw [hq2] at h; cases h
            | some r =>
              obtain ⟨t', n'⟩ := r
              rw [hq2] at h
              obtain ⟨_, rfl, rfl⟩ := h
              rfl
          refine ⟨i + 1, ts ++ [t6], .slice A7 (i + 1) k7, n6, by simp, rfl, by omega, by simp [htl], ?_, ?_, ?_, ?_, ?_, ?_, HB.out _ _ _ _ hnx hres⟩
          · have := ((VB.alloc (VB.alloc V6.out _) _).grownAny g7 (fun g hg => by have := (hrlt.out g hg).1; omega)).set 3 (.slice A7 (i + 1) k7)
            simpa using this
          · exact row7.keep (by simp [World.setCell]) (fun k hk _ => Below.heap_setCell w7 ⟨w.heap.size + 1, 3, none⟩ _ k (by simp only; omega))
          · exact ((VB.alloc (VB.alloc X6.out _) _).grownAny g7 (fun g hg => by have := (hrlt.out g hg).1; omega)).far _ _ (by omega) _
          · exact ((B.alloc (B.alloc B6.out _) _).grown g7 (by have := B6.out.size; simp; omega) (fun j hj => by have := (hrlt.out j hj).1; omega)).setCell (p := ⟨w.heap.size + 1, 3, none⟩) (by simp) _
          · have h2 := g7.size; simp [World.setCell] at h2 ⊢; omega
          · rw [hacc.out, Wd.rfAcc_some hil hres]
    · have hie : i = own.length := by omega
      have hres : q = some (ts, nx) := by rw [hacc, List.drop_eq_nil_of_le (by omega), Wd.rfAcc]
      clear hacc
      rw [← htl] at v5 row5
      by_cases hsz : 0 < s
      · have w0 := v5.cell 0
        have w1 := v5.cell 1
        have w2 := v5.cell 2
        have w3 := v5.cell 3
        have wl := v5.lt
        have x0 := x5.cell 0
        have x1 := x5.cell 1
        have x2 := x5.cell 2
        have x3 := x5.cell 3
        have fx0 := x5.free 0
        have fx1 := x5.free 1
        have fx2 := x5.free 2
        have fx3 := x5.free 3
        have lx := x5.lt
        simp at w0 w1 w2 w3 x0 x1 x2 x3
        replace row5 := Lib.hid row5
        have B5 := Lib.hid b5
        replace hres := Lib.hid hres
        clear v5 x5 b5
        obtain rfl : okb = true := by rw [hok.out]; simp; omega
        clear hok
        go_wp2_with fail
        refine bodyPost_ret (v := .tuple #[.agg #[.int .i64 3, .int .i64 n, .string ⟨#[]⟩, .slice AL ts.length cL], .int .i64 (nx : Int), .bool true]) (by simp [results, Try.results81, go_sem, x0, x1, x2, x3]; omega) rfl ⟨_, .mk 3 n ⟨#[]⟩ ts, nx, true, rfl, ?_, ?_, ?_⟩
        · exact Tr.at_mono ((row5.out.keep (w' := _) (by simp [World.setCell]) (fun k hk _ => (Below.heap_setCell _ _ _ k (by simp only; omega)).trans ((Below.heap_setCell _ _ _ k (by simp only; omega)).trans ((Below.heap_setCell _ _ _ k (by simp only; omega)).trans (Below.heap_setCell _ _ _ k (by simp only; omega)))))).tree 3 n ⟨#[]⟩) (fun b off h => ⟨by omega, h.2.1, h.2.2⟩)
        · exact (((B5.out.setCell (p := ⟨w.heap.size, 0, none⟩) (Nat.le_refl _) _).setCell (p := ⟨w.heap.size, 1, none⟩) (Nat.le_refl _) _).setCell (p := ⟨w.heap.size, 2, none⟩) (Nat.le_refl _) _).setCell (p := ⟨w.heap.size, 3, none⟩) (Nat.le_refl _) _
        · rw [hres.out]; exact ⟨rfl, rfl, rfl⟩
      · have w0 := v5.cell 0
        have w1 := v5.cell 1
        have w2 := v5.cell 2
        have w3 := v5.cell 3
        have wl := v5.lt
        have x0 := x5.cell 0
        have x1 := x5.cell 1
        have x2 := x5.cell 2
        have x3 := x5.cell 3
        have fx0 := x5.free 0
        have fx1 := x5.free 1
        have fx2 := x5.free 2
        have fx3 := x5.free 3
        have lx := x5.lt
        simp at w0 w1 w2 w3 x0 x1 x2 x3
        replace row5 := Lib.hid row5
        have B5 := Lib.hid b5
        replace hres := Lib.hid hres
        clear v5 x5 b5
        obtain rfl : okb = false := by rw [hok.out]; simp; omega
        clear hok
        go_wp2_with fail
        refine bodyPost_ret (v := .tuple #[.agg #[.int .i64 3, .int .i64 n, .string ⟨#[]⟩, .slice AL ts.length cL], .int .i64 (nx : Int), .bool false]) (by simp [results, Try.results81, go_sem, x0, x1, x2, x3]; omega) rfl ⟨_, .mk 3 n ⟨#[]⟩ ts, nx, false, rfl, ?_, ?_, ?_⟩
        · exact Tr.at_mono ((row5.out.keep (w' := _) (by simp [World.setCell]) (fun k hk _ => (Below.heap_setCell _ _ _ k (by simp only; omega)).trans ((Below.heap_setCell _ _ _ k (by simp only; omega)).trans ((Below.heap_setCell _ _ _ k (by simp only; omega)).trans (Below.heap_setCell _ _ _ k (by simp only; omega)))))).tree 3 n ⟨#[]⟩) (fun b off h => ⟨by omega, h.2.1, h.2.2⟩)
        · exact (((B5.out.setCell (p := ⟨w.heap.size, 0, none⟩) (Nat.le_refl _) _).setCell (p := ⟨w.heap.size, 1, none⟩) (Nat.le_refl _) _).setCell (p := ⟨w.heap.size, 2, none⟩) (Nat.le_refl _) _).setCell (p := ⟨w.heap.size, 3, none⟩) (Nat.le_refl _) _
        · rw [hres.out]; rfl

set_option maxHeartbeats 8000000 in
set_option maxRecDepth 100000 in
theorem rf_fields4 (u : Int) (d next : Nat) (b off : Nat) (ls : List Int) (vc : Nat) (a : Int) (w : World) (h : Int) (n : Int) (s : Nat) (wn : Nat) (hof : Wd.of u = (0, false)) (hua : u = a + 4 * next) (hh : ls[next]? = some h)
    (hun : Wd.unhead h = (1, n, (s : Int), true)) (hwn : Wd.words h = ((wn : Int), true)) (hfit : next + wn ≤ ls.length) (hw1 : 1 ≤ wn) (hw5 : wn ≤ 5000) (hvc : ls.length ≤ vc) (_hvm : vc ≤ 9223372036854775807) (hcq : ¬ vc = next + 1) (_hs5 : s ≤ 4096)
    (own : List Int) (hol : own.length = wn - 1) (hou : Hid (∀ x ∈ own, 0 ≤ x ∧ x < 4294967296)) (hoc : Hid (∀ j (hj : j < own.length), w.cell? ⟨b, off + (next + 1) + j, none⟩ = some (.int .u32 own[j]))) (f : Int → Nat → Option (Tr × Nat)) (g : Nat) (hdg : d + 1 + g = 201) (hf : Hid (f = fun u n => Wd.rf ls a g u n)) (HI : Hid (RfHyp g)) (HB : Hid (∀ u n t n', n ≤ ls.length → f u n = some (t, n') → n' ≤ ls.length)) (HS : Hid (Sees .u32 w (.slice (some ⟨b, off, none⟩) ls.length vc) ls)) (HL : Hid (∀ x ∈ ls, 0 ≤ x ∧ x < 4294967296))
    (hc : w.cell? ⟨b, off + next, none⟩ = some (.int .u32 h)) (hu : 0 ≤ u ∧ u < 4294967296) (hh0 : 0 ≤ h ∧ h < 4294967296) (_hd : d ≤ 200) (hl : ls.length ≤ 1048576) (h0 : 0 ≤ a) (h1 : a ≤ 2147483648) :
    Calls Try.prog 81 #[.slice (some ⟨b, off, none⟩) ls.length vc, .int .u32 a, .int .u32 u, .int .i64 (next : Int), .int .i64 (d : Int)] w fun e w' => RfPost w (Wd.rfThing 4 n true (Wd.rfAcc f own [] (next + wn))) e w' := by
  have HO : ∀ w, Calls Try.prog 45 #[.int .u32 u] w fun e w' => e = .returned (.tuple #[.int .i64 0, .bool false]) ∧ w' = w := fun w => by
    have h := refOf u w hu.1 hu.2
    rw [hof] at h
    exact h
  replace HO := Lib.hid HO
  have HU : ∀ w, Calls Try.prog 49 #[.int .u32 h] w fun e w' => e = .returned (.tuple #[.int .i64 1, .int .i64 n, .int .i64 (s : Int), .bool true]) ∧ w' = w := fun w => by
    have h := refUnhead h w hh0.1 hh0.2
    rw [hun] at h
    exact h
  have HW : ∀ w, Calls Try.prog 51 #[.int .u32 h] w fun e w' => e = .returned (.tuple #[.int .i64 (wn : Int), .bool true]) ∧ w' = w := fun w => by
    have h := refWords h w hh0.1 hh0.2
    rw [hwn] at h
    exact h
  replace HU := Lib.hid HU
  replace HW := Lib.hid HW
  obtain ⟨hlt, -⟩ := List.getElem?_eq_some_iff.1 hh
  have hc' := cellA hc (.cells #[.int .i64 0, .int .i64 0, .string ⟨#[]⟩, .slice none 0 0] 58)
  have hbw : b < w.heap.size := by simpa using World.block_lt_of_cell? w _ hc
  clear hof hun hwn hh hc
  subst hua
  clear hu
  obtain ⟨iV, hiV, hzV, hsV, hbV⟩ := info_parts (show (Try.prog.info? 58).map (fun i => (i.zero, i.size, i.bytes)) = some (some (.agg #[.int .i64 0, .int .i64 0, .string ⟨#[]⟩, .slice none 0 0]), 4, 56) by kernel_rfl)
  have X0 := Lib.hid ((VB.new w 58 #[.int .i64 0, .int .i64 0, .string ⟨#[]⟩, .slice none 0 0]).alloc (.cells #[.int .i64 4, .int .i64 n, .string ⟨#[]⟩, .slice none 0 0] 58))
  have V0 : VB ((w.alloc (.cells #[.int .i64 0, .int .i64 0, .string ⟨#[]⟩, .slice none 0 0] 58)).alloc (.cells #[.int .i64 4, .int .i64 n, .string ⟨#[]⟩, .slice none 0 0] 58)) (w.heap.size + 1) 58 #[.int .i64 4, .int .i64 n, .string ⟨#[]⟩, .slice none 0 0] := by
    simpa using VB.new (w.alloc (.cells #[.int .i64 0, .int .i64 0, .string ⟨#[]⟩, .slice none 0 0] 58)) 58 #[.int .i64 4, .int .i64 n, .string ⟨#[]⟩, .slice none 0 0]
  have B0 := Lib.hid (B.alloc (B.alloc (B.refl w) (.cells #[.int .i64 0, .int .i64 0, .string ⟨#[]⟩, .slice none 0 0] 58)) (.cells #[.int .i64 4, .int .i64 n, .string ⟨#[]⟩, .slice none 0 0] 58))
  replace V0 := Lib.hid V0
  obtain ⟨q, hq⟩ : ∃ q, q = Wd.rfAcc f own [] (next + wn) := ⟨_, rfl⟩
  rw [← hq]
  replace hq := Lib.hid hq
  go_enter Try.func81, Try.ntmps81
  go_wp2_with fail
  refine (HO.out _).mono ?_
  rintro _ w1 ⟨rfl, hw1⟩
  subst hw1
  clear HO
  go_wp2_with fail
  refine (HU.out _).mono ?_
  rintro _ w1 ⟨rfl, hw1⟩
  subst hw1
  clear HU
  go_wp2_with fail
  refine (HW.out _).mono ?_
  rintro _ w1 ⟨rfl, hw1⟩
  subst hw1
  clear HW
  go_wp2_with fail
  rw [show next + wn - (next + 1) = wn - 1 by omega]
  go_loopw [24, 25] (fun nn q2 wr => ∃ (i : Nat) (ts : List Tr) (vL : Value) (nx : Nat), q2 = .int .i64 (i : Int) ∧ nn = .int .i64 (nx : Int) ∧ i ≤ own.length ∧ ts.length = i ∧ VB wr (w.heap.size + 1) 58 #[.int .i64 4, .int .i64 n, .string ⟨#[]⟩, vL] ∧ RowT (w.heap.size + 2) wr vL ts ∧ VB wr w.heap.size 58 #[.int .i64 0, .int .i64 0, .string ⟨#[]⟩, .slice none 0 0] ∧ Below w.heap.size w wr ∧ w.heap.size + 2 ≤ wr.heap.size ∧ q = Wd.rfAcc f (own.drop i) ts nx ∧ nx ≤ ls.length)
    (fun _ q2 _ => own.length - (intOf q2).toNat)
  case atStart => exact ⟨0, [], _, next + wn, rfl, by (first | rfl | simp), by omega, rfl, V0.out, RowT.nil _ _, X0.out, B0.out, by simp, by rw [hq.out, List.drop_zero], by omega⟩
  case round =>
    obtain ⟨i, ts, vL, nx, rfl, rfl, hi, htl, v5, row5, x5, b5, hz5, hacc, hnx⟩ := hrel
    obtain ⟨AL, cL, rfl, hcL1, hcL2⟩ := row5.len
    rw [htl] at v5 row5 hcL1
    clear V0 X0 B0
    by_cases hil : i < own.length
    · have c5 : wr.cell? ⟨b, off + (next + 1) + i, none⟩ = some (.int .u32 own[i]) := cellK b5 (hoc.out i hil)
      have hoi := hou.out _ (List.getElem_mem hil)
      have l3 := v5.cell 3
      have l3f := v5.free 3
      have l3l := v5.lt
      simp at l3
      have x0 := x5.cell 0
      have x1 := x5.cell 1
      have x2 := x5.cell 2
      have x3 := x5.cell 3
      have fx0 := x5.free 0
      have fx1 := x5.free 1
      have fx2 := x5.free 2
      have fx3 := x5.free 3
      have lx := x5.lt
      simp at x0 x1 x2 x3
      have hcall := HI.out own[i] (d + 1) nx (some ⟨b, off, none⟩) ls vc a wr hdg (HS.out.below b5 (Nat.le_refl _)) hoi HL.out hnx hl h0 h1
      have hfe : f own[i] nx = Wd.rf ls a g own[i] nx := by rw [hf.out]
      rw [← hfe, show ((d + 1 : Nat) : Int) = (d : Int) + 1 by omega] at hcall
      replace hcall := Lib.hid hcall
      have V5 := Lib.hid v5
      have ROW := Lib.hid row5
      have X5 := Lib.hid x5
      have B5 := Lib.hid b5
      replace hacc := Lib.hid hacc
      replace hoi := Lib.hid hoi
      replace hfe := Lib.hid hfe
      clear v5 row5 x5 b5
      go_wp2_with fail
      refine hcall.out.mono ?_
      rintro _ w6 ⟨v6, t6, n6, ok6, rfl, at6, b6, res6⟩
      obtain ⟨A6, k6, rfl, _, _, _⟩ := Tr.at_agg at6
      have X6 := X5.out.call b6
      have V6 := V5.out.call b6
      have ROW6 := ROW.out.keep b6.size (fun k _ hk => b6.block k hk)
      have B6 := Lib.hid (B.call B5.out b6)
      have y0 := X6.cell 0
      have y1 := X6.cell 1
      have y2 := X6.cell 2
      have y3 := X6.cell 3
      have gy0 := X6.free 0
      have gy1 := X6.free 1
      have gy2 := X6.free 2
      have gy3 := X6.free 3
      have ly := X6.lt
      simp at y0 y1 y2 y3
      have m3 := V6.cell 3
      have m3f := V6.free 3
      have m3l := V6.lt
      simp at m3
      have hrlt := ROW.out.lt
      replace hrlt := Lib.hid hrlt
      replace X6 := Lib.hid X6
      replace V6 := Lib.hid V6
      replace ROW6 := Lib.hid ROW6
      replace res6 := Lib.hid res6
      clear x0 x1 x2 x3 fx0 fx1 fx2 fx3 lx l3 l3f l3l c5
      cases ok6
      · have hqn : q = none := by
          rw [hacc.out]
          refine Wd.rfAcc_none hil ?_
          cases hq2 : f own[i] nx with
          | none => rfl
          | some r =>
            have h := res6.out
            rw [hq2] at h
            obtain ⟨h, _⟩ := h
            cases h
        clear hacc hfe res6
        go_wp2_with fail
        refine bodyPost_ret (v := .tuple #[.agg #[.int .i64 0, .int .i64 0, .string ⟨#[]⟩, .slice none 0 0], .int .i64 0, .bool false]) (by simp [results, Try.results81, go_sem, y0, y1, y2, y3, ly]) rfl ⟨_, .mk 0 0 ⟨#[]⟩ [], 0, false, rfl, Tr.at_leaf _ _ _ _ _, ?_, ?_⟩
        · exact B.alloc ((((B6.out.setCell (p := ⟨w.heap.size, 0, none⟩) (Nat.le_refl _) _).setCell (p := ⟨w.heap.size, 1, none⟩) (Nat.le_refl _) _).setCell (p := ⟨w.heap.size, 2, none⟩) (Nat.le_refl _) _).setCell (p := ⟨w.heap.size, 3, none⟩) (Nat.le_refl _) _) _
        · rw [hqn]; rfl
      · have haft : ∀ o1 o2 w7, ((w6.alloc o1).alloc o2).grownBy w7 (Value.slice AL i cL).ownBlock → w7.cell? ⟨w.heap.size + 1, 3, none⟩ = some (.slice AL i cL) ∧ w7.frozen? ⟨w.heap.size + 1, 3, none⟩ = false ∧ w.heap.size + 1 < w7.heap.size :=
          fun o1 o2 w7 g7 => ⟨grCell g7 (cellA (cellA m3 _) _) (fun e => by have := (hrlt.out _ e.symm).1; omega), (grFrz g7 (cellA (cellA m3 _) _) (fun e => by have := (hrlt.out _ e.symm).1; omega)).trans ((frzA (cellA m3 _) _).trans ((frzA m3 _).trans m3f)), by have := g7.size; simp at this; omega⟩
        have hrow6 : ∀ o1, RowT (w.heap.size + 2) (w6.alloc o1) (.slice AL i cL) ts := fun o1 => ROW6.out.keep (by simp) (fun k hk1 hk2 => Below.heap_alloc w6 o1 k hk2)
        have hat6 : ∀ o1, Tr.at (fun b off => wr.heap.size ≤ b ∧ b < (w6.alloc o1).heap.size ∧ Fresh (w6.alloc o1) b off) (w6.alloc o1) t6 (.agg #[.int .i64 t6.k, .int .i64 t6.n, .string t6.s, .slice A6 t6.l.length k6]) := fun o1 => Tr.at_mono (Tr.at_alloc at6 o1) (fun b off h => ⟨h.1, by have := h.2.1; simp; omega, h.2.2.keep (Below.heap_alloc w6 o1 b h.2.1)⟩)
        have hb56 : (ts.length + 1) * 56 ≤ 140737488355328 ∧ ts.length + 1 ≤ maxLen := by unfold maxLen; omega
        have hz6 := b6.size
        replace haft := Lib.hid haft
        replace hrow6 := Lib.hid hrow6
        replace hat6 := Lib.hid hat6
        clear at6 m3f
        go_wp2_with (at_builtin; refine app4 (lo := w.heap.size + 2) (lo' := wr.heap.size) Try.underlying56 hiV hzV (by rfl) hsV hbV rfl (.tmp 158) (.tmp 160) rfl (by simp) rfl rfl (hrow6.out _) (hat6.out _) hz5 (fun g hg => (hrlt.out g hg).2) (by simp; omega) hb56.1 hb56.2 ?_; intro v7 w7 row7 g7; obtain ⟨A7, k7, rfl, _, _⟩ := row7.len; rw [show (ts ++ [t6]).length = i + 1 by simp [htl]] at row7 ⊢; obtain ⟨l38, l39, l37⟩ := haft.out _ _ _ g7)
        go_roundw
        case measure => simp only [intOf]; omega
        case rel =>
          have hres : f own[i] nx = some (t6, n6) := by
            have h := res6.out
            cases hq2 : f own[i] nx with
            | none => rw [hq2] at h; cases h
            | some r =>
              obtain ⟨t', n'⟩ := r
              rw [hq2] at h
              obtain ⟨_, rfl, rfl⟩ := h
              rfl
          refine ⟨i + 1, ts ++ [t6], .slice A7 (i + 1) k7, n6, by simp, rfl, by omega, by simp [htl], ?_, ?_, ?_, ?_, ?_, ?_, HB.out _ _ _ _ hnx hres⟩
          · have := ((VB.alloc (VB.alloc V6.out _) _).grownAny g7 (fun g hg => by have := (hrlt.out g hg).1; omega)).set 3 (.slice A7 (i + 1) k7)
            simpa using this
          · exact row7.keep (by simp [World.setCell]) (fun k hk _ => Below.heap_setCell w7 ⟨w.heap.size + 1, 3, none⟩ _ k (by simp only; omega))
          · exact ((VB.alloc (VB.alloc X6.out _) _).grownAny g7 (fun g hg => by have := (hrlt.out g hg).1; omega)).far _ _ (by omega) _
          · exact ((B.alloc (B.alloc B6.out _) _).grown g7 (by have := B6.out.size; simp; omega) (fun j hj => by have := (hrlt.out j hj).1; omega)).setCell (p := ⟨w.heap.size + 1, 3, none⟩) (by simp) _
          · have h2 := g7.size; simp [World.setCell] at h2 ⊢; omega
          · rw [hacc.out, Wd.rfAcc_some hil hres]
    · have hie : i = own.length := by omega
      have hres : q = some (ts, nx) := by rw [hacc, List.drop_eq_nil_of_le (by omega), Wd.rfAcc]
      clear hacc
      rw [← htl] at v5 row5
      have w0 := v5.cell 0
      have w1 := v5.cell 1
      have w2 := v5.cell 2
      have w3 := v5.cell 3
      have wl := v5.lt
      have x0 := x5.cell 0
      have x1 := x5.cell 1
      have x2 := x5.cell 2
      have x3 := x5.cell 3
      have fx0 := x5.free 0
      have fx1 := x5.free 1
      have fx2 := x5.free 2
      have fx3 := x5.free 3
      have lx := x5.lt
      simp at w0 w1 w2 w3 x0 x1 x2 x3
      replace row5 := Lib.hid row5
      have B5 := Lib.hid b5
      replace hres := Lib.hid hres
      clear v5 x5 b5
      go_wp2_with fail
      refine bodyPost_ret (v := .tuple #[.agg #[.int .i64 4, .int .i64 n, .string ⟨#[]⟩, .slice AL ts.length cL], .int .i64 (nx : Int), .bool true]) (by simp [results, Try.results81, go_sem, x0, x1, x2, x3]; omega) rfl ⟨_, .mk 4 n ⟨#[]⟩ ts, nx, true, rfl, ?_, ?_, ?_⟩
      · exact Tr.at_mono ((row5.out.keep (w' := _) (by simp [World.setCell]) (fun k hk _ => (Below.heap_setCell _ _ _ k (by simp only; omega)).trans ((Below.heap_setCell _ _ _ k (by simp only; omega)).trans ((Below.heap_setCell _ _ _ k (by simp only; omega)).trans (Below.heap_setCell _ _ _ k (by simp only; omega)))))).tree 4 n ⟨#[]⟩) (fun b off h => ⟨by omega, h.2.1, h.2.2⟩)
      · exact (((B5.out.setCell (p := ⟨w.heap.size, 0, none⟩) (Nat.le_refl _) _).setCell (p := ⟨w.heap.size, 1, none⟩) (Nat.le_refl _) _).setCell (p := ⟨w.heap.size, 2, none⟩) (Nat.le_refl _) _).setCell (p := ⟨w.heap.size, 3, none⟩) (Nat.le_refl _) _
      · rw [hres.out]; exact ⟨rfl, rfl, rfl⟩

set_option maxHeartbeats 8000000 in
set_option maxRecDepth 100000 in
theorem rf_fields3e (u : Int) (d next : Nat) (b off : Nat) (ls : List Int) (a : Int) (w : World) (h : Int) (n : Int) (s : Nat) (wn : Nat) (hof : Wd.of u = (0, false)) (hua : u = a + 4 * next) (hh : ls[next]? = some h)
    (hun : Wd.unhead h = (0, n, (s : Int), true)) (hwn : Wd.words h = ((wn : Int), true)) (hfit : next + wn ≤ ls.length) (hw1 : 1 ≤ wn) (hw5 : wn ≤ 5000) (hvc : ls.length ≤ (next + 1)) (hvm : (next + 1) ≤ 9223372036854775807) (hs5 : s ≤ 4096)
    (own : List Int) (hol : own.length = wn - 1) (_hou : Hid (∀ x ∈ own, 0 ≤ x ∧ x < 4294967296)) (f : Int → Nat → Option (Tr × Nat))
    (hc : w.cell? ⟨b, off + next, none⟩ = some (.int .u32 h)) (hu : 0 ≤ u ∧ u < 4294967296) (hh0 : 0 ≤ h ∧ h < 4294967296) (hd : d ≤ 200) (hl : ls.length ≤ 1048576) (h0 : 0 ≤ a) (h1 : a ≤ 2147483648) :
    Calls Try.prog 81 #[.slice (some ⟨b, off, none⟩) ls.length (next + 1), .int .u32 a, .int .u32 u, .int .i64 (next : Int), .int .i64 (d : Int)] w fun e w' => RfPost w (Wd.rfThing 3 n (decide (0 < s)) (Wd.rfAcc f own [] (next + wn))) e w' := by
  have HO : ∀ w, Calls Try.prog 45 #[.int .u32 u] w fun e w' => e = .returned (.tuple #[.int .i64 0, .bool false]) ∧ w' = w := fun w => by
    have h := refOf u w hu.1 hu.2
    rw [hof] at h
    exact h
  replace HO := Lib.hid HO
  have HU : ∀ w, Calls Try.prog 49 #[.int .u32 h] w fun e w' => e = .returned (.tuple #[.int .i64 0, .int .i64 n, .int .i64 (s : Int), .bool true]) ∧ w' = w := fun w => by
    have h := refUnhead h w hh0.1 hh0.2
    rw [hun] at h
    exact h
  have HW : ∀ w, Calls Try.prog 51 #[.int .u32 h] w fun e w' => e = .returned (.tuple #[.int .i64 (wn : Int), .bool true]) ∧ w' = w := fun w => by
    have h := refWords h w hh0.1 hh0.2
    rw [hwn] at h
    exact h
  replace HU := Lib.hid HU
  replace HW := Lib.hid HW
  obtain ⟨hlt, -⟩ := List.getElem?_eq_some_iff.1 hh
  have hc' := cellA hc (.cells #[.int .i64 0, .int .i64 0, .string ⟨#[]⟩, .slice none 0 0] 58)
  have hbw : b < w.heap.size := by simpa using World.block_lt_of_cell? w _ hc
  clear hof hun hwn hh hc
  subst hua
  clear hu
  obtain rfl : wn = 1 := by omega
  obtain ⟨iV, hiV, hzV, hsV, hbV⟩ := info_parts (show (Try.prog.info? 58).map (fun i => (i.zero, i.size, i.bytes)) = some (some (.agg #[.int .i64 0, .int .i64 0, .string ⟨#[]⟩, .slice none 0 0]), 4, 56) by kernel_rfl)
  have X0 := Lib.hid ((VB.new w 58 #[.int .i64 0, .int .i64 0, .string ⟨#[]⟩, .slice none 0 0]).alloc (.cells #[.int .i64 3, .int .i64 n, .string ⟨#[]⟩, .slice none 0 0] 58))
  have V0 : VB ((w.alloc (.cells #[.int .i64 0, .int .i64 0, .string ⟨#[]⟩, .slice none 0 0] 58)).alloc (.cells #[.int .i64 3, .int .i64 n, .string ⟨#[]⟩, .slice none 0 0] 58)) (w.heap.size + 1) 58 #[.int .i64 3, .int .i64 n, .string ⟨#[]⟩, .slice none 0 0] := by
    simpa using VB.new (w.alloc (.cells #[.int .i64 0, .int .i64 0, .string ⟨#[]⟩, .slice none 0 0] 58)) 58 #[.int .i64 3, .int .i64 n, .string ⟨#[]⟩, .slice none 0 0]
  have B0 := Lib.hid (B.alloc (B.alloc (B.refl w) (.cells #[.int .i64 0, .int .i64 0, .string ⟨#[]⟩, .slice none 0 0] 58)) (.cells #[.int .i64 3, .int .i64 n, .string ⟨#[]⟩, .slice none 0 0] 58))
  replace V0 := Lib.hid V0
  obtain ⟨q, hq⟩ : ∃ q, q = Wd.rfAcc f own [] (next + 1) := ⟨_, rfl⟩
  rw [← hq]
  replace hq := Lib.hid hq
  obtain ⟨okb, hok⟩ : ∃ r, r = decide (0 < s) := ⟨_, rfl⟩
  rw [← hok]
  replace hok := Lib.hid hok
  go_enter Try.func81, Try.ntmps81
  go_wp2_with fail
  refine (HO.out _).mono ?_
  rintro _ w1 ⟨rfl, hw1⟩
  subst hw1
  clear HO
  go_wp2_with fail
  refine (HU.out _).mono ?_
  rintro _ w1 ⟨rfl, hw1⟩
  subst hw1
  clear HU
  go_wp2_with fail
  refine (HW.out _).mono ?_
  rintro _ w1 ⟨rfl, hw1⟩
  subst hw1
  clear HW
  go_wp2_with fail
  go_loopw [24, 25] (fun nn q2 wr => q2 = .int .i64 0 ∧ nn = .int .i64 ((next + 1 : Nat) : Int) ∧ VB wr (w.heap.size + 1) 58 #[.int .i64 3, .int .i64 n, .string ⟨#[]⟩, .slice none 0 0] ∧ VB wr w.heap.size 58 #[.int .i64 0, .int .i64 0, .string ⟨#[]⟩, .slice none 0 0] ∧ Below w.heap.size w wr)
    (fun _ q2 _ => 1 - (intOf q2).toNat)
  case atStart => exact ⟨rfl, by (first | rfl | simp), V0.out, X0.out, B0.out⟩
  case round =>
    obtain ⟨rfl, rfl, v5, x5, b5⟩ := hrel
    clear V0 X0 B0
    obtain ⟨ts, hts⟩ : ∃ ts : List Tr, ts = [] := ⟨_, rfl⟩
    obtain ⟨AL, hAL⟩ : ∃ A : Option Addr, A = none := ⟨_, rfl⟩
    obtain ⟨cL, hcL⟩ : ∃ c : Nat, c = 0 := ⟨_, rfl⟩
    obtain ⟨nx, hnx⟩ : ∃ c : Nat, c = next + 1 := ⟨_, rfl⟩
    rw [← hnx]
    have row5 : RowT (w.heap.size + 2) wr (.slice AL ts.length cL) ts := by subst hts hAL hcL; exact RowT.nil _ _
    have hres : q = some (ts, nx) := by rw [hq.out, List.eq_nil_of_length_eq_zero (l := own) (by omega), hts, hnx]; rfl
    have v5' : VB wr (w.heap.size + 1) 58 #[.int .i64 3, .int .i64 n, .string ⟨#[]⟩, .slice AL ts.length cL] := by subst hts hAL hcL; exact v5
    have hz5 : w.heap.size + 2 ≤ wr.heap.size := by have := v5.lt; omega
    have hl0 : ts.length = 0 := by rw [hts]; rfl
    clear v5 hts hAL hcL hnx
    have v5 := v5'
    clear v5'
    by_cases hsz : 0 < s
    · have w0 := v5.cell 0
      have w1 := v5.cell 1
      have w2 := v5.cell 2
      have w3 := v5.cell 3
      have wl := v5.lt
      have x0 := x5.cell 0
      have x1 := x5.cell 1
      have x2 := x5.cell 2
      have x3 := x5.cell 3
      have fx0 := x5.free 0
      have fx1 := x5.free 1
      have fx2 := x5.free 2
      have fx3 := x5.free 3
      have lx := x5.lt
      simp at w0 w1 w2 w3 x0 x1 x2 x3
      replace row5 := Lib.hid row5
      have B5 := Lib.hid b5
      replace hres := Lib.hid hres
      clear v5 x5 b5
      obtain rfl : okb = true := by rw [hok.out]; simp; omega
      clear hok
      go_wp2_with fail
      refine bodyPost_ret (v := .tuple #[.agg #[.int .i64 3, .int .i64 n, .string ⟨#[]⟩, .slice AL ts.length cL], .int .i64 (nx : Int), .bool true]) (by simp [results, Try.results81, go_sem, x0, x1, x2, x3]; omega) rfl ⟨_, .mk 3 n ⟨#[]⟩ ts, nx, true, rfl, ?_, ?_, ?_⟩
      · exact Tr.at_mono ((row5.out.keep (w' := _) (by simp [World.setCell]) (fun k hk _ => (Below.heap_setCell _ _ _ k (by simp only; omega)).trans ((Below.heap_setCell _ _ _ k (by simp only; omega)).trans ((Below.heap_setCell _ _ _ k (by simp only; omega)).trans (Below.heap_setCell _ _ _ k (by simp only; omega)))))).tree 3 n ⟨#[]⟩) (fun b off h => ⟨by omega, h.2.1, h.2.2⟩)
      · exact (((B5.out.setCell (p := ⟨w.heap.size, 0, none⟩) (Nat.le_refl _) _).setCell (p := ⟨w.heap.size, 1, none⟩) (Nat.le_refl _) _).setCell (p := ⟨w.heap.size, 2, none⟩) (Nat.le_refl _) _).setCell (p := ⟨w.heap.size, 3, none⟩) (Nat.le_refl _) _
      · rw [hres.out]; exact ⟨rfl, rfl, rfl⟩
    · have w0 := v5.cell 0
      have w1 := v5.cell 1
      have w2 := v5.cell 2
      have w3 := v5.cell 3
      have wl := v5.lt
      have x0 := x5.cell 0
      have x1 := x5.cell 1
      have x2 := x5.cell 2
      have x3 := x5.cell 3
      have fx0 := x5.free 0
      have fx1 := x5.free 1
      have fx2 := x5.free 2
      have fx3 := x5.free 3
      have lx := x5.lt
      simp at w0 w1 w2 w3 x0 x1 x2 x3
      replace row5 := Lib.hid row5
      have B5 := Lib.hid b5
      replace hres := Lib.hid hres
      clear v5 x5 b5
      obtain rfl : okb = false := by rw [hok.out]; simp; omega
      clear hok
      go_wp2_with fail
      refine bodyPost_ret (v := .tuple #[.agg #[.int .i64 3, .int .i64 n, .string ⟨#[]⟩, .slice AL ts.length cL], .int .i64 (nx : Int), .bool false]) (by simp [results, Try.results81, go_sem, x0, x1, x2, x3]; omega) rfl ⟨_, .mk 3 n ⟨#[]⟩ ts, nx, false, rfl, ?_, ?_, ?_⟩
      · exact Tr.at_mono ((row5.out.keep (w' := _) (by simp [World.setCell]) (fun k hk _ => (Below.heap_setCell _ _ _ k (by simp only; omega)).trans ((Below.heap_setCell _ _ _ k (by simp only; omega)).trans ((Below.heap_setCell _ _ _ k (by simp only; omega)).trans (Below.heap_setCell _ _ _ k (by simp only; omega)))))).tree 3 n ⟨#[]⟩) (fun b off h => ⟨by omega, h.2.1, h.2.2⟩)
      · exact (((B5.out.setCell (p := ⟨w.heap.size, 0, none⟩) (Nat.le_refl _) _).setCell (p := ⟨w.heap.size, 1, none⟩) (Nat.le_refl _) _).setCell (p := ⟨w.heap.size, 2, none⟩) (Nat.le_refl _) _).setCell (p := ⟨w.heap.size, 3, none⟩) (Nat.le_refl _) _
      · rw [hres.out]; rfl

set_option maxHeartbeats 8000000 in
set_option maxRecDepth 100000 in
theorem rf_fields4e (u : Int) (d next : Nat) (b off : Nat) (ls : List Int) (a : Int) (w : World) (h : Int) (n : Int) (s : Nat) (wn : Nat) (hof : Wd.of u = (0, false)) (hua : u = a + 4 * next) (hh : ls[next]? = some h)
    (hun : Wd.unhead h = (1, n, (s : Int), true)) (hwn : Wd.words h = ((wn : Int), true)) (hfit : next + wn ≤ ls.length) (hw1 : 1 ≤ wn) (hw5 : wn ≤ 5000) (hvc : ls.length ≤ (next + 1)) (hvm : (next + 1) ≤ 9223372036854775807) (_hs5 : s ≤ 4096)
    (own : List Int) (hol : own.length = wn - 1) (_hou : Hid (∀ x ∈ own, 0 ≤ x ∧ x < 4294967296)) (f : Int → Nat → Option (Tr × Nat))
    (hc : w.cell? ⟨b, off + next, none⟩ = some (.int .u32 h)) (hu : 0 ≤ u ∧ u < 4294967296) (hh0 : 0 ≤ h ∧ h < 4294967296) (hd : d ≤ 200) (hl : ls.length ≤ 1048576) (h0 : 0 ≤ a) (h1 : a ≤ 2147483648) :
    Calls Try.prog 81 #[.slice (some ⟨b, off, none⟩) ls.length (next + 1), .int .u32 a, .int .u32 u, .int .i64 (next : Int), .int .i64 (d : Int)] w fun e w' => RfPost w (Wd.rfThing 4 n true (Wd.rfAcc f own [] (next + wn))) e w' := by
  have HO : ∀ w, Calls Try.prog 45 #[.int .u32 u] w fun e w' => e = .returned (.tuple #[.int .i64 0, .bool false]) ∧ w' = w := fun w => by
    have h := refOf u w hu.1 hu.2
    rw [hof] at h
    exact h
  replace HO := Lib.hid HO
  have HU : ∀ w, Calls Try.prog 49 #[.int .u32 h] w fun e w' => e = .returned (.tuple #[.int .i64 1, .int .i64 n, .int .i64 (s : Int), .bool true]) ∧ w' = w := fun w => by
    have h := refUnhead h w hh0.1 hh0.2
    rw [hun] at h
    exact h
  have HW : ∀ w, Calls Try.prog 51 #[.int .u32 h] w fun e w' => e = .returned (.tuple #[.int .i64 (wn : Int), .bool true]) ∧ w' = w := fun w => by
    have h := refWords h w hh0.1 hh0.2
    rw [hwn] at h
    exact h
  replace HU := Lib.hid HU
  replace HW := Lib.hid HW
  obtain ⟨hlt, -⟩ := List.getElem?_eq_some_iff.1 hh
  have hc' := cellA hc (.cells #[.int .i64 0, .int .i64 0, .string ⟨#[]⟩, .slice none 0 0] 58)
  have hbw : b < w.heap.size := by simpa using World.block_lt_of_cell? w _ hc
  clear hof hun hwn hh hc
  subst hua
  clear hu
  obtain rfl : wn = 1 := by omega
  obtain ⟨iV, hiV, hzV, hsV, hbV⟩ := info_parts (show (Try.prog.info? 58).map (fun i => (i.zero, i.size, i.bytes)) = some (some (.agg #[.int .i64 0, .int .i64 0, .string ⟨#[]⟩, .slice none 0 0]), 4, 56) by kernel_rfl)
  have X0 := Lib.hid ((VB.new w 58 #[.int .i64 0, .int .i64 0, .string ⟨#[]⟩, .slice none 0 0]).alloc (.cells #[.int .i64 4, .int .i64 n, .string ⟨#[]⟩, .slice none 0 0] 58))
  have V0 : VB ((w.alloc (.cells #[.int .i64 0, .int .i64 0, .string ⟨#[]⟩, .slice none 0 0] 58)).alloc (.cells #[.int .i64 4, .int .i64 n, .string ⟨#[]⟩, .slice none 0 0] 58)) (w.heap.size + 1) 58 #[.int .i64 4, .int .i64 n, .string ⟨#[]⟩, .slice none 0 0] := by
    simpa using VB.new (w.alloc (.cells #[.int .i64 0, .int .i64 0, .string ⟨#[]⟩, .slice none 0 0] 58)) 58 #[.int .i64 4, .int .i64 n, .string ⟨#[]⟩, .slice none 0 0]
  have B0 := Lib.hid (B.alloc (B.alloc (B.refl w) (.cells #[.int .i64 0, .int .i64 0, .string ⟨#[]⟩, .slice none 0 0] 58)) (.cells #[.int .i64 4, .int .i64 n, .string ⟨#[]⟩, .slice none 0 0] 58))
  replace V0 := Lib.hid V0
  obtain ⟨q, hq⟩ : ∃ q, q = Wd.rfAcc f own [] (next + 1) := ⟨_, rfl⟩
  rw [← hq]
  replace hq := Lib.hid hq
  go_enter Try.func81, Try.ntmps81
  go_wp2_with fail
  refine (HO.out _).mono ?_
  rintro _ w1 ⟨rfl, hw1⟩
  subst hw1
  clear HO
  go_wp2_with fail
  refine (HU.out _).mono ?_
  rintro _ w1 ⟨rfl, hw1⟩
  subst hw1
  clear HU
  go_wp2_with fail
  refine (HW.out _).mono ?_
  rintro _ w1 ⟨rfl, hw1⟩
  subst hw1
  clear HW
  go_wp2_with fail
  go_loopw [24, 25] (fun nn q2 wr => q2 = .int .i64 0 ∧ nn = .int .i64 ((next + 1 : Nat) : Int) ∧ VB wr (w.heap.size + 1) 58 #[.int .i64 4, .int .i64 n, .string ⟨#[]⟩, .slice none 0 0] ∧ VB wr w.heap.size 58 #[.int .i64 0, .int .i64 0, .string ⟨#[]⟩, .slice none 0 0] ∧ Below w.heap.size w wr)
    (fun _ q2 _ => 1 - (intOf q2).toNat)
  case atStart => exact ⟨rfl, by (first | rfl | simp), V0.out, X0.out, B0.out⟩
  case round =>
    obtain ⟨rfl, rfl, v5, x5, b5⟩ := hrel
    clear V0 X0 B0
    obtain ⟨ts, hts⟩ : ∃ ts : List Tr, ts = [] := ⟨_, rfl⟩
    obtain ⟨AL, hAL⟩ : ∃ A : Option Addr, A = none := ⟨_, rfl⟩
    obtain ⟨cL, hcL⟩ : ∃ c : Nat, c = 0 := ⟨_, rfl⟩
    obtain ⟨nx, hnx⟩ : ∃ c : Nat, c = next + 1 := ⟨_, rfl⟩
    rw [← hnx]
    have row5 : RowT (w.heap.size + 2) wr (.slice AL ts.length cL) ts := by subst hts hAL hcL; exact RowT.nil _ _
    have hres : q = some (ts, nx) := by rw [hq.out, List.eq_nil_of_length_eq_zero (l := own) (by omega), hts, hnx]; rfl
    have v5' : VB wr (w.heap.size + 1) 58 #[.int .i64 4, .int .i64 n, .string ⟨#[]⟩, .slice AL ts.length cL] := by subst hts hAL hcL; exact v5
    have hz5 : w.heap.size + 2 ≤ wr.heap.size := by have := v5.lt; omega
    have hl0 : ts.length = 0 := by rw [hts]; rfl
    clear v5 hts hAL hcL hnx
    have v5 := v5'
    clear v5'
    have w0 := v5.cell 0
    have w1 := v5.cell 1
    have w2 := v5.cell 2
    have w3 := v5.cell 3
    have wl := v5.lt
    have x0 := x5.cell 0
    have x1 := x5.cell 1
    have x2 := x5.cell 2
    have x3 := x5.cell 3
    have fx0 := x5.free 0
    have fx1 := x5.free 1
    have fx2 := x5.free 2
    have fx3 := x5.free 3
    have lx := x5.lt
    simp at w0 w1 w2 w3 x0 x1 x2 x3
    replace row5 := Lib.hid row5
    have B5 := Lib.hid b5
    replace hres := Lib.hid hres
    clear v5 x5 b5
    go_wp2_with fail
    refine bodyPost_ret (v := .tuple #[.agg #[.int .i64 4, .int .i64 n, .string ⟨#[]⟩, .slice AL ts.length cL], .int .i64 (nx : Int), .bool true]) (by simp [results, Try.results81, go_sem, x0, x1, x2, x3]; omega) rfl ⟨_, .mk 4 n ⟨#[]⟩ ts, nx, true, rfl, ?_, ?_, ?_⟩
    · exact Tr.at_mono ((row5.out.keep (w' := _) (by simp [World.setCell]) (fun k hk _ => (Below.heap_setCell _ _ _ k (by simp only; omega)).trans ((Below.heap_setCell _ _ _ k (by simp only; omega)).trans ((Below.heap_setCell _ _ _ k (by simp only; omega)).trans (Below.heap_setCell _ _ _ k (by simp only; omega)))))).tree 4 n ⟨#[]⟩) (fun b off h => ⟨by omega, h.2.1, h.2.2⟩)
    · exact (((B5.out.setCell (p := ⟨w.heap.size, 0, none⟩) (Nat.le_refl _) _).setCell (p := ⟨w.heap.size, 1, none⟩) (Nat.le_refl _) _).setCell (p := ⟨w.heap.size, 2, none⟩) (Nat.le_refl _) _).setCell (p := ⟨w.heap.size, 3, none⟩) (Nat.le_refl _) _
    · rw [hres.out]; exact ⟨rfl, rfl, rfl⟩

theorem RfPost.no {w : World} {e : Ending} {w' : World} (h : e = .returned (.tuple #[.agg #[.int .i64 0, .int .i64 0, .string ⟨#[]⟩, .slice none 0 0], .int .i64 0, .bool false]) ∧ Below w.heap.size w w') : RfPost w none e w' :=
  ⟨_, .mk 0 0 ⟨#[]⟩ [], 0, false, h.1, Tr.at_leaf _ _ _ _ _, h.2, rfl⟩

set_option maxHeartbeats 1000000 in
theorem refRead (g : Nat) : RfHyp g := by
  induction g with
  | zero =>
    intro u d next vA ls vc a w hdg hs hu hlr hn hl h0 h1
    rcases hof : Wd.of u with ⟨n, is⟩
    rw [Wd.rf, hof]
    cases is
    · rw [if_neg (by simp)]
      exact (rf_no u d next vA ls vc a w (Wd.of_even hof) hu (.inr (.inr (by omega))) (by omega) (by omega) h0 h1).mono fun e w' h => RfPost.no h
    · rw [if_pos rfl]
      exact (rf_num u d next vA ls vc a w n hof hu).mono fun e w' h => ⟨_, _, next, true, h.1, Tr.at_leaf _ _ _ _ _, h.2, rfl, rfl, rfl⟩
  | succ g ih =>
    intro u d next vA ls vc a w hdg hs hu hlr hn hl h0 h1
    rcases hof : Wd.of u with ⟨n, is⟩
    rw [Wd.rf, hof]
    cases is
    rotate_left
    · rw [if_pos rfl]
      exact (rf_num u d next vA ls vc a w n hof hu).mono fun e w' h => ⟨_, _, next, true, h.1, Tr.at_leaf _ _ _ _ _, h.2, rfl, rfl, rfl⟩
    rw [if_neg (by simp)]
    replace hof := Wd.of_even hof
    by_cases hua : u = a + 4 * next
    rotate_left
    · rw [if_pos hua]
      exact (rf_no u d next vA ls vc a w hof hu (.inl hua) (by omega) (by omega) h0 h1).mono fun e w' h => RfPost.no h
    rw [if_neg (by simpa using hua)]
    by_cases hlt : next < ls.length
    rotate_left
    · rw [List.getElem?_eq_none (by omega)]
      exact (rf_no u d next vA ls vc a w hof hu (.inr (.inl (by omega))) (by omega) (by omega) h0 h1).mono fun e w' h => RfPost.no h
    have hh : ls[next]? = some ls[next] := List.getElem?_eq_getElem hlt
    rw [hh]
    obtain ⟨h, hhd⟩ : ∃ h, h = ls[next] := ⟨_, rfl⟩
    rw [← hhd] at hh ⊢
    have hh0 := hlr h (List.mem_of_getElem? hh)
    simp only
    rcases hun : Wd.unhead h with ⟨k, n', s, is'⟩
    unfold Wd.rfBody
    rw [hun]
    simp only
    have hsz := Wd.unhead_size h
    rw [hun] at hsz
    simp only at hsz
    have hwnn : ∃ wn : Nat, (Wd.words h).1 = (wn : Int) ∧ wn ≤ 5000 ∧ Wd.words h = ((wn : Int), is') := by
      cases is'
      · rw [Wd.unhead_not hun]; exact ⟨0, rfl, by omega, rfl⟩
      · rw [Wd.unhead_words hun]
        by_cases hk : k = 2
        · rw [if_pos hk]; exact ⟨(1 + (s + 3) / 4).toNat, by simp only; omega, by omega, by simp; omega⟩
        · rw [if_neg hk]; exact ⟨(1 + s).toNat, by simp only; omega, by omega, by simp; omega⟩
    obtain ⟨wn, hwn, hw5, hwo'⟩ := hwnn
    rw [hwn]
    simp only [Int.toNat_natCast]
    have HS := hs
    obtain ⟨A', cap', he, hvc, hvm, hcc⟩ := hs
    obtain ⟨b, off, rfl, hcell⟩ := hcc (by intro e; subst e; simp at hlt)
    simp only [Value.slice.injEq] at he
    obtain ⟨rfl, -, rfl⟩ := he
    unfold maxLen at hvm
    have hc : w.cell? ⟨b, off + next, none⟩ = some (.int .u32 h) := by rw [hhd]; exact hcell next hlt
    by_cases hbad : is' = false ∨ ls.length < next + wn
    · rw [if_pos hbad]
      exact (rf_bad u d next b off ls vc a w h k n' s is' wn hof hu hua hh hun hwo' hbad hw5 hc hh0 (by omega) hl h0 h1).mono fun e w' h => RfPost.no h
    rw [if_neg hbad]
    have hb1 : is' = true := by cases is' <;> simp_all
    have hb2 : next + wn ≤ ls.length := by omega
    subst hb1
    have hwo := Wd.unhead_words hun
    have hok := (Wd.unhead_ok hun).1
    obtain ⟨sn, rfl⟩ := Int.eq_ofNat_of_zero_le hsz.1
    have hwv : (wn : Int) = if k = 2 then 1 + ((sn : Int) + 3) / 4 else 1 + (sn : Int) := by
      rw [← hwn, hwo]
    have hw1 : 1 ≤ wn := by split at hwv <;> omega
    obtain ⟨own, hown⟩ : ∃ own, own = (ls.drop (next + 1)).take (wn - 1) := ⟨_, rfl⟩
    rw [← hown]
    have hol : own.length = wn - 1 := by rw [hown, List.length_take, List.length_drop]; omega
    have hou : ∀ x ∈ own, 0 ≤ x ∧ x < 4294967296 := fun x hx => hlr x (by rw [hown] at hx; exact List.mem_of_mem_drop (List.mem_of_mem_take hx))
    have hoc : ∀ j (hj : j < own.length), w.cell? ⟨b, off + (next + 1) + j, none⟩ = some (.int .u32 own[j]) := by
      intro j hj
      have h1 := hcell (next + 1 + j) (by omega)
      have h2 : own[j] = ls[next + 1 + j]'(by omega) := by subst hown; simp
      rw [h2, ← h1, Nat.add_assoc off]
    have hdn : d ≤ 200 := by omega
    by_cases hk2 : k = 2
    · subst hk2
      rw [if_pos rfl]
      rw [if_pos rfl] at hwv
      have hsw : (sn + 3) / 4 = own.length := by omega
      have fin : ∀ e w', (e = .returned (.tuple #[.agg #[.int .i64 2, .int .i64 0, .string (str ((Wd.bys own).take sn)), .slice none 0 0], .int .i64 ((next + wn : Nat) : Int), .bool (decide (Wd.tw ((Wd.bys own).take sn) own.length = own))]) ∧ Below w.heap.size w w') →
          RfPost w (if Wd.tw ((Wd.bys own).take sn) (wn - 1) = own then some (.mk 2 0 (str ((Wd.bys own).take sn)) [], next + wn) else none) e w' := by
        rintro e w' ⟨he, hb⟩
        refine ⟨_, .mk 2 0 (str ((Wd.bys own).take sn)) [], next + wn, _, he, Tr.at_leaf _ _ _ _ _, hb, ?_⟩
        rw [hol]
        by_cases hq : Wd.tw ((Wd.bys own).take sn) (wn - 1) = own
        · rw [if_pos hq]; exact ⟨by simpa using hq, rfl, rfl⟩
        · rw [if_neg hq]; simpa [RfRes] using hq
      by_cases hcq : vc = next + 1
      · subst hcq
        exact (rf_text0 u d next b off ls a w h n' sn wn hof hua hh hun hwo' hb2 hw1 hw5 hvc hvm (by omega) own hol (Lib.hid hou) hsw hc hu hh0 hdn hl h0 h1).mono fin
      · exact (rf_text1 u d next b off ls vc a w h n' sn wn hof hua hh hun hwo' hb2 hw1 hw5 hvc hvm hcq (by omega) own hol (Lib.hid hou) (Lib.hid hoc) hsw hc hu hh0 hdn hl h0 h1).mono fin
    · rw [if_neg hk2]
      obtain ⟨f, hf⟩ : ∃ f, f = fun u n => Wd.rf ls a g u n := ⟨_, rfl⟩
      rw [← hf]
      have HB : ∀ u n t n', n ≤ ls.length → f u n = some (t, n') → n' ≤ ls.length := by
        intro u n t n' hn h
        rw [hf] at h
        exact Wd.rf_bound ls a g u n t n' hn h
      have hk01 : k = 0 ∨ k = 1 := by have := hok.1; have := hok.2.1; omega
      have fin : ∀ (K : Int) (okb : Bool), (K = if k = 1 then 4 else 3) → (okb = decide (k = 1 ∨ 0 < (sn : Int))) → ∀ e w', RfPost w (Wd.rfThing K n' okb (Wd.rfAcc f own [] (next + wn))) e w' →
          RfPost w (match Wd.rfAcc f own [] (next + wn) with | none => none | some (ts, n) => if k = 1 ∨ 0 < (sn : Int) then some (.mk (if k = 1 then 4 else 3) n' ⟨#[]⟩ ts, n) else none) e w' := by
        intro K okb hK hokb e w' hp
        have e1 : Wd.rfThing K n' okb (Wd.rfAcc f own [] (next + wn)) = (match Wd.rfAcc f own [] (next + wn) with | none => none | some (ts, n) => if k = 1 ∨ 0 < (sn : Int) then some (.mk (if k = 1 then 4 else 3) n' ⟨#[]⟩ ts, n) else none) := by
          unfold Wd.rfThing
          cases Wd.rfAcc f own [] (next + wn) with
          | none => rfl
          | some r =>
            obtain ⟨ts, nn⟩ := r
            simp only
            rw [hokb, ← hK]
            by_cases hc : k = 1 ∨ 0 < (sn : Int)
            · rw [if_pos (by simpa using hc), if_pos hc]
            · rw [if_neg (by simpa using hc), if_neg hc]
        rw [← e1]
        exact hp
      rcases hk01 with rfl | rfl
      · by_cases hcq : vc = next + 1
        · subst hcq
          exact (rf_fields3e u d next b off ls a w h n' sn wn hof hua hh hun hwo' hb2 hw1 hw5 hvc hvm (by omega) own hol (Lib.hid hou) f hc hu hh0 hdn hl h0 h1).mono (fin 3 _ (by simp) (by simp))
        · exact (rf_fields3 u d next b off ls vc a w h n' sn wn hof hua hh hun hwo' hb2 hw1 hw5 hvc hvm hcq (by omega) own hol (Lib.hid hou) (Lib.hid hoc) f g (by omega) (Lib.hid hf) (Lib.hid ih) (Lib.hid HB) (Lib.hid HS) (Lib.hid hlr) hc hu hh0 hdn hl h0 h1).mono (fin 3 _ (by simp) (by simp))
      · by_cases hcq : vc = next + 1
        · subst hcq
          exact (rf_fields4e u d next b off ls a w h n' sn wn hof hua hh hun hwo' hb2 hw1 hw5 hvc hvm (by omega) own hol (Lib.hid hou) f hc hu hh0 hdn hl h0 h1).mono (fin 4 _ (by simp) (by simp))
        · exact (rf_fields4 u d next b off ls vc a w h n' sn wn hof hua hh hun hwo' hb2 hw1 hw5 hvc hvm hcq (by omega) own hol (Lib.hid hou) (Lib.hid hoc) f g (by omega) (Lib.hid hf) (Lib.hid ih) (Lib.hid HB) (Lib.hid HS) (Lib.hid hlr) hc hu hh0 hdn hl h0 h1).mono (fin 4 _ (by simp) (by simp))

end Go.Proofs.Ytgohnekaolgblaa
