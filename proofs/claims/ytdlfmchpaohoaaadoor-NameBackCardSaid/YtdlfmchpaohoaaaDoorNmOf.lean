/- name.Of, gimletref02.Of: contracts. -/
import Derived.Test.YtdlfmchpaohoaaaDoorNmPut
import Derived.Laws.Cover4
namespace Go.Proofs.YtdlfmchpaohoaaaDoor
open Go.RowKit

theorem Tryd.infoI32 : (Tryd.prog.info? 21).map (fun i => (i.zero, i.size, i.bytes)) = some (some (.int .i32 0), 1, 4) := by kernel_rfl

/-- The text of runes. -/
def Nm.ofs (l : List Int) : List Int := l.flatMap fun n => Nm.one n.toNat

def Nm.ofRes (l : List Int) : List Int × Int := if l.all Nm.isRune then (Nm.ofs l, 0) else ([], 5)

theorem Nm.isRune_iff (n : Int) : Nm.isRune n = true ↔ 0 ≤ n ∧ n ≤ 1114111 ∧ (n < 55296 ∨ 57343 < n) := by unfold Nm.isRune; simp

theorem Nm.oneLen_le (n : Nat) : Nm.oneLen n ≤ 4 := by unfold Nm.oneLen; (repeat' split) <;> omega

theorem Nm.ofs_len (l : List Int) : (Nm.ofs l).length ≤ 4 * l.length := by
  induction l with
  | nil => simp [Nm.ofs]
  | cons x l ih =>
    have h := Nm.oneLen_le x.toNat
    have he : Nm.ofs (x :: l) = Nm.one x.toNat ++ Nm.ofs l := by simp [Nm.ofs]
    rw [he, List.length_append, Nm.one_len, List.length_cons]; omega

theorem Nm.ofs_byt {l : List Int} (h : ∀ x ∈ l, Nm.isRune x = true) : Byt (Nm.ofs l) := by
  intro b hb
  obtain ⟨x, hx, hb⟩ := List.mem_flatMap.1 hb
  have := (Nm.isRune_iff x).1 (h x hx)
  exact Nm.one_byt x.toNat (by omega) b hb

theorem Nm.ofs_snoc (l : List Int) (x : Int) : Nm.ofs (l ++ [x]) = Nm.ofs l ++ Nm.one x.toNat := by simp [Nm.ofs]

theorem encode_one {n : Int} (h : Nm.isRune n = true) : Utf8.encode n = str (Nm.one n.toNat) := by
  have hr := (Nm.isRune_iff n).1 h
  obtain ⟨m, rfl⟩ := Int.eq_ofNat_of_zero_le hr.1
  have hv : Utf8.valid (m : Int) = true := by unfold Utf8.valid; simp; omega
  unfold Utf8.encode
  rw [hv]
  simp only [if_true, Int.toNat_natCast]
  unfold Nm.one
  by_cases h1 : m < 128
  · rw [if_pos h1, if_pos h1]; simp [str]
  · by_cases h2 : m < 2048
    · rw [if_neg h1, if_pos h2, if_neg h1, if_pos h2]
      have e1 : (192 + (m : Int) / 64).toNat = 192 + m / 64 := by omega
      have e2 : (128 + (m : Int) % 64).toNat = 128 + m % 64 := by omega
      simp only [str, List.map_cons, List.map_nil, e1, e2]
    · by_cases h3 : m < 65536
      · rw [if_neg h1, if_neg h2, if_pos h3, if_neg h1, if_neg h2, if_pos h3]
        have e1 : (224 + (m : Int) / 4096).toNat = 224 + m / 4096 := by omega
        have e2 : (128 + (m : Int) / 64 % 64).toNat = 128 + m / 64 % 64 := by omega
        have e3 : (128 + (m : Int) % 64).toNat = 128 + m % 64 := by omega
        simp only [str, List.map_cons, List.map_nil, e1, e2, e3]
      · rw [if_neg h1, if_neg h2, if_neg h3, if_neg h1, if_neg h2, if_neg h3]
        have e1 : (240 + (m : Int) / 262144).toNat = 240 + m / 262144 := by omega
        have e2 : (128 + (m : Int) / 4096 % 64).toNat = 128 + m / 4096 % 64 := by omega
        have e3 : (128 + (m : Int) / 64 % 64).toNat = 128 + m / 64 % 64 := by omega
        have e4 : (128 + (m : Int) % 64).toNat = 128 + m % 64 := by omega
        simp only [str, List.map_cons, List.map_nil, e1, e2, e3, e4]

theorem str_append (xs ys : List Int) : str xs ++ str ys = str (xs ++ ys) := by
  apply ByteArray.ext
  apply Array.ext'
  simp [str, ByteArray.data_append]

theorem runesBytes_ofs {l : List Int} (h : ∀ x ∈ l, Nm.isRune x = true) : runesBytes l = str (Nm.ofs l) := by
  unfold runesBytes
  suffices hs : ∀ (l acc : List Int), (∀ x ∈ l, Nm.isRune x = true) → l.foldl (fun r n => r ++ Utf8.encode n) (str acc) = str (acc ++ Nm.ofs l) by
    have := hs l [] h
    rw [List.nil_append] at this
    rw [← this]; rfl
  intro l
  induction l with
  | nil => intro acc _; simp [Nm.ofs]
  | cons x l ih =>
    intro acc hx
    rw [List.foldl_cons, encode_one (hx x (by simp)), str_append, ih _ (fun y hy => hx y (by simp [hy]))]
    congr 1
    simp [Nm.ofs]

/-- string(runes). -/
theorem run_runes {P : Program} {T E S : TypeId} (hT : P.underlying T = some (.slice E)) (hE : P.underlying E = some (.int .i32)) (hS : P.underlying S = some .string)
    {w : World} {v : Value} {xs : List Int} (h : Sees .i32 w v xs) (hr : ∀ x ∈ xs, Nm.isRune x = true) : (convert T S v).run P w = .ok (.string (str (Nm.ofs xs))) w := by
  rw [← runesBytes_ofs hr]
  obtain ⟨A, cap, rfl, hc, hm, h⟩ := h
  rcases A with _ | a
  · have hx : xs = [] := by
      by_cases hne : xs = []
      · exact hne
      · obtain ⟨b, off, he, _⟩ := h hne; cases he
    subst hx
    exact run_convert_runes_nil w T S E _ _ hT hE hS
  · by_cases hne : xs = []
    · subst hne
      have := run_convert_runes (P := P) w T S E a 0 cap [] (by simp) hT hE hS (fun j hj => by simp at hj)
      simpa using this
    · obtain ⟨b, off, he, hcell⟩ := h hne
      cases he
      have := run_convert_runes (P := P) w T S E ⟨b, off, none⟩ xs.length cap xs (Nat.le_refl _) hT hE hS (fun j hj => by
        rw [addr_add, hcell j hj, List.getD_eq_getElem?_getD, List.getElem?_eq_getElem hj]; rfl)
      rwa [List.take_length] at this

theorem all_take {l : List Int} {i : Nat} (hi : i < l.length) (h : ∀ x ∈ l.take i, Nm.isRune x = true) (hx : Nm.isRune l[i] = true) : ∀ x ∈ l.take (i + 1), Nm.isRune x = true := by
  intro x hm
  rw [List.take_succ_eq_append_getElem hi] at hm
  rcases List.mem_append.1 hm with hm | hm
  · exact h x hm
  · simp at hm; rw [hm]; exact hx

theorem Nm.ofRes_bad {l : List Int} {i : Nat} (hi : i < l.length) (hx : Nm.isRune l[i] = false) : Nm.ofRes l = ([], 5) := by
  unfold Nm.ofRes
  rw [if_neg]
  intro h
  rw [List.all_eq_true] at h
  have := h _ (List.getElem_mem hi)
  rw [hx] at this; cases this

theorem Nm.ofRes_ok {l : List Int} (h : ∀ x ∈ l, Nm.isRune x = true) : Nm.ofRes l = (Nm.ofs l, 0) := by
  unfold Nm.ofRes
  rw [if_pos (List.all_eq_true.2 h)]

set_option maxHeartbeats 2000000 in
theorem refOf (v : Value) (l : List Int) (w : World) (hv : Sees .i64 w v l) (hm : l.length ≤ 2000) :
    Calls Tryd.prog 22 #[v] w fun e w' => (∃ v, e = .returned (.tuple #[v, .int .i64 (Nm.ofRes l).2]) ∧ Sees .u8 w' v (Nm.ofRes l).1) ∧ Below w.heap.size w w' := by
  obtain ⟨i0, hi, hz0, hz1, hz2⟩ := info_parts Tryd.infoU8
  obtain ⟨A, cap, rfl, hc1, hc2, hcells⟩ := hv
  have HC := Lib.hid hcells; clear hcells
  go_enter Tryd.func22, Tryd.ntmps22
  go_wp2_with fail
  go_loopw [4, 5] (fun o c wr => ∃ i : Nat, c = .int .i64 (i : Int) ∧ i ≤ l.length ∧ Owns 5 .u8 w.heap.size wr o (Nm.ofs (l.take i)) ∧ Below w.heap.size w wr ∧ w.heap.size ≤ wr.heap.size ∧ ∀ x ∈ l.take i, Nm.isRune x = true)
    (fun _ c _ => l.length - (intOf c).toNat)
  case atStart => exact ⟨0, rfl, by omega, by simpa [Nm.ofs] using Owns.nil _ _ _ _, Below.refl _ _, Nat.le_refl _, by simp⟩
  case round =>
    obtain ⟨i, rfl, hil, hown, hbel, hsz, hall⟩ := hrel
    by_cases hs : i = l.length
    · subst hs
      rw [List.take_length] at hown hall
      obtain ⟨A1, k1, rfl, _, _⟩ := hown.sees.len
      have HO := Lib.hid hown; have HBE := Lib.hid hbel; have HAL := Lib.hid hall
      clear hown hbel hall
      go_wp2_with fail
      go_returns
      rw [Nm.ofRes_ok HAL.out]
      exact ⟨⟨_, rfl, HO.out.sees⟩, HBE.out⟩
    · have hlt : i < l.length := by omega
      obtain ⟨b, off, rfl, hcell⟩ := HC.out (by intro e; subst e; simp at hlt)
      have x0 := hcell i hlt
      have hbl := World.block_lt_of_cell? w _ x0
      simp only at hbl
      have x1 := (hbel.cell (p := ⟨b, off + i, none⟩) (by simp only; omega)).trans x0
      have hof := Nm.ofs_len (l.take i)
      rw [List.length_take] at hof
      have htk : Nm.ofs (l.take (i + 1)) = Nm.ofs (l.take i) ++ Nm.one l[i].toNat := by rw [List.take_succ_eq_append_getElem hlt, Nm.ofs_snoc]
      have HTK := Lib.hid htk
      have HALL := Lib.hid (fun h => all_take hlt hall h)
      have HBAD := Lib.hid (fun h => Nm.ofRes_bad hlt h)
      obtain ⟨x, hx⟩ : ∃ x, x = l[i] := ⟨_, rfl⟩
      obtain ⟨ac, hac⟩ : ∃ ac, ac = Nm.ofs (l.take i) := ⟨_, rfl⟩
      rw [← hac] at hof hown
      rw [← hx] at x1
      have HAC := Lib.hid hac
      have HO := Lib.hid hown; have HBE := Lib.hid hbel
      clear x0 hcell hown hbel hall htk hac
      have HX := Lib.hid hx; clear hx
      cases hr : Nm.isRune x with
      | false =>
        go_wp2_with fail
        refine (refRune _ _).mono ?_
        rintro _ w1 ⟨rfl, hw1⟩
        obtain rfl := hw1.symm
        rw [hr]
        go_wp2_with fail
        go_returns
        rw [HBAD.out (by rw [← HX.out]; exact hr)]
        exact ⟨⟨_, rfl, Sees.nil _ _⟩, HBE.out⟩
      | true =>
        have hrr := (Nm.isRune_iff x).1 hr
        obtain ⟨n, rfl⟩ := Int.eq_ofNat_of_zero_le hrr.1
        have hn : n < 2097152 := by omega
        have HR := Lib.hid hr
        have ol : (Nm.one n).length ≤ 4 := by rw [Nm.one_len]; exact Nm.oneLen_le n
        clear hrr
        go_wp2_with fail
        refine (refRune _ _).mono ?_
        rintro _ w1 ⟨rfl, hw1⟩
        obtain rfl := hw1.symm
        rw [HR.out]
        clear hr
        go_wp2_with fail
        refine (refOne n _ hn).mono ?_
        rintro _ w2 ⟨⟨v2, rfl, s2⟩, b2⟩
        obtain ⟨A2, k2, rfl, _, _⟩ := s2.len
        have O2 := Lib.hid (HO.out.below b2 (Nat.le_refl _))
        have B2 := Lib.hid (HBE.out.trans (b2.mono hsz))
        have z2 : w.heap.size ≤ w2.heap.size := Nat.le_trans hsz b2.size
        have S2 := Lib.hid s2; clear s2 b2
        go_wp2_with (at_builtin; refine app_src Tryd.underlying22 hi hz0 hz1 hz2 rfl (.tmp 18) (.tmp 23) rfl rfl rfl S2.out O2.out B2.out z2 (by omega) (by unfold maxLen; omega) ?_; intro v3 w3 o3 b3 z3 _)
        rw [HAC.out] at o3
        have hq : Nm.ofs (l.take i) ++ Nm.one n = Nm.ofs (l.take (i + 1)) := by rw [HTK.out, ← HX.out]; simp
        rw [hq] at o3
        refine ⟨⟨i + 1, by simp, by omega, o3, b3, z3, HALL.out (by rw [← HX.out]; exact HR.out)⟩, by simp only [intOf]; omega⟩

end Go.Proofs.YtdlfmchpaohoaaaDoor
