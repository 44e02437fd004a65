/- gimletkit.SameCells, SameValue, SameValues: contracts. -/
import Derived.Test.YtgohnekaolgblaaTrNum
import Derived.Test.YtgohnekaolgblaaSees
import Derived.Deep.RegionHeld3
import Derived.BigQuiet
import Derived.Deep.QuietTactic
namespace Go.Proofs.Ytgohnekaolgblaa
open Go.RowKit

theorem below_drewN {B : Nat} {a w : World} (h : Below B a w) (n : Nat) : Below B a (w.drewN n) := ⟨h.os, h.tape, h.output, h.size, h.block⟩

set_option maxHeartbeats 1000000 in
theorem sameCells (va vb : Value) (xs ys : List Int) (w : World) (ha : Sees .u32 w va xs) (hb : Sees .u32 w vb ys) :
    Calls Try.prog 21 #[va, vb] w fun e w' => e = .returned (.bool (decide (xs = ys))) ∧ Below w.heap.size w w' := by
  obtain ⟨A, c, rfl, ha1, ha2, ha3⟩ := ha
  obtain ⟨A', c', rfl, hb1, hb2, hb3⟩ := hb
  unfold maxLen at ha2 hb2
  obtain ⟨r, hr⟩ : ∃ r, r = decide (xs = ys) := ⟨_, rfl⟩
  rw [← hr]
  replace hr := Lib.hid hr
  by_cases hl : xs.length = ys.length
  · obtain ⟨n, hn⟩ : ∃ n, n = xs.length := ⟨_, rfl⟩
    have hn' : ys.length = n := by omega
    rw [hn', ← hn]
    rw [hn'] at hb1
    rw [← hn] at ha1
    have HN := Lib.hid (And.intro hn.symm hn')
    replace ha3 := Lib.hid ha3
    replace hb3 := Lib.hid hb3
    clear hn hn' hl
    go_enter Try.func21, Try.ntmps21
    go_wp2_with fail
    go_loopw [5] (fun q wr => ∃ i : Nat, q = .int .i64 (i : Int) ∧ i ≤ n ∧ xs.take i = ys.take i ∧ Below w.heap.size w wr) (fun q _ => n - (intOf q).toNat)
    case atStart => exact ⟨0, rfl, by omega, by simp, B.refl w⟩
    case round =>
      obtain ⟨i, rfl, hi, hpre, hbel⟩ := hrel
      by_cases hil : i < n
      · have hx : i < xs.length := by have := HN.out.1; omega
        have hy : i < ys.length := by have := HN.out.2; omega
        obtain ⟨b1, o1, rfl, hc1⟩ := ha3.out (by intro e; subst e; simp at hx)
        obtain ⟨b2, o2, rfl, hc2⟩ := hb3.out (by intro e; subst e; simp at hy)
        have d1 := cellK hbel (hc1 i hx)
        have d2 := cellK hbel (hc2 i hy)
        have HB := Lib.hid hbel
        replace hpre := Lib.hid hpre
        clear hc1 hc2 hbel
        by_cases he : xs[i] = ys[i]
        · rw [he] at d1
          go_wp2_with fail
          go_quiet (fail)
          go_wp2_with fail
          go_roundw
          case measure => simp only [intOf]; omega
          case rel =>
            refine ⟨i + 1, rfl, by omega, ?_, below_drewN HB.out _⟩
            rw [List.take_add_one, List.take_add_one, List.getElem?_eq_getElem hx, List.getElem?_eq_getElem hy, he, hpre.out]
        · have hne : decide (xs = ys) = false := by
            simp only [decide_eq_false_iff_not]
            intro e; subst e; exact he rfl
          rw [← hr.out] at hne
          replace hne := Lib.hid hne
          go_wp2_with fail
          go_quiet (fail)
          go_wp2_with fail
          go_returns
          exact ⟨by rw [hne.out]; rfl, below_drewN HB.out _⟩
      · have hie : i = n := by omega
        subst hie
        have he : decide (xs = ys) = true := by
          have h1 := HN.out.1
          have h2 := HN.out.2
          rw [List.take_of_length_le (by omega), List.take_of_length_le (by omega)] at hpre
          simpa using hpre
        rw [← hr.out] at he
        replace he := Lib.hid he
        clear hpre
        have HB := Lib.hid hbel
        clear hbel
        go_wp2_with fail
        go_returns
        exact ⟨by rw [he.out]; rfl, HB.out⟩
  · have hne : decide (xs = ys) = false := by
      simp only [decide_eq_false_iff_not]
      intro e; exact hl (by rw [e])
    rw [← hr.out] at hne
    replace hne := Lib.hid hne
    go_enter Try.func21, Try.ntmps21
    go_wp2_with fail
    go_returns
    exact ⟨by rw [hne.out]; rfl, B.refl _⟩

mutual
/-- Are two trees the same? -/
def Tr.same : Tr → Tr → Bool
  | .mk k n s l, t => (k == t.k) && (n == t.n) && (s.toList == t.s.toList) && Tr.sames l t.l
def Tr.sames : List Tr → List Tr → Bool
  | [], [] => true
  | x :: l, y :: m => x.same y && Tr.sames l m
  | _, _ => false
end

theorem Tr.sames_length {l m : List Tr} (h : l.length ≠ m.length) : Tr.sames l m = false := by
  induction l generalizing m with
  | nil => cases m with
    | nil => exact absurd rfl h
    | cons y m => rfl
  | cons x l ih =>
    cases m with
    | nil => rfl
    | cons y m =>
      simp only [Tr.sames]
      rw [ih (by simpa using h), Bool.and_false]
theorem Tr.sames_iff (l m : List Tr) (h : l.length = m.length) : Tr.sames l m = true ↔ ∀ i (h1 : i < l.length) (h2 : i < m.length), l[i].same m[i] = true := by
  induction l generalizing m with
  | nil => cases m with
    | nil => simp [Tr.sames]
    | cons y m => cases h
  | cons x l ih =>
    cases m with
    | nil => cases h
    | cons y m =>
      simp only [Tr.sames, Bool.and_eq_true, ih m (by simpa using h)]
      constructor
      · rintro ⟨h1, h2⟩ i hi1 hi2
        cases i with
        | zero => exact h1
        | succ i => exact h2 i (by simpa using hi1) (by simpa using hi2)
      · intro hh
        exact ⟨hh 0 (by simp) (by simp), fun i h1 h2 => hh (i + 1) (by simpa using h1) (by simpa using h2)⟩
theorem Tr.same_iff (t : Tr) : ∀ u, t.same u = true ↔ t = u := by
  induction t using Tr.ind
  rename_i k n s l ih
  rintro ⟨k', n', s', l'⟩
  simp only [Tr.same, Tr.k, Tr.n, Tr.s, Tr.l, Bool.and_eq_true, beq_iff_eq]
  by_cases hl : l.length = l'.length
  · rw [Tr.sames_iff l l' hl]
    constructor
    · rintro ⟨⟨⟨rfl, rfl⟩, hs⟩, hh⟩
      have hs' : s = s' := by
        rw [ByteArray.toList_eq, ByteArray.toList_eq] at hs
        obtain ⟨⟨d⟩⟩ := s
        obtain ⟨⟨d'⟩⟩ := s'
        simp only at hs
        rw [hs]
      subst hs'
      congr 1
      exact List.ext_getElem hl (fun i h1 h2 => (ih _ (List.getElem_mem h1) _).1 (hh i h1 h2))
    · intro e
      injection e with e1 e2 e3 e4
      subst e1 e2 e3 e4
      exact ⟨⟨⟨rfl, rfl⟩, rfl⟩, fun i h1 h2 => (ih _ (List.getElem_mem h1) _).2 rfl⟩
  · rw [Tr.sames_length hl]
    constructor
    · rintro ⟨_, h⟩; cases h
    · intro e; injection e with _ _ _ e4; subst e4; exact absurd rfl hl

/-- A list of trees. -/
def TrL (S : Nat → Nat → Prop) (w : World) (v : Value) (l : List Tr) : Prop := ∃ A cap, v = .slice A l.length cap ∧ l.length ≤ cap ∧ cap ≤ maxLen ∧ (l ≠ [] → ∃ b off, A = some ⟨b, off, none⟩ ∧ S b off ∧ Tr.ats S w l b off)
theorem Tr.at_list {S : Nat → Nat → Prop} {w : World} {t : Tr} {v : Value} (h : Tr.at S w t v) : ∃ vl, v = .agg #[.int .i64 t.k, .int .i64 t.n, .string t.s, vl] ∧ TrL S w vl t.l := by
  obtain ⟨A, cap, rfl, hh⟩ := Tr.at_agg h
  exact ⟨_, rfl, A, cap, rfl, hh⟩
theorem TrL.below {S : Nat → Nat → Prop} {w w' : World} {v : Value} {l : List Tr} (h : TrL S w v l) {C : Nat} (hb : Below C w w') (hC : ∀ b off, S b off → b < C) : TrL S w' v l := by
  obtain ⟨A, cap, rfl, h1, h2, h3⟩ := h
  refine ⟨A, cap, rfl, h1, h2, fun hne => ?_⟩
  obtain ⟨b, off, rfl, hs, ha⟩ := h3 hne
  refine ⟨b, off, rfl, hs, Tr.ats_of fun i hi => ?_⟩
  obtain ⟨v0, v1, v2, v3, c0, c1, c2, c3, ha⟩ := Tr.ats_get ha i hi
  have k : ∀ o, w'.cell? ⟨b, o, none⟩ = w.cell? ⟨b, o, none⟩ := fun o => hb.cell (p := ⟨b, o, none⟩) (hC b off hs)
  exact ⟨v0, v1, v2, v3, (k _).trans c0, (k _).trans c1, (k _).trans c2, (k _).trans c3, Tr.at_below ha hb hC⟩

/-- What SameValue does of these trees. -/
def SameHyp (l : List Tr) : Prop := ∀ t ∈ l, ∀ (u : Tr) (S S' : Nat → Nat → Prop) (w : World) (v v' : Value), Tr.at S w t v → Tr.at S' w u v' → (∀ b off, S b off → b < w.heap.size) → (∀ b off, S' b off → b < w.heap.size) →
    Calls Try.prog 36 #[v, v'] w fun e w' => e = .returned (.bool (t.same u)) ∧ Below w.heap.size w w'

set_option maxHeartbeats 1000000 in
theorem sameValues (l m : List Tr) (S S' : Nat → Nat → Prop) (w : World) (va vb : Value) (HI : Hid (SameHyp l)) (ha : TrL S w va l) (hb : TrL S' w vb m) (hS : ∀ b off, S b off → b < w.heap.size) (hS' : ∀ b off, S' b off → b < w.heap.size) :
    Calls Try.prog 78 #[va, vb] w fun e w' => e = .returned (.bool (Tr.sames l m)) ∧ Below w.heap.size w w' := by
  obtain ⟨A, c, rfl, ha1, ha2, ha3⟩ := ha
  obtain ⟨A', c', rfl, hb1, hb2, hb3⟩ := hb
  unfold maxLen at ha2 hb2
  obtain ⟨r, hr⟩ : ∃ r, r = Tr.sames l m := ⟨_, rfl⟩
  rw [← hr]
  replace hr := Lib.hid hr
  by_cases hl : l.length = m.length
  · obtain ⟨n, hn⟩ : ∃ n, n = l.length := ⟨_, rfl⟩
    have hn' : m.length = n := by omega
    have hiff := Tr.sames_iff l m hl
    rw [← hr.out] at hiff
    replace hiff := Lib.hid hiff
    rw [hn', ← hn]
    rw [hn'] at hb1
    rw [← hn] at ha1
    have HN := Lib.hid (And.intro hn.symm hn')
    replace ha3 := Lib.hid ha3
    replace hb3 := Lib.hid hb3
    replace hS := Lib.hid hS
    replace hS' := Lib.hid hS'
    clear hn hn' hl
    go_enter Try.func78, Try.ntmps78
    go_wp2_with fail
    go_loopw [5] (fun q wr => ∃ i : Nat, q = .int .i64 (i : Int) ∧ i ≤ n ∧ (∀ j (h1 : j < l.length) (h2 : j < m.length), j < i → l[j].same m[j] = true) ∧ Below w.heap.size w wr) (fun q _ => n - (intOf q).toNat)
    case atStart => exact ⟨0, rfl, by omega, fun j _ _ h => absurd h (by omega), B.refl w⟩
    case round =>
      obtain ⟨i, rfl, hi, hpre, hbel⟩ := hrel
      by_cases hil : i < n
      · have hx : i < l.length := by have := HN.out.1; omega
        have hy : i < m.length := by have := HN.out.2; omega
        obtain ⟨b1, o1, rfl, s1, hc1⟩ := ha3.out (by intro e; subst e; simp at hx)
        obtain ⟨b2, o2, rfl, s2, hc2⟩ := hb3.out (by intro e; subst e; simp at hy)
        obtain ⟨A1, k1, d0, d1, d2, d3, q1, q2, t1⟩ := Tr.ats_cells hc1 i hx
        obtain ⟨A2, k2, e0, e1, e2, e3, q3, q4, t2⟩ := Tr.ats_cells hc2 i hy
        have hb1w := hS.out _ _ s1
        have hb2w := hS'.out _ _ s2
        have kc1 : ∀ o, wr.cell? ⟨b1, o, none⟩ = w.cell? ⟨b1, o, none⟩ := fun o => hbel.cell (p := ⟨b1, o, none⟩) hb1w
        have kc2 : ∀ o, wr.cell? ⟨b2, o, none⟩ = w.cell? ⟨b2, o, none⟩ := fun o => hbel.cell (p := ⟨b2, o, none⟩) hb2w
        rw [← kc1] at d0 d1 d2 d3
        rw [← kc2] at e0 e1 e2 e3
        have T1 := Lib.hid (Tr.at_below t1 hbel hS.out)
        have T2 := Lib.hid (Tr.at_below t2 hbel hS'.out)
        have HB := Lib.hid hbel
        have hz := hbel.size
        replace hpre := Lib.hid hpre
        obtain ⟨rr, hrr⟩ : ∃ rr, rr = l[i].same m[i] := ⟨_, rfl⟩
        have hcall := fun w' (hb : Below w.heap.size w w') => HI.out l[i] (List.getElem_mem hx) m[i] S S' w' _ _ (Tr.at_below t1 hb hS.out) (Tr.at_below t2 hb hS'.out) (fun b off h => by have := hS.out b off h; have := hb.size; omega) (fun b off h => by have := hS'.out b off h; have := hb.size; omega)
        rw [← hrr] at hcall
        replace hcall := Lib.hid hcall
        replace hrr := Lib.hid hrr
        clear hc1 hc2 t1 t2 kc1 kc2 hbel s1 s2
        go_wp2_with fail
        go_region_held3 (fun w' => w'.cell? ⟨b1, o1 + i * 4, none⟩ = some (.int .i64 l[i].k) ∧ w'.cell? ⟨b1, o1 + i * 4 + 1, none⟩ = some (.int .i64 l[i].n) ∧ w'.cell? ⟨b1, o1 + i * 4 + 2, none⟩ = some (.string l[i].s) ∧ w'.cell? ⟨b1, o1 + i * 4 + 3, none⟩ = some (.slice A1 l[i].l.length k1) ∧ w'.cell? ⟨b2, o2 + i * 4, none⟩ = some (.int .i64 m[i].k) ∧ w'.cell? ⟨b2, o2 + i * 4 + 1, none⟩ = some (.int .i64 m[i].n) ∧ w'.cell? ⟨b2, o2 + i * 4 + 2, none⟩ = some (.string m[i].s) ∧ w'.cell? ⟨b2, o2 + i * 4 + 3, none⟩ = some (.slice A2 m[i].l.length k2))
          (first | go_keep | (go_split_ands; exact ⟨cellK bq (by assumption), cellK bq (by assumption), cellK bq (by assumption), cellK bq (by assumption), cellK bq (by assumption), cellK bq (by assumption), cellK bq (by assumption), cellK bq (by assumption)⟩))
          ((first
          | (go_at_call 36; refine (hcall.out _ HB.out.drew).mono ?_; rintro _ w2 ⟨rfl, bq⟩)))
        cases rr
        · have hne : r = false := by
            cases hrv : r
            · rfl
            · have := hiff.out.1 hrv i hx hy
              rw [← hrr.out] at this
              cases this
          replace hne := Lib.hid hne
          all_goals go_wp2_with fail
          all_goals go_returns
          all_goals exact ⟨by rw [hne.out]; rfl, B.call HB.out.drew bq⟩
        · go_wp2_with fail
          go_roundw
          case measure => simp only [intOf]; omega
          case rel =>
            refine ⟨i + 1, rfl, by omega, fun j h1 h2 hj => ?_, B.call HB.out.drew bq⟩
            by_cases hje : j = i
            · subst hje; exact hrr.out.symm
            · exact hpre.out j h1 h2 (by omega)
      · have hie : i = n := by omega
        subst hie
        have he : r = true := hiff.out.2 (fun j h1 h2 => hpre j h1 h2 (by have := HN.out.1; omega))
        have HB := Lib.hid hbel
        replace he := Lib.hid he
        clear hpre hbel
        go_wp2_with fail
        go_returns
        exact ⟨by rw [he.out]; rfl, HB.out⟩
  · have hne : r = false := by rw [hr.out, Tr.sames_length hl]
    replace hne := Lib.hid hne
    go_enter Try.func78, Try.ntmps78
    go_wp2_with fail
    go_returns
    exact ⟨by rw [hne.out]; rfl, B.refl _⟩

set_option maxHeartbeats 1000000 in
theorem sameValue (t : Tr) : SameHyp [t] := by
  induction t using Tr.ind
  rename_i k n s l ih
  intro t ht u S S' w v v' hv hv' hS hS'
  obtain rfl := List.mem_singleton.1 ht
  obtain ⟨uk, un, us, ul⟩ := u
  obtain ⟨vl, rfl, hl⟩ := Tr.at_list hv
  obtain ⟨vm, rfl, hm⟩ := Tr.at_list hv'
  have hyp : SameHyp l := fun t ht => ih t ht t (List.mem_singleton.2 rfl)
  have hsv := fun w' (hb : Below w.heap.size w w') => sameValues l ul S S' w' vl vm (Lib.hid hyp) (hl.below hb hS) (hm.below hb hS') (fun b off h => by have := hS b off h; have := hb.size; omega) (fun b off h => by have := hS' b off h; have := hb.size; omega)
  obtain ⟨A, c, rfl, -⟩ := hl
  obtain ⟨A', c', rfl, -⟩ := hm
  have hr : (Tr.mk k n s l).same (.mk uk un us ul) = ((k == uk) && (n == un) && (s.toList == us.toList) && Tr.sames l ul) := by rw [Tr.same]; rfl
  rw [hr]
  obtain ⟨r, hrr⟩ : ∃ r, r = Tr.sames l ul := ⟨_, rfl⟩
  rw [← hrr] at hsv ⊢
  replace hsv := Lib.hid hsv
  clear hr hrr hyp ih ht hv hv' hS hS'
  simp only [Tr.k, Tr.n, Tr.s, Tr.l] at *
  by_cases h1 : k = uk
  · by_cases h2 : n = un
    · cases h3 : (s.toList == us.toList)
      · subst h1 h2
        go_enter Try.func36, Try.ntmps36
        go_wp2_with fail
        go_returns
        exact ⟨by simp, B.alloc (B.alloc (B.refl w) _) _⟩
      · subst h1 h2
        go_enter Try.func36, Try.ntmps36
        go_wp2_with fail
        refine (hsv.out _ (B.alloc (B.alloc (B.refl w) _) _)).mono ?_
        rintro _ w2 ⟨rfl, bq⟩
        have HB := Lib.hid (B.call (B.alloc (B.alloc (B.refl w) _) _) bq)
        clear bq
        go_wp2_with fail
        go_returns
        exact ⟨by simp, HB.out⟩
    · have e2 : (n == un) = false := by simpa using h2
      subst h1
      go_enter Try.func36, Try.ntmps36
      go_wp2_with fail
      go_returns
      exact ⟨by simp [e2], B.alloc (B.alloc (B.refl w) _) _⟩
  · have e1 : (k == uk) = false := by simpa using h1
    go_enter Try.func36, Try.ntmps36
    go_wp2_with fail
    go_returns
    exact ⟨by simp [e1], B.alloc (B.alloc (B.refl w) _) _⟩

end Go.Proofs.Ytgohnekaolgblaa
