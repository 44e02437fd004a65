/- A value that is laid is a heap, all of which can be reached: plain. -/
import Derived.Test.YtgohnekaolgblaaHpLaw6
import Derived.Test.YtgohnekaolgblaaTrVals
import Derived.Test.YtgohnekaolgblaaWdLay
import Derived.Test.YtgohnekaolgblaaHeapMoves
namespace Go.Proofs.Ytgohnekaolgblaa
open Go.RowKit

/-- How many words a tree has, told by its values and bytes. -/
theorem Hp.size_vals (t : Tr) : ∀ m : Int, 0 ≤ m → t.vals m ≤ m → (t.size : Int) + 1 ≤ 2 * t.vals m := by
  induction t using Tr.ind
  rename_i k n0 s l ih
  intro m hm
  have hl : ∀ (l' : List Tr), (∀ t ∈ l', t ∈ l) → ∀ n : Int, 1 ≤ n → n ≤ m + 1 → Tr.valsL l' m n ≤ m → n ≤ m ∧ 2 * n + Tr.sizes l' + l'.length ≤ 2 * Tr.valsL l' m n := by
    intro l'
    induction l' with
    | nil => intro _ n h1 h2 h3; simp only [Tr.valsL, Tr.sizes, List.length_nil] at h3 ⊢; omega
    | cons t l' ih' =>
      intro hs n h1 h2 h3
      simp only [Tr.valsL, Tr.sizes, List.length_cons] at h3 ⊢
      by_cases hn : n ≤ m
      · rw [if_pos hn] at h3 ⊢
        have ht := Tr.vals_le t (m - n) (by omega)
        have hi := ih t (hs t (by simp)) (m - n) (by omega)
        have h := ih' (fun t ht => hs t (by simp [ht])) (n + t.vals (m - n)) (by omega) (by omega) h3
        have h4 := hi (by omega)
        omega
      · rw [if_neg hn] at h3
        omega
  intro hv
  simp only [Tr.vals] at hv ⊢
  have h := hl l (fun _ h => h) (1 + min (s.size : Int) m) (by omega) (by omega) hv
  simp only [Tr.size]
  split
  · omega
  · split <;> omega

/-- A word that is odd, or the address of one of the things. -/
def Hp.nm (H : List Nat) (w : Int) : Prop := w % 2 = 1 ∨ ∃ j ∈ H, w = 16 + 4 * (j : Int)
theorem Hp.nm.mono {H H' : List Nat} {w : Int} (h : Hp.nm H w) (hs : ∀ j ∈ H, j ∈ H') : Hp.nm H' w := by
  rcases h with h | ⟨j, hj, e⟩
  · exact .inl h
  · exact .inr ⟨j, hs j hj, e⟩
def Hp.cl (ls : List Int) (O : Nat → Prop) : Prop := ∀ i, O i → ∀ j : Nat, (16 + 4 * (j : Int)) ∈ Hp.fields ls i → O j
/-- What is laid from one place to another, and is named by these words. -/
structure Hp.Laid (ls : List Int) (p q : Nat) (ws : List Int) (H : List Nat) : Prop where
  from_ : ∀ hs', Hp.from ls q = some hs' → Hp.from ls p = some (H ++ hs')
  fields : ∀ i ∈ H, ∀ w ∈ Hp.fields ls i, Hp.nm H w
  own : ∀ w ∈ ws, Hp.nm H w
  reach : ∀ O : Nat → Prop, Hp.cl ls O → (∀ j : Nat, (16 + 4 * (j : Int)) ∈ ws → O j) → ∀ i ∈ H, O i
theorem Hp.Laid.nil {ls : List Int} {p : Nat} {ws : List Int} (h : ∀ w ∈ ws, w % 2 = 1) : Hp.Laid ls p p ws [] :=
  ⟨fun _ h => h, fun _ h => absurd h (by simp), fun w hw => Or.inl (h w hw), fun _ _ _ _ h => absurd h (by simp)⟩
theorem Hp.Laid.append {ls : List Int} {p q r : Nat} {ws ws' : List Int} {H H' : List Nat} (h : Hp.Laid ls p q ws H) (h' : Hp.Laid ls q r ws' H') : Hp.Laid ls p r (ws ++ ws') (H ++ H') := by
  refine ⟨fun hs' e => ?_, fun i hi w hw => ?_, fun w hw => ?_, fun O hO hj i hi => ?_⟩
  · rw [List.append_assoc]; exact h.from_ _ (h'.from_ _ e)
  · rcases List.mem_append.1 hi with hi | hi
    · exact (h.fields i hi w hw).mono fun j hj => by simp [hj]
    · exact (h'.fields i hi w hw).mono fun j hj => by simp [hj]
  · rcases List.mem_append.1 hw with hw | hw
    · exact (h.own w hw).mono fun j hj => by simp [hj]
    · exact (h'.own w hw).mono fun j hj => by simp [hj]
  · rcases List.mem_append.1 hi with hi | hi
    · exact h.reach O hO (fun j h => hj j (by simp [h])) i hi
    · exact h'.reach O hO (fun j h => hj j (by simp [h])) i hi
theorem Hp.Laid.thing {ls : List Int} {p q wn : Nat} {h : Int} {ws : List Int} {H : List Nat} (hp : ls[p]? = some h) (hw : Wd.words h = ((wn : Int), true)) (hl : p + wn ≤ ls.length) (hf : Hp.fields ls p = ws) (hL : Hp.Laid ls (p + wn) q ws H) : Hp.Laid ls p q [16 + 4 * (p : Int)] (p :: H) := by
  obtain ⟨hlt, hge⟩ := List.getElem?_eq_some_iff.1 hp
  have hwn : Hp.wn ls[p] = wn := by unfold Hp.wn; rw [hge, hw]; rfl
  refine ⟨fun hs' e => ?_, fun i hi w hw => ?_, fun w hw => ?_, fun O hO hj i hi => ?_⟩
  · rw [Hp.from_next ls p hlt (by rw [hge, hw]) (by rw [hwn]; exact hl), hwn, hL.from_ _ e]
    rfl
  · rcases List.mem_cons.1 hi with rfl | hi
    · rw [hf] at hw
      exact (hL.own w hw).mono fun j hj => by simp [hj]
    · exact (hL.fields i hi w hw).mono fun j hj => by simp [hj]
  · rw [List.mem_singleton] at hw
    exact .inr ⟨p, by simp, hw⟩
  · have hOp : O p := hj p (by simp)
    rcases List.mem_cons.1 hi with rfl | hi
    · exact hOp
    · exact hL.reach O hO (fun j h => hO p hOp j (by rw [hf]; exact h)) i hi

theorem Tr.laids (ls : List Int) (l : List Tr)
    (IH : ∀ t ∈ l, ∀ (pre post : List Int), t.fine = true → ls = pre ++ t.words (16 + 4 * pre.length) ++ post → ∃ H, Hp.Laid ls pre.length (pre.length + t.size) [t.word (16 + 4 * pre.length)] H) :
    ∀ (pre post : List Int) (a : Int) (p : Nat), Tr.fines l = true → (a + 4 * (p : Int)) % 4294967296 = 16 + 4 * pre.length → ls.length ≤ 65536 → ls = pre ++ Tr.mores a p l ++ post → ∃ H, Hp.Laid ls pre.length (pre.length + Tr.sizes l) (Tr.owns a p l) H := by
  induction l with
  | nil => intro pre post a p _ _ _ _; exact ⟨[], Hp.Laid.nil (by simp [Tr.owns])⟩
  | cons t l ih =>
    intro pre post a p hf ha hll hls
    simp only [Tr.fines, Bool.and_eq_true] at hf
    simp only [Tr.mores] at hls
    rw [ha] at hls
    have hlen : (pre ++ t.words (16 + 4 * (pre.length : Int))).length = pre.length + t.size := by rw [List.length_append, Tr.words_length]
    obtain ⟨H1, h1⟩ := IH t (by simp) pre (Tr.mores a (p + t.size) l ++ post) hf.1 (by rw [hls]; simp only [List.append_assoc])
    have hb : pre.length + t.size ≤ ls.length := by
      have := congrArg List.length hls
      simp only [List.length_append, Tr.words_length] at this
      omega
    obtain ⟨H2, h2⟩ := ih (fun t ht => IH t (by simp [ht])) (pre ++ t.words (16 + 4 * (pre.length : Int))) post a (p + t.size) hf.2 (by rw [hlen]; omega) hll (by rw [hls]; simp only [List.append_assoc])
    rw [hlen] at h2
    refine ⟨H1 ++ H2, ?_⟩
    simp only [Tr.owns, Tr.sizes]
    rw [ha, ← Nat.add_assoc]
    exact h1.append h2

theorem Tr.laid (ls : List Int) (hll : ls.length ≤ 65536) (t : Tr) : ∀ (pre post : List Int), t.fine = true → ls = pre ++ t.words (16 + 4 * pre.length) ++ post → ∃ H, Hp.Laid ls pre.length (pre.length + t.size) [t.word (16 + 4 * pre.length)] H := by
  induction t using Tr.ind
  rename_i k n s l ih
  intro pre post hf hls
  simp only [Tr.fine, Bool.and_eq_true] at hf
  obtain ⟨hmay, hfs⟩ := hf
  obtain ⟨a, ha⟩ : ∃ a, a = 16 + 4 * (pre.length : Int) := ⟨_, rfl⟩
  rw [← ha] at hls ⊢
  have hwd : ∀ b, (Tr.mk k n s l).word b = if k = 1 ∨ (k = 3 ∧ l.length = 0) then Wd.odd n else b := fun _ => rfl
  rw [hwd]
  by_cases hk : k = 1 ∨ (k = 3 ∧ l.length = 0)
  · rw [if_pos hk, Tr.size, if_pos hk]
    exact ⟨[], Hp.Laid.nil (by intro w hw; rw [List.mem_singleton] at hw; subst hw; unfold Wd.odd; omega)⟩
  · rw [if_neg hk]
    rw [Tr.words, if_neg hk] at hls
    have hget : ∀ (h : Int) (W : List Int), ls = pre ++ (h :: W) ++ post → ls[pre.length]? = some h ∧ ls.drop (pre.length + 1) = W ++ post := by
      intro h W e
      subst e
      refine ⟨by simp, ?_⟩
      rw [List.append_assoc, List.cons_append, List.drop_append, List.drop_eq_nil_of_le (by omega), show pre.length + 1 - pre.length = 1 by omega]
      rfl
    by_cases hk2 : k = 2
    · subst hk2
      rw [if_pos rfl] at hls
      have hs : s.size ≤ 4096 ∧ n = 0 ∧ l.length = 0 := by unfold Wd.may at hmay; simp at hmay; exact ⟨by omega, hmay.1, by simp [hmay.2.2]⟩
      obtain ⟨hs, rfl, hl⟩ := hs
      obtain ⟨g1, g2⟩ := hget _ _ hls
      have hok := Wd.head_text s.size hs
      have hlen := congrArg List.length hls
      simp only [List.length_append, List.length_cons, Wd.tw_length] at hlen
      rw [Tr.size, if_neg hk, if_pos rfl]
      refine ⟨_, ha ▸ Hp.Laid.thing (wn := 1 + (s.size + 3) / 4) (ws := []) (H := []) g1 ?_ (by omega) ?_ (Hp.Laid.nil (by simp))⟩
      · rw [Wd.words_head hok, if_pos rfl]
        congr 1
      · unfold Hp.fields
        rw [g1]
        simp only
        rw [Wd.unhead_head hok, if_pos rfl]
    · rw [if_neg hk2] at hls
      have h34 : (k = 3 ∨ k = 4) ∧ 0 ≤ n ∧ n ≤ 65535 ∧ l.length ≤ 1024 := by
        have h1 : k ≠ 1 := fun e => hk (.inl e)
        unfold Wd.may at hmay
        simp only [h1, hk2, if_false] at hmay
        split at hmay
        · simp at hmay; exact ⟨by assumption, hmay.1, hmay.2.1, hmay.2.2.2⟩
        · cases hmay
      obtain ⟨hk34, hn0, hn1, hlc⟩ := h34
      obtain ⟨g1, g2⟩ := hget _ _ hls
      have hok : Wd.headOk (if k = 4 then 1 else 0) n l.length := Wd.head_thing _ n l.length (by split <;> omega) hn0 hn1 hlc
      have hlen := congrArg List.length hls
      simp only [List.length_append, List.length_cons, Tr.owns_length, Tr.mores_length] at hlen
      have hne : ¬ (if k = 4 then (1 : Int) else 0) = 2 := by split <;> decide
      have hpl : (pre ++ ((Wd.head (if k = 4 then 1 else 0) n l.length).1 :: Tr.owns a (1 + l.length) l)).length = pre.length + (1 + l.length) := by
        simp only [List.length_append, List.length_cons, Tr.owns_length]; omega
      obtain ⟨H, hH⟩ := Tr.laids ls l (fun t ht pre post => ih t ht pre post) (pre ++ ((Wd.head (if k = 4 then 1 else 0) n l.length).1 :: Tr.owns a (1 + l.length) l)) post a (1 + l.length) hfs (by rw [hpl]; omega) hll (by rw [hls]; simp only [List.append_assoc, List.cons_append])
      rw [hpl] at hH
      rw [Tr.size, if_neg hk, if_neg hk2]
      refine ⟨_, ha ▸ Hp.Laid.thing (wn := 1 + l.length) g1 ?_ (by omega) ?_ (by rw [Nat.add_assoc] at hH; exact hH)⟩
      · rw [Wd.words_head hok, if_neg hne]
        congr 1
      · unfold Hp.fields
        rw [g1]
        simp only
        rw [Wd.unhead_head hok, if_neg hne, g2]
        unfold Hp.sz
        rw [Wd.unhead_head hok]
        simp only [Int.toNat_natCast]
        rw [List.append_assoc, List.take_append_of_le_length (by rw [Tr.owns_length]; exact Nat.le_refl _), List.take_of_length_le (by rw [Tr.owns_length]; exact Nat.le_refl _)]


theorem Hp.sum_ge (ls : List Int) : ∀ (m i : Nat) (hs : List Nat), ls.length - i ≤ m → Hp.from ls i = some hs → ∀ o : List Nat, (∀ j ∈ hs, j ∈ o) → ls.length - i ≤ Hp.sum ls o := by
  intro m
  induction m with
  | zero => intro i hs hm h o hsub; omega
  | succ m ih =>
    intro i hs hm h o hsub
    by_cases hi : i < ls.length
    · by_cases hb : (Wd.words ls[i]).2 = false ∨ ls.length < i + Hp.wn ls[i]
      · rw [Hp.from_bad ls i hi hb] at h; cases h
      · simp only [not_or] at hb
        have hw : (Wd.words ls[i]).2 = true := by simpa using hb.1
        have hp := (Wd.words_pos hw).1
        rw [Hp.from_next ls i hi hw (by omega)] at h
        obtain ⟨hs', h1, rfl⟩ := Option.map_eq_some_iff.1 h
        have hwa : Hp.wnAt ls i = Hp.wn ls[i] := by unfold Hp.wnAt; rw [List.getElem?_eq_getElem hi]
        rw [Hp.sum_erase ls i o (hsub i (by simp))]
        have := ih _ _ (by omega) h1 (o.erase i) (fun j hj => by
          have h2 := (Hp.from_head ls _ _ _ (Nat.le_refl _) h1 j hj).1
          exact (List.mem_erase_of_ne (by omega)).2 (hsub j (by simp [hj])))
        omega
    · omega

theorem Hp.visAll_sub {a : Int} {P : Nat → Prop} : ∀ (ws : List Int) (o : List Nat), (∀ w ∈ ws, Hp.adr a w → P (Hp.idx a w)) → (∀ i ∈ o, P i) → ∀ i ∈ Hp.visAll a ws o, P i := by
  intro ws
  induction ws with
  | nil => intro o _ ho; exact ho
  | cons w ws ih =>
    intro o hw ho
    refine ih (Hp.vis a o w) (fun x hx => hw x (by simp [hx])) ?_
    intro i hi
    unfold Hp.vis at hi
    split at hi
    · split at hi
      · exact ho i hi
      · rcases List.mem_append.1 hi with hi | hi
        · exact ho i hi
        · rw [List.mem_singleton] at hi
          subst hi
          exact hw w (by simp) (by assumption)
    · exact ho i hi
theorem Hp.ord_sub {ls : List Int} {a : Int} {P : Nat → Prop} (hc : ∀ i, P i → ∀ w ∈ Hp.fields ls i, Hp.adr a w → P (Hp.idx a w)) : ∀ (g k : Nat) (o : List Nat), (∀ i ∈ o, P i) → ∀ i ∈ Hp.ord ls a g k o, P i := by
  intro g
  induction g with
  | zero => intro k o ho; rw [Hp.ord]; exact ho
  | succ g ih =>
    intro k o ho
    rw [Hp.ord]
    cases hok : o[k]? with
    | none => exact ho
    | some j => exact ih (k + 1) _ (Hp.visAll_sub _ o (hc j (ho j (List.mem_of_getElem? hok))) ho)

theorem Hp.words5a : Wd.words 5 = (1, true) := by kernel_rfl
theorem Hp.words5b : (Wd.unhead 5).1 = 2 := by kernel_rfl
theorem Hp.from_five {ls : List Int} {n : Nat} {H : List Nat} (h5 : ∀ i, i < n → ls[i]? = some 5) (hn : n ≤ ls.length) (h : Hp.from ls n = some H) : ∀ d i, n - i = d → i ≤ n → Hp.from ls i = some (List.range' i d ++ H) := by
  intro d
  induction d with
  | zero =>
    intro i hd hi
    have e : i = n := by omega
    subst e
    exact h
  | succ d ih =>
    intro i hd hi
    have hlt : i < ls.length := by omega
    have hg := h5 i (by omega)
    rw [List.getElem?_eq_getElem hlt] at hg
    have hge := Option.some.inj hg
    have hwn : Hp.wn ls[i] = 1 := by unfold Hp.wn; rw [hge, Hp.words5a]; rfl
    rw [Hp.from_next ls i hlt (by rw [hge, Hp.words5a]) (by omega), hwn, ih (i + 1) (by omega) (by omega)]
    rfl
theorem Hp.nm.okw {H hs : List Nat} {w : Int} (h : Hp.nm H w) (hs' : ∀ j ∈ H, j ∈ hs) : Hp.okw (Hp.mem hs) 16 w = true := by
  unfold Hp.okw
  rcases h with h | ⟨j, hj, rfl⟩
  · have : Hp.isAdr 16 w = false := by unfold Hp.isAdr; simp; omega
    rw [this]; rfl
  · have e1 : Hp.whole 16 (16 + 4 * (j : Int)) = true := by unfold Hp.whole; simp; omega
    have e2 : Hp.idx 16 (16 + 4 * (j : Int)) = j := by unfold Hp.idx; omega
    rw [e1, e2]
    simp [Hp.mem, hs' j hj]
theorem Hp.nm.low {H : List Nat} {w : Int} (h : Hp.nm H w) : w % 2 = 0 → w < 16 → False := by
  rcases h with h | ⟨j, hj, rfl⟩ <;> omega

/-- A value behind texts of no bytes is a heap; its words are just those that can be reached. -/
theorem Hp.lay_heap (t : Tr) (n : Nat) (hf : t.fine = true) (hsz : n + t.size ≤ 65536) (to : Int) (ls : List Int) (w : Int) (hls : ls = List.replicate n 5 ++ t.words (16 + 4 * (n : Int))) (hw : w = t.word (16 + 4 * (n : Int))) :
    ∃ hs, Hp.Ok ls 16 [w] hs ∧ (∀ i ∈ hs, Hp.noLow 16 to (Hp.fields ls i)) ∧ Hp.noLow 16 to [w] ∧ Hp.sum ls (Hp.ordAll ls 16 [w]) = t.size := by
  have hlen : ls.length = n + t.size := by rw [hls, List.length_append, List.length_replicate, Tr.words_length]
  obtain ⟨H, L⟩ := Tr.laid ls (by omega) t (List.replicate n 5) [] hf (by rw [List.append_nil, List.length_replicate]; exact hls)
  rw [List.length_replicate, ← hw] at L
  have hfn := L.from_ [] (Hp.from_end _ _ (by omega))
  rw [List.append_nil] at hfn
  have h5 : ∀ i, i < n → ls[i]? = some 5 := fun i hi => by
    rw [hls, List.getElem?_append_left (by rw [List.length_replicate]; exact hi), List.getElem?_replicate, if_pos hi]
  have hf0 := Hp.from_five h5 (by omega) hfn n 0 (by omega) (Nat.zero_le _)
  have hfd : ∀ i ∈ List.range' 0 n ++ H, ∀ x ∈ Hp.fields ls i, Hp.nm H x := by
    intro i hi x hx
    rcases List.mem_append.1 hi with hi | hi
    · have hin : i < n := by rw [List.mem_range'_1] at hi; omega
      unfold Hp.fields at hx
      rw [h5 i hin] at hx
      simp only at hx
      rw [if_pos Hp.words5b] at hx
      cases hx
    · exact L.fields i hi x hx
  have hmem : ∀ j ∈ H, j ∈ List.range' 0 n ++ H := fun j hj => by simp [hj]
  have ok : Hp.Ok ls 16 [w] (List.range' 0 n ++ H) := by
    refine ⟨by omega, by simp, hf0, ⟨by decide, by decide, by decide⟩, ?_, fun i hi => ?_⟩
    · unfold Hp.okws
      rw [List.all_eq_true]
      exact fun x hx => (L.own x hx).okw hmem
    · unfold Hp.okws
      rw [List.all_eq_true]
      exact fun x hx => (hfd i hi x hx).okw hmem
  refine ⟨_, ok, fun i hi x hx h1 h2 => ((hfd i hi x hx).low h1 h2).elim, fun x hx h1 h2 => ((L.own x hx).low h1 h2).elim, ?_⟩
  obtain ⟨_, hI, _⟩ := Hp.move_desc ok 16
  have hb := hI.bound ok.heads
  have hadr : ∀ j : Nat, Hp.adr 16 (16 + 4 * (j : Int)) ∧ Hp.idx 16 (16 + 4 * (j : Int)) = j := fun j => Hp.adr_new ⟨by decide, by decide, by decide⟩ j
  have hnm : ∀ x, Hp.nm H x → Hp.adr 16 x → Hp.idx 16 x ∈ H := by
    intro x hx ha
    rcases hx with h | ⟨j, hj, rfl⟩
    · have := ha.1
      unfold Hp.isAdr at this
      simp at this
      omega
    · rw [(hadr j).2]; exact hj
  have hsub : ∀ i ∈ Hp.ordAll ls 16 [w], i ∈ H := by
    unfold Hp.ordAll
    exact Hp.ord_sub (P := fun i => i ∈ H) (fun i hi x hx ha => hnm x (L.fields i hi x hx) ha) _ _ _ (Hp.visAll_sub _ _ (fun x hx ha => hnm x (L.own x hx) ha) (fun i h => absurd h (by simp)))
  have hsup : ∀ i ∈ H, i ∈ Hp.ordAll ls 16 [w] := by
    refine L.reach (fun i => i ∈ Hp.ordAll ls 16 [w]) (fun i hi j hj => ?_) (fun j hj => ?_)
    · obtain ⟨q, hq, rfl⟩ := List.getElem_of_mem hi
      have h := Hp.ord_closed (ls.length + 1) 0 (Hp.visAll 16 [w] []) rfl (by change (Hp.ordAll ls 16 [w]).length ≤ _; omega) q hq (Nat.zero_le _) _ hj (hadr j).1
      rw [(hadr j).2] at h
      exact h
    · have h := Hp.roots_mem (ls := ls) (a := 16) (rs := [w]) hj (hadr j).1
      rw [(hadr j).2] at h
      exact h
  have h1 := Hp.sum_le ls _ n H (Nat.le_refl _) hfn _ hI.nodup hsub
  have h2 := Hp.sum_ge ls _ n H (Nat.le_refl _) hfn _ hsup
  omega


theorem Hp.word_range (t : Tr) (a : Int) (ha : 0 ≤ a ∧ a < 4294967296) : 0 ≤ t.word a ∧ t.word a < 4294967296 := by
  unfold Tr.word
  split
  · unfold Wd.odd; omega
  · exact ha
theorem Hp.owns_range (a : Int) (p : Nat) (l : List Tr) : ∀ x ∈ Tr.owns a p l, 0 ≤ x ∧ x < 4294967296 := by
  induction l generalizing p with
  | nil => intro x hx; cases hx
  | cons t l ih =>
    intro x hx
    rcases List.mem_cons.1 hx with rfl | hx
    · exact Hp.word_range _ _ (by omega)
    · exact ih _ x hx
theorem Hp.tw_range (bs : List Int) (hb : Byt bs) (m : Nat) : ∀ x ∈ Wd.tw bs m, 0 ≤ x ∧ x < 4294967296 := by
  intro x hx
  obtain ⟨j, _, rfl⟩ := List.mem_map.1 hx
  have h := Wd.wv_lt ((bs.drop (4 * j)).take 4) (fun n hn => hb n (List.mem_of_mem_drop (List.mem_of_mem_take hn)))
  refine ⟨h.1, Int.lt_of_lt_of_le h.2 ?_⟩
  have hl : ((bs.drop (4 * j)).take 4).length ≤ 4 := by simp; omega
  generalize ((bs.drop (4 * j)).take 4).length = k at hl
  rcases (show k = 0 ∨ k = 1 ∨ k = 2 ∨ k = 3 ∨ k = 4 by omega) with rfl | rfl | rfl | rfl | rfl <;> decide
theorem Hp.words_range (t : Tr) : t.fine = true → ∀ a, ∀ x ∈ t.words a, 0 ≤ x ∧ x < 4294967296 := by
  induction t using Tr.ind
  rename_i k n s l ih
  intro hf a x hx
  simp only [Tr.fine, Bool.and_eq_true] at hf
  obtain ⟨hmay, hfs⟩ := hf
  rw [Tr.words] at hx
  split at hx
  · cases hx
  rename_i hk
  split at hx
  · rename_i hk2
    subst hk2
    have hs : s.size ≤ 4096 := by unfold Wd.may at hmay; simp at hmay; omega
    rcases List.mem_cons.1 hx with rfl | hx
    · exact Wd.head_range (Wd.head_text s.size hs)
    · exact Hp.tw_range _ (Wd.byt_byt s) _ x hx
  · rename_i hk2
    have h34 : 0 ≤ n ∧ n ≤ 65535 ∧ l.length ≤ 1024 := by
      have h1 : k ≠ 1 := fun e => hk (.inl e)
      unfold Wd.may at hmay
      simp only [h1, hk2, if_false] at hmay
      split at hmay
      · simp at hmay; omega
      · cases hmay
    rcases List.mem_cons.1 hx with rfl | hx
    · exact Wd.head_range (Wd.head_thing _ n l.length (by split <;> omega) h34.1 h34.2.1 h34.2.2)
    · rcases List.mem_append.1 hx with hx | hx
      · exact Hp.owns_range a _ l x hx
      · have hm : ∀ (l' : List Tr) p, (∀ t ∈ l', t ∈ l) → Tr.fines l' = true → ∀ x ∈ Tr.mores a p l', 0 ≤ x ∧ x < 4294967296 := by
          intro l'
          induction l' with
          | nil => intro p _ _ x hx; cases hx
          | cons t l' ih' =>
            intro p hs hf' x hx
            simp only [Tr.fines, Bool.and_eq_true] at hf'
            simp only [Tr.mores] at hx
            rcases List.mem_append.1 hx with hx | hx
            · exact ih t (hs t (by simp)) hf'.1 _ x hx
            · exact ih' _ (fun t ht => hs t (by simp [ht])) hf'.2 x hx
        exact hm l _ (fun _ h => h) hfs x hx

/-- All that is told. -/
structure Hp.Val (ls : List Int) (u to : Int) (size : Nat) (m r X Y : List Int) : Prop where
  rl : ∀ x ∈ ls, 0 ≤ x ∧ x < 4294967296
  ru : ∀ x ∈ [u], 0 ≤ x ∧ x < 4294967296
  chk : Hp.chk ls 16 [u] = 0
  live : Hp.live ls 16 [u] = (size, 0)
  moves : Hp.moves ls 16 [u] to = (m, r, 0)
  ml : m.length = size
  rn : r.length = 1
  rm : ∀ x ∈ m, 0 ≤ x ∧ x < 4294967296
  rr : ∀ x ∈ r, 0 ≤ x ∧ x < 4294967296
  chk2 : Hp.chk m to r = 0
  one : Hp.move ls 16 [u] 2147483648 = (X, Y)
  two : Hp.move m to r 2147483648 = (X, Y)

theorem Hp.value_facts (t : Tr) (k : Nat) (hc : Wd.chk t = 0) (hk : k < 21) (hsz : t.size ≤ 3000) (to : Int) (hp : Hp.place to) (ls : List Int) (u : Int) (hls : ls = List.replicate k 5 ++ t.words (16 + 4 * (k : Int))) (hu : u = t.word (16 + 4 * (k : Int))) :
    ∃ m r X Y, Hp.Val ls u to t.size m r X Y := by
  have hf := (Wd.chk_ok hc).2.2
  obtain ⟨hs, ok, h1, h2, h3⟩ := Hp.lay_heap t k hf (by omega) to ls u hls hu
  have rl : ∀ x ∈ ls, 0 ≤ x ∧ x < 4294967296 := by
    intro x hx
    rw [hls] at hx
    rcases List.mem_append.1 hx with hx | hx
    · have := List.eq_of_mem_replicate hx; omega
    · exact Hp.words_range t hf _ x hx
  have ru : ∀ x ∈ [u], 0 ≤ x ∧ x < 4294967296 := by
    intro x hx
    rw [List.mem_singleton] at hx
    rw [hx, hu]
    exact Hp.word_range t _ (by omega)
  obtain ⟨m, r, hmr⟩ : ∃ m r, Hp.move ls 16 [u] to = (m, r) := ⟨_, _, rfl⟩
  obtain ⟨X, Y, hXY⟩ : ∃ X Y, Hp.move ls 16 [u] 2147483648 = (X, Y) := ⟨_, _, rfl⟩
  obtain ⟨eL, eM, hml, hrl, mr1, mr2⟩ := Hp.moved_facts ok hp rl ru hmr
  have hlen := (Hp.move_len ok to).1
  rw [hmr, h3] at hlen
  simp only at hlen
  obtain ⟨⟨hs', ok'⟩, hag⟩ := Hp.move_again ok hp h1 h2
  rw [hmr] at ok' hag
  exact ⟨m, r, X, Y, rl, ru, Hp.ok_chk ok, by rw [eL, hlen], eM, hlen, hrl, mr1, mr2, Hp.ok_chk ok', hXY, by rw [hag, hXY]⟩

end Go.Proofs.Ytgohnekaolgblaa
