/- The code that collects moves the heap as Move does: plain. -/
import Derived.Test.YtgohnekaolgblaaGreatQ26
import Derived.Test.YtgohnekaolgblaaGreatQ12
namespace Go.Proofs.YtgohnekaolgblaaGreat

theorem Hp.scan_pre (ls : List Int) (a t : Int) : ∀ (g k : Nat) (o : List Nat) (out : List Int), out.length ≤ (Hp.scan ls a t g k o out).2.length
  | 0, _, _, _ => Nat.le_refl _
  | g + 1, k, o, out => by
    rw [Hp.scan]
    cases o[k]? with
    | none => exact Nat.le_refl _
    | some i => exact Nat.le_trans (Hp.fill_pre ls a t _ _ o out) (Hp.scan_pre ls a t g (k + 1) _ _)
theorem Lp.up {fs : List Fx} {k d : Nat} {out : List Nat} {l : List Lo} {own g : List Nat} {M : Nat → Nat} {n : Nat} {Q : St → Nat → Prop} (h : Lp fs k d out l own g M n Q) : Lp fs (k + 1) d out l own g M n Q := fun s hs => (h s hs).atLeast 1

theorem scanLoop {fs : List Fx} {ls : List Int} {hs : List Nat} {ka kt : Nat} (sp : Sp ls hs ka kt) (hfs : fs[3]? = some ⟨1, 4, movingL⟩) {A T : Int} (hA : A = ((4 * ka : Nat) : Int)) (hT : T = ((4 * kt : Nat) : Int)) (hfok : ∀ i ∈ hs, Hp.okws (Hp.mem hs) A (Hp.fields ls i) = true) {O : List Nat} {d : Nat} (hd : d < 5000) {outp : List Nat} {top en n : Nat} {M0 : Nat → Nat} {Q : St → Nat → Prop} :
    ∀ (g k v1 v2 v3 v4 : Nat) (M : Nat → Nat) (o : List Nat) (out : List Int), Hp.ord ls A g k o = O → k ≤ o.length → ls.length < k + g → Hp.Inv ls hs o out → Hp.St ls A T O o k 0 out → Gc ls ka kt M0 o out M →
      (∀ s1 v0' v1' v2' v3' v4' M', Vw d outp s1 [v0', v1', v2', v3', v4'] [top, 4 * (kt + (Hp.scan ls A T g k o out).2.length), 4 * ka, en, 4 * kt] M' n → Gc ls ka kt M0 (Hp.scan ls A T g k o out).1 (Hp.scan ls A T g k o out).2 M' → Q s1 0) →
      Lp fs 4 d outp scanL [4 * (kt + Hp.q ls o k), v1, v2, v3, v4] [top, 4 * (kt + out.length), 4 * ka, en, 4 * kt] M (n + 2 + 17 * ((Hp.scan ls A T g k o out).2.length - Hp.q ls o k) + 5 * ((Hp.scan ls A T g k o out).2.length - out.length)) Q := by
  intro g
  induction g with
  | zero =>
    intro k v1 v2 v3 v4 M o out ho hk hg hi hst gc hQ
    have := hi.bound sp.heads
    omega
  | succ g ih =>
    intro k v1 v2 v3 v4 M o out ho hk hg hi hst gc hQ
    rw [Hp.ord] at ho
    rw [Hp.scan] at hQ ⊢
    by_cases hko : k < o.length
    · rw [List.getElem?_eq_getElem hko] at ho hQ ⊢
      simp only at ho hQ ⊢
      have hmem := hi.sub _ (List.getElem_mem hko)
      have hq := Hp.pos_q ls o 0 k hko hi.nodup
      rw [Nat.zero_add] at hq
      rw [hq, Option.getD_some] at hQ ⊢
      have hpre : Hp.visAll A (Hp.fields ls o[k]) o <+: O := by rw [← ho]; exact Hp.ord_pre _ _ _ _ _
      have hf := Hp.fill_st sp.heads (to := T) (O := O) (k := k) (i := o[k]) (hfok _ hmem) _ 0 o out rfl (Nat.zero_le _) hi hko rfl (by simpa using hpre) hst
      rw [List.drop_zero, Nat.add_zero] at hf
      have hord := Hp.fill_ord ls A T (Hp.fields ls o[k]) (Hp.q ls o k + 1) o out
      have hlt : k < (Hp.visAll A (Hp.fields ls o[k]) o).length := Nat.lt_of_lt_of_le hko (Hp.visAll_pre A _ o).length_le
      have hge : (Hp.visAll A (Hp.fields ls o[k]) o)[k] = o[k] := by
        obtain ⟨t, ht⟩ := Hp.visAll_pre A (Hp.fields ls o[k]) o
        have : (Hp.visAll A (Hp.fields ls o[k]) o)[k]? = some o[k] := by rw [← ht, List.getElem?_append_left hko, List.getElem?_eq_getElem hko]
        rw [List.getElem?_eq_getElem hlt] at this
        exact Option.some.inj this
      -- the head
      have hh := Hp.heads_head sp.heads hmem
      have hhl := hh.lt
      have hwn : Hp.wnAt ls o[k] = Hp.wn ls[o[k]] := by unfold Hp.wnAt; rw [List.getElem?_eq_getElem hhl]
      have hwpos := Hp.wnAt_pos hh
      have hfit := Hp.q_fits (ls := ls) (o := o) hko (j := 0) hwpos
      have hfitw := Hp.q_fits (ls := ls) (o := o) hko (j := Hp.wnAt ls o[k] - 1) (by omega)
      rw [← hi.len] at hfit hfitw
      have hbd := (hi.bound sp.heads).1
      have htt := sp.t
      have hv0 := hst.val k hko 0 hwpos
      simp only [Nat.add_zero] at hv0
      rw [List.getElem?_eq_getElem hhl] at hv0
      simp only [Option.map_some] at hv0
      rw [if_neg (fun h => by have := h.1.1; omega)] at hv0
      have hX := gc.to _ _ hv0
      obtain ⟨-, e2, e3, e4⟩ := Wd.head_nat hX hh.yes
      rw [← hwn] at e2
      have hflen : (Hp.fields ls o[k]).length = (if M (kt + Hp.q ls o k) / 2 % 4 = 2 then 0 else Hp.wnAt ls o[k] - 1) := by
        have hff := (Hp.fields_head hh).1
        rw [show ls[o[k]]! = ls[o[k]] by rw [getElem!_def, List.getElem?_eq_getElem hhl]] at hff
        rw [hff]
        by_cases ht : M (kt + Hp.q ls o k) / 2 % 4 = 2
        · rw [if_pos ht, if_pos (e3.2 ht)]
        · rw [if_neg ht, if_neg (fun h => ht (e3.1 h)), e4, e2, if_neg ht]
          omega
      have hqn : Hp.q ls (Hp.visAll A (Hp.fields ls o[k]) o) (k + 1) = Hp.q ls o k + Hp.wnAt ls o[k] := by
        rw [Hp.q_succ ls _ k hlt, hge, Hp.q_pre (Hp.visAll_pre A _ o) k (by omega)]
      have hfp := Hp.fill_pre ls A T (Hp.fields ls o[k]) (Hp.q ls o k + 1) o out
      have hsp := Hp.scan_pre ls A T g (k + 1) (Hp.fill ls A T (Hp.fields ls o[k]) (Hp.q ls o k + 1) o out).1 (Hp.fill ls A T (Hp.fields ls o[k]) (Hp.q ls o k + 1) o out).2
      have hin := ih (k + 1)
      obtain ⟨o1, hO1⟩ : ∃ o1, o1 = (Hp.fill ls A T (Hp.fields ls o[k]) (Hp.q ls o k + 1) o out).1 := ⟨_, rfl⟩
      obtain ⟨out1, hOut1⟩ : ∃ out1, out1 = (Hp.fill ls A T (Hp.fields ls o[k]) (Hp.q ls o k + 1) o out).2 := ⟨_, rfl⟩
      rw [← hO1, ← hOut1] at hf hQ hsp ⊢
      rw [← hOut1] at hfp
      rw [← hO1] at hord
      have hst1 : Hp.St ls A T O o1 (k + 1) 0 out1 := by
        have h5 := hf.1
        rw [hord] at h5 ⊢
        refine Hp.St.next hlt ?_
        rw [hge]
        exact h5
      -- behind the loop over the words
      have hnext : ∀ s1 v1' v2' v3' M', Vw d outp s1 [4 * (kt + Hp.q ls o k + Hp.wnAt ls o[k]), v1', v2', v3', v4] [top, 4 * (kt + out1.length), 4 * ka, en, 4 * kt] M' (n + 2 + 17 * ((Hp.scan ls A T g (k + 1) o1 out1).2.length - (Hp.q ls o k + Hp.wnAt ls o[k])) + 5 * ((Hp.scan ls A T g (k + 1) o1 out1).2.length - out1.length) + 1) → Gc ls ka kt M0 o1 out1 M' →
          ∃ own' g' M' n', Vw d outp s1 own' g' M' (n' + 1) ∧ Lp fs 4 d outp scanL own' g' M' n' Q := by
        intro s1 v1' v2' v3' M' hs1 gc1
        refine ⟨_, _, _, _, hs1, ?_⟩
        have := hin v1' v2' v3' v4 M' o1 out1 (by rw [hord]; exact ho) (by rw [hord]; omega) (by omega) hf.2 hst1 gc1 hQ
        rw [hord] at this ⊢
        rw [hqn, ← Nat.add_assoc kt] at this
        exact this
      have hge0 := Evl.ge (Evl.v (own := [4 * (kt + Hp.q ls o k), v1, v2, v3, v4]) (gs := [top, 4 * (kt + out.length), 4 * ka, en, 4 * kt]) (M := M) (x := 0) (by decide) rfl) (Evl.g (x := 1) (by decide) rfl)
      rw [if_neg (by omega)] at hge0
      have htx := Evl.text (Evl.v (own := [4 * (kt + (Hp.q ls o k + 1)), v1, M (kt + Hp.q ls o k), 4 * (kt + Hp.q ls o k + Hp.wnAt ls o[k]), v4]) (gs := [top, 4 * (kt + out.length), 4 * ka, en, 4 * kt]) (M := M) (x := 2) (by decide) rfl)
      have hstart : ∀ m Q', Dv fs 4 d outp [Px.when (isTextX (Px.v 2)) [Px.set 0 (Px.v 3)], Px.loop wordsL] [4 * (kt + (Hp.q ls o k + 1)), v1, M (kt + Hp.q ls o k), 4 * (kt + Hp.q ls o k + Hp.wnAt ls o[k]), v4] [top, 4 * (kt + out.length), 4 * ka, en, 4 * kt] M m Q' → Dv fs 4 d outp scanL [4 * (kt + Hp.q ls o k), v1, v2, v3, v4] [top, 4 * (kt + out.length), 4 * ka, en, 4 * kt] M (m + 4) Q' := by
        intro m Q' h
        unfold scanL
        refine Dv.skip hge0 ?_
        refine Dv.set 2 rfl (Evl.load (Evl.v (x := 0) (by decide) rfl) (by omega)) (by simp) [4 * (kt + Hp.q ls o k), v1, M (kt + Hp.q ls o k), v3, v4] rfl ?_
        refine Dv.set 3 rfl (Evl.add (Evl.v (x := 0) (by decide) rfl) (Evl.bytes (Evl.v (x := 2) (by decide) rfl)) (by rw [← e2]; omega)) (by simp) [4 * (kt + Hp.q ls o k), v1, M (kt + Hp.q ls o k), 4 * (kt + Hp.q ls o k + Hp.wnAt ls o[k]), v4] (by rw [← e2]; simp; omega) ?_
        refine Dv.set 0 rfl (Evl.add (Evl.v (x := 0) (by decide) rfl) (Evl.n 4 rfl (by decide)) (by omega)) (by simp) [4 * (kt + (Hp.q ls o k + 1)), v1, M (kt + Hp.q ls o k), 4 * (kt + Hp.q ls o k + Hp.wnAt ls o[k]), v4] (by simp; omega) ?_
        exact h
      refine Lp.weaken (n := ((n + 2 + 17 * ((Hp.scan ls A T g (k + 1) o1 out1).2.length - (Hp.q ls o k + Hp.wnAt ls o[k])) + 5 * ((Hp.scan ls A T g (k + 1) o1 out1).2.length - out1.length) + 1) + 2 + 17 * (Hp.fields ls o[k]).length + 5 * (out1.length - out.length)) + 1 + 2 + 4) ?_ ?_
      · refine Lp.round (hstart _ _ ?_)
        by_cases ht : M (kt + Hp.q ls o k) / 2 % 4 = 2
        · rw [if_pos ht] at htx hflen
          have hnil : Hp.fields ls o[k] = [] := List.eq_nil_of_length_eq_zero hflen
          rw [hnil] at hO1 hOut1 ⊢
          simp only [Hp.fill] at hO1 hOut1
          subst hO1 hOut1
          refine Dv.when_ htx (by decide) ?_
          refine Dv.set 0 rfl (Evl.v (x := 3) (by decide) rfl) (by simp) [4 * (kt + (Hp.q ls o1 k + Hp.wnAt ls o1[k])), v1, M (kt + Hp.q ls o1 k), 4 * (kt + Hp.q ls o1 k + Hp.wnAt ls o1[k]), v4] (by simp; omega) ?_
          refine Dv.nil fun s2 hs2 => ⟨rfl, ?_⟩
          have hfl := fillLoop (fs := fs) sp hfs hA hT hd (outp := outp) (top := top) (en := en) (v2 := M (kt + Hp.q ls o1 k)) (v4 := v4) (M0 := M0) (n := n + 2 + 17 * ((Hp.scan ls A T g (k + 1) o1 out1).2.length - (Hp.q ls o1 k + Hp.wnAt ls o1[k])) + 5 * ((Hp.scan ls A T g (k + 1) o1 out1).2.length - out1.length) + 1)
            (Q := fun s1 e => e = 0 ∧ Does fs 4 (.list []) s1 fun s1 e => (e = 1 ∧ s1.n = 0 ∧ Q s1 0) ∨ (e = 0 ∧ ∃ own' g' M' n', Vw d outp s1 own' g' M' (n' + 1) ∧ Lp fs 4 d outp scanL own' g' M' n' Q))
            [] (Hp.q ls o1 k + Hp.wnAt ls o1[k]) v1 M o1 out1 hi gc rfl (fun j x hx => by simp at hx) (by simp; omega) (fun s1 v1' M' hs1 gc1 => ⟨rfl, s1, 0, .nil, .inr ⟨rfl, ?_⟩⟩)
          · rw [Nat.add_assoc kt (Hp.q ls o1 k)] at hs2
            exact Dv.loop hfl s2 hs2
          · simp only [Hp.fill, List.length_nil, Nat.add_zero] at hs1 gc1
            rw [← Nat.add_assoc kt] at hs1
            exact hnext _ _ _ _ _ hs1 gc1
        · rw [if_neg ht] at htx hflen
          refine Dv.weaken (n := ((n + 2 + 17 * ((Hp.scan ls A T g (k + 1) o1 out1).2.length - (Hp.q ls o k + Hp.wnAt ls o[k])) + 5 * ((Hp.scan ls A T g (k + 1) o1 out1).2.length - out1.length) + 1) + 2 + 17 * (Hp.fields ls o[k]).length + 5 * (out1.length - out.length)) + 1 + 1) ?_ (by omega)
          refine Dv.skip htx ?_
          have hv3 : 4 * (kt + Hp.q ls o k + Hp.wnAt ls o[k]) = 4 * (kt + (Hp.q ls o k + 1) + (Hp.fields ls o[k]).length) := by rw [hflen]; omega
          rw [hv3]
          have hfl := fillLoop (fs := fs) sp hfs hA hT hd (outp := outp) (top := top) (en := en) (v2 := M (kt + Hp.q ls o k)) (v4 := v4) (M0 := M0) (n := n + 2 + 17 * ((Hp.scan ls A T g (k + 1) o1 out1).2.length - (Hp.q ls o k + Hp.wnAt ls o[k])) + 5 * ((Hp.scan ls A T g (k + 1) o1 out1).2.length - out1.length) + 1)
            (Q := fun s1 e => e = 0 ∧ Does fs 4 (.list []) s1 fun s1 e => (e = 1 ∧ s1.n = 0 ∧ Q s1 0) ∨ (e = 0 ∧ ∃ own' g' M' n', Vw d outp s1 own' g' M' (n' + 1) ∧ Lp fs 4 d outp scanL own' g' M' n' Q))
            (Hp.fields ls o[k]) (Hp.q ls o k + 1) v1 M o out hi gc (hfok _ hmem) (fun j x hx => ?_) (by rw [hflen]; omega) (fun s1 v1' M' hs1 gc1 => ⟨rfl, s1, 0, .nil, .inr ⟨rfl, ?_⟩⟩)
          · rw [← hOut1] at hfl
            exact Dv.loop hfl
          · have hjl := (List.getElem?_eq_some_iff.1 hx).1
            have hv := hst.val k hko (1 + j) (by omega)
            rw [show o[k] + (1 + j) = o[k] + 1 + j by omega, Hp.fields_get hjl] at hv
            simp only [Option.map_some] at hv
            rw [if_neg (fun h => by rcases h.2 with h | h <;> omega)] at hv
            rw [List.getElem?_eq_getElem hjl] at hx
            rw [show Hp.q ls o k + 1 + j = Hp.q ls o k + (1 + j) by omega, hv]
            exact hx
          · rw [← hOut1, ← hv3] at hs1
            rw [← hO1, ← hOut1] at gc1
            exact hnext _ _ _ _ _ hs1 gc1
      · have hle : (Hp.fields ls o[k]).length + 1 ≤ Hp.wnAt ls o[k] := by rw [hflen]; split <;> omega
        have hq1 : Hp.q ls o k + Hp.wnAt ls o[k] ≤ out1.length := by omega
        omega
    · rw [List.getElem?_eq_none (by omega)] at ho hQ ⊢
      simp only at ho hQ ⊢
      obtain rfl : k = o.length := by omega
      have hqa : Hp.q ls o o.length = out.length := by rw [Hp.q_all, hi.len]
      rw [hqa]
      refine Lp.weaken (n := n + 2) ?_ (by omega)
      exact eachLeave (k := 3) (bound := 4 * (kt + out.length)) rfl (Evl.g (x := 1) (by decide) rfl) (Nat.le_refl _) fun s1 hs1 => hQ s1 _ _ _ _ _ M hs1 gc

end Go.Proofs.YtgohnekaolgblaaGreat

/- The code that collects, done by the document's machine: plain. -/
namespace Go.Proofs.YtgohnekaolgblaaGreat

/-- A loop of a list's, deeper. -/
theorem Dv.loopUp {fs : List Fx} {k d : Nat} {out : List Nat} {ts l : List Lo} {own g : List Nat} {M : Nat → Nat} {n : Nat} {Q : St → Nat → Prop} (h : Lp fs k d out l own g M n fun s1 e => e = 0 ∧ Does fs (k + 2) (.list ts) s1 Q) : Dv fs (k + 2) d out (Px.loop l :: ts) own g M (n + 1) Q := Dv.loop (k := k + 1) h.up

theorem collects {fs : List Fx} {ls roots : List Int} {hs : List Nat} {ka kt ks : Nat} (sp : Sp ls hs ka kt) (hf1 : fs[1]? = some ⟨0, 5, collectL ((4 * ks : Nat) : Int)⟩) (hf3 : fs[3]? = some ⟨1, 4, movingL⟩) {A T : Int} (hA : A = ((4 * ka : Nat) : Int)) (hT : T = ((4 * kt : Nat) : Int)) (ok : Hp.Ok ls A roots hs)
    {M0 : Nat → Nat} (hls : ∀ p x, ls[p]? = some x → (M0 (ka + p) : Int) = x) (hrs : ∀ j x, roots[j]? = some x → (M0 (ks + j) : Int) = x) (hout : ∀ q, ks ≤ q → q < ks + roots.length → ¬ (ka ≤ q ∧ q < ka + ls.length) ∧ ¬ (kt ≤ q ∧ q < kt + ls.length)) (hks : 4 * (ks + roots.length) ≤ 262144)
    {d : Nat} (hd : d < 4999) {own outp : List Nat} {f0 en n : Nat} (hen : 4 * ka ≤ en ∧ en < 4294967296 ∧ 4 * kt + (en - 4 * ka) < 4294967296) {s : St}
    (hv : Vw d outp s own [4 * (ks + roots.length), f0, 4 * ka, en, 4 * kt] M0 (n + 13 + 17 * roots.length + 22 * (Hp.move ls A roots T).1.length)) :
    Does fs 5 (.call 1 []) s fun s1 e => e = 0 ∧ s1.told = 0 ∧ ∃ O M', Vw d outp s1 own [4 * (ks + roots.length), 4 * (kt + (Hp.move ls A roots T).1.length), 4 * kt, 4 * kt + (en - 4 * ka), 4 * ka] M' n ∧ Gc ls ka kt (putAll (Hp.move ls A roots T).2 ks M0) O (Hp.move ls A roots T).1 M' := by
  have h0 : Hp.Inv ls hs [] [] := ⟨List.nodup_nil, fun i h => (by cases h), rfl⟩
  have gc0 : Gc ls ka kt M0 [] [] M0 := ⟨fun j x hx => by simp at hx, fun p x hx => hls p x hx, fun _ _ _ => rfl⟩
  have hst0 : Hp.St ls A T (Hp.ordAll ls A roots) [] 0 0 [] := ⟨rfl, fun q hq => absurd hq (by simp)⟩
  have hr := Hp.roots_st ok.heads (to := T) (O := Hp.ordAll ls A roots) roots [] [] ok.roots h0 (Hp.ord_pre _ _ _ _ _) hst0
  have ho := Hp.roots_ord ls A T roots [] []
  have hp1 := Hp.scan_pre ls A T (ls.length + 1) 0 (Hp.roots ls A T roots [] []).2.1 (Hp.roots ls A T roots [] []).2.2
  have hat := sp.a
  have htt := sp.t
  have hmv : Hp.move ls A roots T = ((Hp.scan ls A T (ls.length + 1) 0 (Hp.roots ls A T roots [] []).2.1 (Hp.roots ls A T roots [] []).2.2).2, (Hp.roots ls A T roots [] []).1) := rfl
  rw [hmv] at hv ⊢
  simp only at hv ⊢
  obtain ⟨R, hR⟩ : ∃ R, R = Hp.roots ls A T roots [] [] := ⟨_, rfl⟩
  rw [← hR] at hv hr ho hp1 ⊢
  obtain ⟨S, hS⟩ : ∃ S, S = Hp.scan ls A T (ls.length + 1) 0 R.2.1 R.2.2 := ⟨_, rfl⟩
  rw [← hS] at hv hp1 ⊢
  refine Does.fn (c := 5) (k := 5) (p := 0) (n := (((n + 4) + 2 + 17 * (S.2.length - 0) + 5 * (S.2.length - R.2.2.length)) + 2 + 2 + 17 * roots.length + 5 * (R.2.2.length - 0)) + 3) hf1 (by decide) (by simp) (by omega) (hv.less (by omega)) ?_
  show Dv _ _ _ _ _ [0, 0, 0, 0, 0] _ _ _ _
  unfold collectL
  refine Dv.put 1 rfl (Evl.g (x := 4) (by decide) rfl) (by simp) [4 * (ks + roots.length), 4 * (kt + ([] : List Int).length), 4 * ka, en, 4 * kt] (by simp) ?_
  refine Dv.set 0 rfl (Evl.n (4 * ks) rfl (by omega)) (by simp) [4 * ks, 0, 0, 0, 0] rfl ?_
  refine Dv.loop (k := 4) (Lp.up ?_)
  have hrl := rootsLoop (fs := fs) sp hf3 hA hT (d := d + 1) (by omega) (outp := outp) (en := en) (v2 := 0) (v3 := 0) (v4 := 0) (n := ((n + 4) + 2 + 17 * (S.2.length - 0) + 5 * (S.2.length - R.2.2.length)) + 2)
    (Q := fun s1 e => e = 0 ∧ Does fs 5 (.list [Px.set 0 (Px.g 4), Px.loop scanL, Px.set 4 (Px.g 2), Px.put 3 (Px.add (Px.g 4) (Px.t 107 (Px.g 3) (Px.g 2))), Px.put 2 (Px.g 4), Px.put 4 (Px.v 4)]) s1 fun s1 e => e ≠ 1 ∧ e = 0 ∧ ({ s1 with own := own, deep := d, told := if e = 0 then 0 else s1.told } : St).told = 0 ∧ ∃ O M', Vw d outp { s1 with own := own, deep := d, told := if e = 0 then 0 else s1.told } own [4 * (ks + roots.length), 4 * (kt + S.2.length), 4 * kt, 4 * kt + (en - 4 * ka), 4 * ka] M' n ∧ Gc ls ka kt (putAll R.1 ks M0) O S.2 M')
    roots ks 0 M0 M0 [] [] h0 gc0 ok.roots hrs hout hks ?_
  · rw [← hR] at hrl
    intro s1 hs1
    refine (hrl s1 hs1).mono ?_
    rintro s2 e ⟨h1, h2⟩
    exact ⟨h1, h2.mono fun s3 e3 h4 => ⟨h4.1, rfl, h4.2.2⟩⟩
  rw [← hR]
  intro s1 v1' M' hs1 gc1 hi1
  refine ⟨rfl, (?_ : Dv fs 5 (d + 1) outp _ _ _ M' _ _) s1 hs1⟩
  refine Dv.set 0 rfl (Evl.g (x := 4) (by decide) rfl) (by simp) [4 * (kt + Hp.q ls R.2.1 0), v1', 0, 0, 0] rfl ?_
  have hsl := scanLoop (fs := fs) sp hf3 hA hT ok.fields (O := Hp.ordAll ls A roots) (d := d + 1) (by omega) (outp := outp) (top := 4 * (ks + roots.length)) (en := en) (n := n + 4) (M0 := putAll R.1 ks M0)
    (Q := fun s1 e => e = 0 ∧ Does fs 5 (.list [Px.set 4 (Px.g 2), Px.put 3 (Px.add (Px.g 4) (Px.t 107 (Px.g 3) (Px.g 2))), Px.put 2 (Px.g 4), Px.put 4 (Px.v 4)]) s1 fun s1 e => e ≠ 1 ∧ e = 0 ∧ ({ s1 with own := own, deep := d, told := if e = 0 then 0 else s1.told } : St).told = 0 ∧ ∃ O M', Vw d outp { s1 with own := own, deep := d, told := if e = 0 then 0 else s1.told } own [4 * (ks + roots.length), 4 * (kt + S.2.length), 4 * kt, 4 * kt + (en - 4 * ka), 4 * ka] M' n ∧ Gc ls ka kt (putAll R.1 ks M0) O S.2 M')
    (ls.length + 1) 0 v1' 0 0 0 M' R.2.1 R.2.2 (by rw [ho]; rfl) (Nat.zero_le _) (by omega) hr.2.2 hr.2.1 gc1 ?_
  · rw [← hS] at hsl
    exact Dv.loop (k := 4) hsl
  rw [← hS]
  intro s2 v0 w1 w2 w3 w4 M2 hs2 gc2
  refine ⟨rfl, (?_ : Dv fs 5 (d + 1) outp _ _ _ M2 _ _) s2 hs2⟩
  refine Dv.set 4 rfl (Evl.g (x := 2) (by decide) rfl) (by simp) [v0, w1, w2, w3, 4 * ka] rfl ?_
  refine Dv.put 3 rfl (Evl.add (Evl.g (x := 4) (by decide) rfl) (Evl.sub (Evl.g (x := 3) (by decide) rfl) (Evl.g (x := 2) (by decide) rfl) hen.1 hen.2.1) hen.2.2) (by simp) [4 * (ks + roots.length), 4 * (kt + S.2.length), 4 * ka, 4 * kt + (en - 4 * ka), 4 * kt] rfl ?_
  refine Dv.put 2 rfl (Evl.g (x := 4) (by decide) rfl) (by simp) [4 * (ks + roots.length), 4 * (kt + S.2.length), 4 * kt, 4 * kt + (en - 4 * ka), 4 * kt] rfl ?_
  refine Dv.put 4 rfl (Evl.v (x := 4) (by decide) rfl) (by simp) [4 * (ks + roots.length), 4 * (kt + S.2.length), 4 * kt, 4 * kt + (en - 4 * ka), 4 * ka] rfl ?_
  exact Dv.nil fun s3 hs3 => ⟨by decide, rfl, rfl, S.1, M2, (hs3.less (by omega)).ret _ _, gc2⟩

end Go.Proofs.YtgohnekaolgblaaGreat

/- A Main that calls the collector and writes what is told, done by the document's machine: plain. -/
namespace Go.Proofs.YtgohnekaolgblaaGreat

/-- A word's bytes. -/
def bytesOf (v : Nat) : List Nat := [v % 256, v / 256 % 256, v / 65536 % 256, v / 16777216 % 256]
/-- A word is written. -/
def outW (x : Ex) : List Lo := [.mk 13 0 0 [Px.t 118 x (Px.n 0)] [], .mk 13 0 0 [Px.t 118 x (Px.n 8)] [], .mk 13 0 0 [Px.t 118 x (Px.n 16)] [], .mk 13 0 0 [Px.t 118 x (Px.n 24)] []]
/-- What Main does. -/
def askL : List Lo := Px.call 0 1 [] :: (outW (Px.v 0) ++ outW (Px.g 0) ++ outW (Px.g 1) ++ outW (Px.g 2) ++ outW (Px.g 3) ++ outW (Px.g 4))

section
variable {fs : List Fx} {k d : Nat} {outp : List Nat} {ts : List Lo} {own g : List Nat} {M : Nat → Nat} {n : Nat} {Q : St → Nat → Prop}
theorem Dv.out {e : Ex} {v : Nat} (he : Evl own g M e v) (ho : outp.length < 1000) (h : Dv fs k d (outp ++ [v % 256]) ts own g M n Q) : Dv fs k d outp (.mk 13 0 0 [e] [] :: ts) own g M (n + 1) Q := by
  intro s hs
  have h1 := hs.step
  have r := Runs.out (fs := fs) (k := k) (x := 0) (n := 0) (l := []) (h1.ev he) (by rw [h1.out]; exact ho)
  exact Does.cons hs.pos r (h _ ⟨h1.own, h1.g, h1.mem, h1.n, h1.left, h1.deep, by rw [← h1.out]⟩)
theorem Dv.outW {e : Ex} {v : Nat} (he : Evl own g M e v) (ho : outp.length < 900) (h : Dv fs k d (outp ++ bytesOf v) ts own g M n Q) : Dv fs k d outp (outW e ++ ts) own g M (n + 4) Q := by
  unfold Go.Proofs.YtgohnekaolgblaaGreat.outW
  refine Dv.out (Evl.shr he (Evl.n 0 rfl (by decide)) (by decide)) (by omega) ?_
  refine Dv.out (Evl.shr he (Evl.n 8 rfl (by decide)) (by decide)) (by simp; omega) ?_
  refine Dv.out (Evl.shr he (Evl.n 16 rfl (by decide)) (by decide)) (by simp; omega) ?_
  refine Dv.out (Evl.shr he (Evl.n 24 rfl (by decide)) (by decide)) (by simp; omega) ?_
  simpa [bytesOf] using h
end

/-- Main collects, and writes what was told, and the lasting words. -/
theorem asksRuns {fs : List Fx} {ls roots : List Int} {hs : List Nat} {ka kt ks : Nat} (sp : Sp ls hs ka kt) (hf1 : fs[1]? = some ⟨0, 5, collectL ((4 * ks : Nat) : Int)⟩) (hf3 : fs[3]? = some ⟨1, 4, movingL⟩) (hf4 : fs[4]? = some ⟨0, 1, askL⟩) {A T : Int} (hA : A = ((4 * ka : Nat) : Int)) (hT : T = ((4 * kt : Nat) : Int)) (ok : Hp.Ok ls A roots hs)
    {M0 : Nat → Nat} (hls : ∀ p x, ls[p]? = some x → (M0 (ka + p) : Int) = x) (hrs : ∀ j x, roots[j]? = some x → (M0 (ks + j) : Int) = x) (hout : ∀ q, ks ≤ q → q < ks + roots.length → ¬ (ka ≤ q ∧ q < ka + ls.length) ∧ ¬ (kt ≤ q ∧ q < kt + ls.length)) (hks : 4 * (ks + roots.length) ≤ 262144)
    {f0 en n : Nat} (hen : 4 * ka ≤ en ∧ en < 4294967296 ∧ 4 * kt + (en - 4 * ka) < 4294967296) {s : St} (hsL : Mw s.L M0) (hsN : s.N = 4) (hsg : s.g = [4 * (ks + roots.length), f0, 4 * ka, en, 4 * kt]) (hso : s.out = []) (hsd : s.deep = 0)
    (hsl : n + 38 + 17 * roots.length + 22 * (Hp.move ls A roots T).1.length ≤ s.left) :
    ∃ s1 O M', Runs fs 6 (.call 4 []) s s1 0 ∧ Mw s1.L M' ∧ s1.out = bytesOf 0 ++ bytesOf (4 * (ks + roots.length)) ++ bytesOf (4 * (kt + (Hp.move ls A roots T).1.length)) ++ bytesOf (4 * kt) ++ bytesOf (4 * kt + (en - 4 * ka)) ++ bytesOf (4 * ka) ∧ Gc ls ka kt (putAll (Hp.move ls A roots T).2 ks M0) O (Hp.move ls A roots T).1 M' := by
  obtain ⟨m, hm⟩ : ∃ m, m = Hp.move ls A roots T := ⟨_, rfl⟩
  have hv : Vw 0 [] s s.own [4 * (ks + roots.length), f0, 4 * ka, en, 4 * kt] M0 (n + 38 + 17 * roots.length + 22 * m.1.length) := ⟨rfl, hsg, hsL, hsN, by rw [hm]; exact hsl, hsd, hso⟩
  have key : Does fs 6 (.call 4 []) s fun s1 e => e = 0 ∧ ∃ O M', Mw s1.L M' ∧ s1.out = bytesOf 0 ++ bytesOf (4 * (ks + roots.length)) ++ bytesOf (4 * (kt + m.1.length)) ++ bytesOf (4 * kt) ++ bytesOf (4 * kt + (en - 4 * ka)) ++ bytesOf (4 * ka) ∧ Gc ls ka kt (putAll m.2 ks M0) O m.1 M' := by
    refine Does.fn (c := 1) (k := 6) (p := 0) (n := (n + 24 + 13 + 17 * roots.length + 22 * m.1.length) + 1) hf4 (by decide) (by simp) (by decide) (hv.less (by omega)) ?_
    show Dv _ _ _ _ _ [0] _ _ _ _
    unfold askL
    refine Dv.call (k := 5) (vs := []) 0 1 rfl (fun s _ => rfl) (by simp) (by simp) fun s1 hs1 => ?_
    refine (collects sp hf1 hf3 hA hT ok hls hrs hout hks (d := 1) (by decide) hen (n := n + 24) (by rw [← hm]; exact hs1)).mono ?_
    rintro s2 e ⟨rfl, ht, O, M', hv2, gc⟩
    rw [← hm] at hv2 gc
    refine ⟨rfl, hv2.own, ?_⟩
    have hv3 := hv2.set 0 s2.told
    rw [ht, hv2.own] at hv3
    rw [ht]
    refine (?_ : Dv fs 6 1 [] _ [0] _ M' (n + 24) _) _ hv3
    simp only [List.append_assoc]
    refine Dv.outW (n := n + 20) (Evl.v (x := 0) (v := 0) (by decide) rfl) (by simp) ?_
    refine Dv.outW (n := n + 16) (Evl.g (x := 0) (by decide) rfl) (by simp [bytesOf]) ?_
    refine Dv.outW (n := n + 12) (Evl.g (x := 1) (by decide) rfl) (by simp [bytesOf]) ?_
    refine Dv.outW (n := n + 8) (Evl.g (x := 2) (by decide) rfl) (by simp [bytesOf]) ?_
    refine Dv.outW (n := n + 4) (Evl.g (x := 3) (by decide) rfl) (by simp [bytesOf]) ?_
    rw [← List.append_nil (Go.Proofs.YtgohnekaolgblaaGreat.outW (Px.g 4))]
    refine Dv.outW (n := n) (Evl.g (x := 4) (by decide) rfl) (by simp [bytesOf]) ?_
    refine Dv.nil fun s3 hs3 => ⟨by decide, trivial, O, M', hs3.mem, ?_, gc⟩
    simpa using hs3.out
  rw [hm] at key
  obtain ⟨s1, e, r, rfl, O, M', h1, h2, h3⟩ := key
  exact ⟨s1, O, M', r, h1, h2, h3⟩

end Go.Proofs.YtgohnekaolgblaaGreat

/- Rows of things that a program does, that grow by appends; rows of functions. -/
namespace Go.Proofs.YtgohnekaolgblaaGreat
open Go.RowKit

def Lo.flat (vs : List (Value × Value × Value × Value × Value × Value)) : List Value := vs.flatMap fun v => [v.1, v.2.1, v.2.2.1, v.2.2.2.1, v.2.2.2.2.1, v.2.2.2.2.2]
theorem Lo.ats_row {S : Nat → Prop} {w : World} {b : Nat} : ∀ {l : List Lo} {off : Nat} {vs : List (Value × Value × Value × Value × Value × Value)}, LoV S w l vs → (∀ (j : Nat) u, (Lo.flat vs)[j]? = some u → w.cell? ⟨b, off + j, none⟩ = some u) → Lo.ats S w l b off
  | [], _, [], _, _ => by rw [Lo.ats]; trivial
  | t :: l, off, v :: vs, h, hc => by
    rw [Lo.ats]
    refine ⟨⟨v.1, v.2.1, v.2.2.1, v.2.2.2.1, v.2.2.2.2.1, v.2.2.2.2.2, hc 0 _ (by simp [Lo.flat]), hc 1 _ (by simp [Lo.flat]), hc 2 _ (by simp [Lo.flat]), hc 3 _ (by simp [Lo.flat]), hc 4 _ (by simp [Lo.flat]), hc 5 _ (by simp [Lo.flat]), h.1⟩, Lo.ats_row h.2 fun j u hj => ?_⟩
    rw [show off + 6 + j = off + (j + 6) by omega]
    exact hc (j + 6) u (by simpa [Lo.flat] using hj)
theorem LoV.imp {S S' : Nat → Prop} {w w' : World} (h : ∀ t v, Lo.at S w t v → Lo.at S' w' t v) : ∀ {l : List Lo} {vs : List (Value × Value × Value × Value × Value × Value)}, LoV S w l vs → LoV S' w' l vs
  | [], [], _ => trivial
  | _ :: _, _ :: _, k => ⟨h _ _ k.1, LoV.imp h k.2⟩
theorem LoV.snoc {S : Nat → Prop} {w : World} : ∀ {l : List Lo} {vs : List (Value × Value × Value × Value × Value × Value)} {t : Lo} {v : Value × Value × Value × Value × Value × Value}, LoV S w l vs → Lo.at S w t (.agg #[v.1, v.2.1, v.2.2.1, v.2.2.2.1, v.2.2.2.2.1, v.2.2.2.2.2]) → LoV S w (l ++ [t]) (vs ++ [v])
  | [], [], _, _, _, h => ⟨h, trivial⟩
  | _ :: _, _ :: _, _, _, k, h => ⟨k.1, LoV.snoc k.2 h⟩

/-- A row of the call's own that holds things, whose parts lie in other blocks. -/
def OwnLs (B : Nat) (w : World) (v : Value) (ts : List Lo) : Prop := ∃ vs, LoV (fun b => B ≤ b ∧ v.ownBlock ≠ some b) w ts vs ∧ w.ownsRow B 77 6 v ts.length (Lo.flat vs)
theorem OwnLs.below {B : Nat} {w w' : World} {v : Value} {ts : List Lo} (h : OwnLs B w v ts) (b : Below w.heap.size w w') : OwnLs B w' v ts := by
  obtain ⟨vs, h1, h2⟩ := h
  exact ⟨vs, h1.imp fun t v k => k.below b, row_keep h2 fun g hg => b.block g (World.ownsRow.lt h2 g hg).2⟩
theorem OwnLs.app {B : Nat} {w w' : World} {v v' : Value} {ts : List Lo} {t : Lo} {vs : List (Value × Value × Value × Value × Value × Value)} {u : Value × Value × Value × Value × Value × Value} (hv : LoV (fun b => B ≤ b ∧ v.ownBlock ≠ some b) w ts vs) (ht : Lo.at (fun b => B ≤ b ∧ v.ownBlock ≠ some b) w t (.agg #[u.1, u.2.1, u.2.2.1, u.2.2.2.1, u.2.2.2.2.1, u.2.2.2.2.2]))
    (own : w'.ownsRow B 77 6 v' (ts.length + 1) (Lo.flat vs ++ [u.1, u.2.1, u.2.2.1, u.2.2.2.1, u.2.2.2.2.1, u.2.2.2.2.2])) (g : w.grownBy w' v.ownBlock) (loc : v'.ownBlock = v.ownBlock ∨ v'.ownBlock = some w.heap.size) : OwnLs B w' v' (ts ++ [t]) := by
  have hk : ∀ t x, Lo.at (fun b => B ≤ b ∧ v.ownBlock ≠ some b) w t x → Lo.at (fun b => B ≤ b ∧ v'.ownBlock ≠ some b) w' t x := fun t x k => by
    have h1 : ∀ b, b < w.heap.size → B ≤ b ∧ v.ownBlock ≠ some b → B ≤ b ∧ v'.ownBlock ≠ some b := fun b hb hS => by
      refine ⟨hS.1, fun e => ?_⟩
      rcases loc with e' | e'
      · exact hS.2 (e'.symm.trans e)
      · rw [e'] at e
        cases e
        omega
    refine Lo.at_keep g.size h1 (fun b o y hb hS hc => ?_) t x k
    rw [← hc]
    exact World.cell?_of_block (w := w) (g.block b hb (fun e => hS.2 e.symm))
  refine ⟨vs ++ [u], (hv.imp hk).snoc (hk _ _ ht), ?_⟩
  rw [List.length_append, List.length_singleton]
  unfold Lo.flat at own ⊢
  rw [List.flatMap_append]
  simpa using own
theorem OwnLs.lol {B : Nat} {w : World} {v : Value} {ts : List Lo} (h : OwnLs B w v ts) : LoL (fun b => B ≤ b) w ts v := by
  obtain ⟨vs, h1, h3⟩ := h
  have hc := fun g hg => World.ownsRow.cells h3 (g := g) hg
  have hlt := World.ownsRow.lt h3
  obtain ⟨hl, ⟨rfl, hn⟩ | ⟨g, cap, cur, rfl, hB, hh, h4, h5, -⟩⟩ := h3
  · obtain rfl := List.eq_nil_of_length_eq_zero hn
    exact LoL.nil _ _
  · refine ⟨_, cap, rfl, h4, h5, fun _ => ⟨g, 0, rfl, (hlt g rfl).2, (hlt g rfl).1, Lo.ats_row (h1.imp fun t v k => Lo.at_keep (Nat.le_refl _) (fun _ _ h => h.1) (fun _ _ _ _ _ h => h) t v k) fun j u hj => ?_⟩⟩
    have := hc g rfl j u hj
    rw [Addr.add_lit] at this
    exact this

/-- What Main does, word by word. -/
def askX (j : Nat) : Ex := if j = 0 then Px.v 0 else Px.g ((j : Int) - 1)
def askT (e : Ex) (k : Nat) : Lo := .mk 13 0 0 [Px.t 118 e (Px.n (8 * (k : Int)))] []
def askTo : Nat → List Lo
  | 0 => [Px.call 0 1 []]
  | j + 1 => askTo j ++ [askT (askX j) 0, askT (askX j) 1, askT (askX j) 2, askT (askX j) 3]
theorem askTo_six : askTo 6 = askL := by
  simp [askTo, askL, outW, askT, askX]
theorem askTo_length : ∀ j, (askTo j).length = 1 + 4 * j
  | 0 => rfl
  | j + 1 => by rw [askTo, List.length_append, askTo_length j]; simp; omega

end Go.Proofs.YtgohnekaolgblaaGreat
