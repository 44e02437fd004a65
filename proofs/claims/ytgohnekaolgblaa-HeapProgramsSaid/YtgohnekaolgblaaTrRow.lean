/- Lists of values that a call makes: a row of trees of its own, which grows by append. -/
import Derived.Test.YtgohnekaolgblaaTree
import Derived.Test.YtgohnekaolgblaaApp
namespace Go.Proofs.Ytgohnekaolgblaa
open Go.RowKit

/-- The row's first place, of a block no byte of which a text shares. -/
def Fresh (w : World) (b off : Nat) : Prop := off = 0 ∧ ∀ o, w.frozen? ⟨b, o, none⟩ = false
theorem Fresh.keep {w w' : World} {b off : Nat} (h : Fresh w b off) (hb : w'.heap[b]? = w.heap[b]?) : Fresh w' b off := by
  refine ⟨h.1, fun o => ?_⟩
  have := h.2 o
  unfold World.frozen? at this ⊢
  rw [hb]
  exact this
theorem Fresh.row {w : World} {b : Nat} {cs : Array Value} {T : TypeId} (h : w.heap[b]? = some (.cells cs T (0, 0))) : Fresh w b 0 := ⟨rfl, fun o => VB.free h o⟩

/-- A row of the call's own, at or behind block lo, whose elements are these trees, which lie there too. -/
def RowT (lo : Nat) (w : World) (v : Value) (ts : List Tr) : Prop :=
  ∃ cs, w.ownsRow lo 58 4 v ts.length cs ∧ ∀ i (hi : i < ts.length), ∃ v0 v1 v2 v3, cs[i * 4]? = some v0 ∧ cs[i * 4 + 1]? = some v1 ∧ cs[i * 4 + 2]? = some v2 ∧ cs[i * 4 + 3]? = some v3 ∧
    Tr.at (fun b off => lo ≤ b ∧ b < w.heap.size ∧ Fresh w b off ∧ v.ownBlock ≠ some b) w ts[i] (.agg #[v0, v1, v2, v3])

theorem RowT.nil (lo : Nat) (w : World) : RowT lo w (.slice none 0 0) [] := ⟨[], World.ownsRow_nil _ _ _ _, fun i hi => absurd hi (by simp)⟩

theorem RowT.len {lo : Nat} {w : World} {v : Value} {ts : List Tr} (h : RowT lo w v ts) : ∃ A cap, v = .slice A ts.length cap ∧ ts.length ≤ cap ∧ cap ≤ maxLen := by
  obtain ⟨cs, h1, _⟩ := h
  rcases h1.2 with ⟨rfl, hn⟩ | ⟨g, cap, cur, rfl, _, _, hnc, hcm, _⟩
  · exact ⟨none, 0, by rw [hn], by omega, by unfold maxLen; omega⟩
  · exact ⟨_, cap, rfl, hnc, hcm⟩
theorem RowT.lt {lo : Nat} {w : World} {v : Value} {ts : List Tr} (h : RowT lo w v ts) : ∀ g, v.ownBlock = some g → lo ≤ g ∧ g < w.heap.size := by
  obtain ⟨cs, h1, _⟩ := h
  exact h1.lt

theorem RowT.keep {lo : Nat} {w w' : World} {v : Value} {ts : List Tr} (h : RowT lo w v ts) (hz : w.heap.size ≤ w'.heap.size) (hb : ∀ k, lo ≤ k → k < w.heap.size → w'.heap[k]? = w.heap[k]?) : RowT lo w' v ts := by
  have hlt := h.lt
  obtain ⟨cs, h1, h2⟩ := h
  refine ⟨cs, ⟨h1.1, ?_⟩, fun i hi => ?_⟩
  · rcases h1.2 with h | ⟨g, cap, cur, rfl, hg, hh, r⟩
    · exact .inl h
    · refine .inr ⟨g, cap, cur, rfl, hg, ?_, r⟩
      rw [hb g hg (hlt g rfl).2]
      exact hh
  · obtain ⟨v0, v1, v2, v3, c0, c1, c2, c3, ha⟩ := h2 i hi
    refine ⟨v0, v1, v2, v3, c0, c1, c2, c3, Tr.at_keep (fun b off h => ⟨h.1, Nat.lt_of_lt_of_le h.2.1 hz, h.2.2.1.keep (hb b h.1 h.2.1), h.2.2.2⟩) (fun b off o u hs hc => ?_) _ _ ha⟩
    rw [World.cell?_of_block (w := w) (hb b hs.1 hs.2.1)]
    exact hc

/-- The tree whose list a row is. -/
theorem RowT.tree {lo : Nat} {w : World} {v : Value} {ts : List Tr} (h : RowT lo w v ts) (k n : Int) (s : ByteArray) : Tr.at (fun b off => lo ≤ b ∧ b < w.heap.size ∧ Fresh w b off) w (.mk k n s ts) (.agg #[.int .i64 k, .int .i64 n, .string s, v]) := by
  have hlt := h.lt
  obtain ⟨A, cap, rfl, l1, l2⟩ := h.len
  obtain ⟨cs, h1, h2⟩ := h
  rw [Tr.at_mk]
  refine ⟨A, cap, rfl, l1, l2, fun hne => ?_⟩
  rcases h1.2 with ⟨h, _⟩ | ⟨g, cap', cur, he, hg, hh, r⟩
  · simp only [Value.slice.injEq] at h
    exact absurd (List.length_eq_zero_iff.1 h.2.1) hne
  · simp only [Value.slice.injEq] at he
    obtain ⟨rfl, _, rfl⟩ := he
    refine ⟨g, 0, rfl, ⟨hg, (hlt g rfl).2, Fresh.row hh⟩, Tr.ats_of fun i hi => ?_⟩
    obtain ⟨v0, v1, v2, v3, c0, c1, c2, c3, ha⟩ := h2 i hi
    have hc : ∀ j u, cs[j]? = some u → w.cell? ⟨g, j, none⟩ = some u := fun j u hj => by
      have := World.ownsRow.cells h1 (g := g) rfl j u hj
      unfold Addr.add at this
      split at this <;> simp_all
    refine ⟨v0, v1, v2, v3, ?_, ?_, ?_, ?_, Tr.at_mono ha (fun b off h => ⟨h.1, h.2.1, h.2.2.1⟩)⟩
    · simpa using hc _ _ c0
    · simpa using hc _ _ c1
    · simpa using hc _ _ c2
    · simpa using hc _ _ c3

/-- append(v, x), x a tree whose parts are newer than the row. -/
theorem run_app4 {P : Program} {T ty : TypeId} {bytes : Nat} {z : Value} {i : TypeInfo} (hT : P.underlying T = some (.slice 58)) (hi : P.info? 58 = some i) (hz : i.zero = some z) (hzs : z.cells.size = 4) (hsz : i.size = 4) (hby : i.bytes = bytes)
    {lo lo' : Nat} {w : World} {v : Value} {ts : List Tr} {t : Tr} {A : Option Addr} {c : Nat} (h : RowT lo w v ts) (ht : Tr.at (fun b off => lo' ≤ b ∧ b < w.heap.size ∧ Fresh w b off) w t (.agg #[.int .i64 t.k, .int .i64 t.n, .string t.s, .slice A t.l.length c]))
    (hlo : lo ≤ lo') (hv : ∀ g, v.ownBlock = some g → g < lo') (hlw : lo ≤ w.heap.size) (hlen : (ts.length + 1) * bytes ≤ 140737488355328) (hml : ts.length + 1 ≤ maxLen) :
    ∃ v' w', (Builtin.append_ #[T, T] ty #[v, .slice (some ⟨w.heap.size, 0, none⟩) 1 1]).run P (w.alloc (.cells #[.int .i64 t.k, .int .i64 t.n, .string t.s, .slice A t.l.length c] 58)) = .ok v' w' ∧ RowT lo w' v' (ts ++ [t]) ∧
      (w.alloc (.cells #[.int .i64 t.k, .int .i64 t.n, .string t.s, .slice A t.l.length c] 58)).grownBy w' v.ownBlock := by
  have hlt := h.lt
  obtain ⟨cs, h1, h2⟩ := h
  have h1a := h1.alloc (.cells #[.int .i64 t.k, .int .i64 t.n, .string t.s, .slice A t.l.length c] 58)
  have hnews : ∀ j u, [Value.int .i64 t.k, .int .i64 t.n, .string t.s, .slice A t.l.length c][j]? = some u → (w.alloc (.cells #[.int .i64 t.k, .int .i64 t.n, .string t.s, .slice A t.l.length c] 58)).cell? ((⟨w.heap.size, 0, none⟩ : Addr).add j) = some u := by
    intro j u hj
    rw [addr_add, cell_of_row _ _ _ _ _ _ (heap_alloc_new w _)]
    simpa using hj
  have hone : ∀ u ∈ [Value.int .i64 t.k, .int .i64 t.n, .string t.s, .slice A t.l.length c], u.oneCell' = true := by
    intro u hu
    simp only [List.mem_cons, List.not_mem_nil, or_false] at hu
    rcases hu with rfl | rfl | rfl | rfl <;> rfl
  obtain ⟨v', w', hr, ho, hg, _⟩ := run_append_own (P := P) _ lo T ty 58 i z 4 bytes hT hi hz hsz hby hzs (by decide) v ts.length cs h1a ⟨w.heap.size, 0, none⟩ 1 1 [.int .i64 t.k, .int .i64 t.n, .string t.s, .slice A t.l.length c] (by simp) hnews hone hml hlen (by simp; omega)
  have hown : v'.ownBlock = v.ownBlock ∨ ∃ g, v'.ownBlock = some g ∧ w.heap.size < g := by
    rcases h1.2 with ⟨rfl, hn⟩ | ⟨g, cap, cur, rfl, _, hh, hnc, hcm, hcs, _⟩
    · have hx := run_append_nil (P := P) (w.alloc (.cells #[.int .i64 t.k, .int .i64 t.n, .string t.s, .slice A t.l.length c] 58)) T ty 58 i z hT hi hz ⟨w.heap.size, 0, none⟩ 1 1 _ (by rw [hsz]; rfl) hnews (by decide) (by decide) (by have hb := hlen; rw [hn] at hb; subst hby; omega)
      rw [hx] at hr
      injection hr with e1 e2
      exact .inr ⟨_, by rw [← e1]; rfl, by simp⟩
    · by_cases hroom : ts.length + 1 ≤ cap
      · have hfit : ts.length * i.size + [Value.int .i64 t.k, .int .i64 t.n, .string t.s, .slice A t.l.length c].length ≤ cur.size := by
          rw [hsz, hcs]; simp only [List.length_cons, List.length_nil]; omega
        have hgl := (hlt g rfl).2
        have hx := run_append_room (P := P) (w.alloc (.cells #[.int .i64 t.k, .int .i64 t.n, .string t.s, .slice A t.l.length c] 58)) T ty 58 i hT hi g ts.length cap cur (by rw [Below.heap_alloc w _ g hgl]; exact hh) ⟨w.heap.size, 0, none⟩ 1 1 _ (by rw [hsz]; rfl) hnews hone hroom hfit
        rw [hx] at hr
        injection hr with e1 e2
        exact .inl (by rw [← e1]; rfl)
      · have hx := run_append_grow (P := P) (w.alloc (.cells #[.int .i64 t.k, .int .i64 t.n, .string t.s, .slice A t.l.length c] 58)) T ty 58 i z hT hi hz ⟨g, 0, none⟩ ts.length cap cs (by rw [hsz]; exact h1.1) (h1a.cells (g := g) rfl) ⟨w.heap.size, 0, none⟩ 1 1 _ (by rw [hsz]; rfl) hnews (by omega) (by unfold maxLen at hml; omega) (growslice_fits (by omega) (by rw [hby]; exact hlen))
        rw [hx] at hr
        injection hr with e1 e2
        exact .inr ⟨_, by rw [← e1]; rfl, by simp⟩
  refine ⟨v', w', hr, ⟨_, by simpa using ho, fun i hi => ?_⟩, hg⟩
  have hszs := hg.size
  simp only [World.size_alloc] at hszs
  have hblk : ∀ b, b < w.heap.size → v.ownBlock ≠ some b → w'.heap[b]? = w.heap[b]? := fun b hb hne =>
    (hg.block b (by simp; omega) (fun e => hne e.symm)).trans (Below.heap_alloc w _ b hb)
  have hcell : ∀ b o u, b < w.heap.size → v.ownBlock ≠ some b → w.cell? ⟨b, o, none⟩ = some u → w'.cell? ⟨b, o, none⟩ = some u := fun b o u hb hne hc => by
    rw [World.cell?_of_block (w := w.alloc (.cells #[.int .i64 t.k, .int .i64 t.n, .string t.s, .slice A t.l.length c] 58)) (hg.block b (by simp; omega) (fun e => hne e.symm))]
    exact cellA hc _
  have hcl : cs.length = ts.length * 4 := h1.1
  by_cases hil : i < ts.length
  · obtain ⟨v0, v1, v2, v3, c0, c1, c2, c3, ha⟩ := h2 i hil
    rw [List.getElem_append_left hil]
    refine ⟨v0, v1, v2, v3, ?_, ?_, ?_, ?_, Tr.at_keep (fun b off h => ⟨h.1, Nat.lt_of_lt_of_le h.2.1 (by omega), h.2.2.1.keep (hblk b h.2.1 h.2.2.2), ?_⟩) (fun b off o u hs hc => hcell b o u hs.2.1 hs.2.2.2 hc) _ _ ha⟩
    · rw [List.getElem?_append_left (by omega)]; exact c0
    · rw [List.getElem?_append_left (by omega)]; exact c1
    · rw [List.getElem?_append_left (by omega)]; exact c2
    · rw [List.getElem?_append_left (by omega)]; exact c3
    · rcases hown with e | ⟨g, e, hg'⟩
      · rw [e]; exact h.2.2.2
      · rw [e]
        intro e'
        have := Option.some.inj e'
        have := h.2.1
        omega
  · have hie : i = ts.length := by simp at hi; omega
    subst hie
    refine ⟨.int .i64 t.k, .int .i64 t.n, .string t.s, .slice A t.l.length c, ?_, ?_, ?_, ?_, ?_⟩
    · rw [List.getElem?_append_right (by omega), hcl, Nat.sub_self]; rfl
    · rw [List.getElem?_append_right (by omega), hcl, show ts.length * 4 + 1 - ts.length * 4 = 1 by omega]; rfl
    · rw [List.getElem?_append_right (by omega), hcl, show ts.length * 4 + 2 - ts.length * 4 = 2 by omega]; rfl
    · rw [List.getElem?_append_right (by omega), hcl, show ts.length * 4 + 3 - ts.length * 4 = 3 by omega]; rfl
    · have hget : (ts ++ [t])[ts.length]'hi = t := by simp
      rw [hget]
      refine Tr.at_keep (fun b off h => ⟨Nat.le_trans hlo h.1, Nat.lt_of_lt_of_le h.2.1 (by omega), h.2.2.keep (hblk b h.2.1 (fun e => by have := hv b e; have := h.1; omega)), ?_⟩) (fun b off o u hs hc => hcell b o u hs.2.1 (fun e => by have := hv b e; have := hs.1; omega) hc) _ _ ht
      rcases hown with e | ⟨g, e, hg'⟩
      · rw [e]; intro e'; have := hv b e'; have := h.1; omega
      · rw [e]
        intro e'
        have := Option.some.inj e'
        have := h.2.1
        omega

/-- .. as one step of a region that draws its order. -/
theorem step_app4 {P : Program} {T : TypeId} {bytes : Nat} {z : Value} {i : TypeInfo} (hT : P.underlying T = some (.slice 58)) (hi : P.info? 58 = some i) (hz : i.zero = some z) (hzs : z.cells.size = 4) (hsz : i.size = 4) (hby : i.bytes = bytes)
    {ops : Array Oper} {o : Oper} {a : Act} {K : Act → World → Prop} {Q : Exit → Act → World → Prop} {R : Prop} (hgd : o.guard = none) (s x : Operand)
    (ho : o.op = .call { callee := .builtin .append, args := #[s, x], argTypes := #[T, T] })
    {lo lo' : Nat} {w : World} {v : Value} {ts : List Tr} {t : Tr} {A : Option Addr} {c : Nat} (hs : a.eval s = v) (hx : a.eval x = .slice (some ⟨w.heap.size, 0, none⟩) 1 1) (h : RowT lo w v ts) (ht : Tr.at (fun b off => lo' ≤ b ∧ b < w.heap.size ∧ Fresh w b off) w t (.agg #[.int .i64 t.k, .int .i64 t.n, .string t.s, .slice A t.l.length c]))
    (hlo : lo ≤ lo') (hv : ∀ g, v.ownBlock = some g → g < lo') (hlw : lo ≤ w.heap.size) (hlen : (ts.length + 1) * bytes ≤ 140737488355328) (hml : ts.length + 1 ≤ maxLen)
    (hk : ∀ v' w', RowT lo w' v' (ts ++ [t]) → (w.alloc (.cells #[.int .i64 t.k, .int .i64 t.n, .string t.s, .slice A t.l.length c] 58)).grownBy w' v.ownBlock → K (a.put o.dst v') w') :
    if Region.wanted o (yielded ops a.tmps) = true then Oper.wp P o a (w.alloc (.cells #[.int .i64 t.k, .int .i64 t.n, .string t.s, .slice A t.l.length c] 58)) K Q else R := by
  have hw : Region.wanted o (yielded ops a.tmps) = true := by simp [Region.wanted, hgd]
  rw [if_pos hw]
  obtain ⟨v', w', hrun, h1, h2⟩ := run_app4 (ty := o.type) hT hi hz hzs hsz hby h ht hlo hv hlw hlen hml
  unfold Oper.wp execOp
  simp only [ho, resolve, invoke, builtin, Sem.run_bind, Sem.run_pure, Result.andThen_ok, List.map_toArray, List.map_cons, List.map_nil, hs, hx, hrun]
  exact hk v' w' h1 h2

end Go.Proofs.Ytgohnekaolgblaa
