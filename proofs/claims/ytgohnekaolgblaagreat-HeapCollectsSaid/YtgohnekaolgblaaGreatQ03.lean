/- append(out, make([]T, n)...); a number of what a call owns is set. -/
import Derived.Test.YtgohnekaolgblaaGreatQ01
import Derived.Test.YtgohnekaolgblaaGreatQ02
import Derived.BigRegion
import Derived.Deep.RegionLaw
namespace Go.Proofs.YtgohnekaolgblaaGreat
open Go.RowKit

theorem zeros_toList (k : IntKind) (m : Nat) : (Builtin.zeroCells #[Value.int k 0] m).toList = (List.replicate m (0 : Int)).map (Value.int k) := by
  simp only [Builtin.zeroCells, List.map_replicate]
  apply List.ext_getElem?
  intro i
  by_cases hi : i < m
  · simp [hi, Nat.mod_one]
  · simp [hi]

theorem run_app_zeros {P : Program} {T U ty E : TypeId} {k : IntKind} {bytes : Nat} {i : TypeInfo} (hT : P.underlying T = some (.slice E)) (hU : P.underlying U = some (.int .i64)) (hi : P.info? E = some i) (hz : i.zero = some (.int k 0)) (hsz : i.size = 1) (hby : i.bytes = bytes)
    {w : World} {B : Nat} {v : Value} {xs : List Int} (hown : Owns E k B w v xs) (m : Nat) (hB : B ≤ w.heap.size) (hlen : (xs.length + m) * bytes ≤ 140737488355328) (hml : xs.length + m ≤ maxLen) (hm : m ≤ 1073741824) (hb8 : bytes ≤ 8) (hne : v ≠ .slice none 0 0) :
    ∃ v' w', (Builtin.append_ #[T, U] ty #[v, .int .i64 (m : Int)]).run P w = .ok v' w' ∧ Owns E k B w' v' (xs ++ List.replicate m 0) ∧ w.grownBy w' v.ownBlock := by
  subst hby
  have hw : IntKind.i64.wrap (m : Int) = m := by rw [IntKind.wrap_i64]; omega
  have hbig : ¬ ((281474976710656 : Int) < (m : Int) * (i.bytes : Int)) := by
    have : (m : Int) * (i.bytes : Int) ≤ 1073741824 * 8 := Int.mul_le_mul (by omega) (by omega) (by omega) (by omega)
    omega
  have hlt : ¬ ((m : Int) < 0) := by omega
  have hsmall : xs.length + m ≤ 9223372036854775807 := by unfold maxLen at hml; omega
  have h63' : ¬ (9223372036854775807 < ((xs.length : Int) + (m : Int))) := by omega
  have hz1 : (Value.int k 0).cells = #[Value.int k 0] := rfl
  rcases hown.2 with ⟨rfl, _⟩ | ⟨g, cap, cur, rfl, hbg, hg, hnc, hcm, hcs, htake⟩
  · exact absurd rfl hne
  · simp only [Nat.mul_one] at hcs htake
    by_cases hroom : xs.length + m ≤ cap
    · have hst := run_storeCells_at P g xs.length E ((List.replicate m (0 : Int)).map (Value.int k)) 0 cur w hg (by simp; omega) (by intro u hu; obtain ⟨y, _, rfl⟩ := List.mem_map.1 hu; rfl)
      simp only [Nat.add_zero] at hst
      refine ⟨.slice (some ⟨g, 0, none⟩) (xs.length + m) cap, w.setRow g (cur.toList.take xs.length ++ (List.replicate m (0 : Int)).map (Value.int k) ++ cur.toList.drop (xs.length + m)).toArray, ?_, ?_, ?_⟩
      · by_cases hm0 : m = 0
        · subst hm0
          have hw0 : IntKind.i64.wrap 0 = 0 := by decide
          simp [Builtin.append_, run_underlying hT, run_underlying hU, sizeOf, typeInfo, hi, asInt, asIntOf, hw0, hnc, storeCells] at hst ⊢
          exact hst
        · simp [Builtin.append_, run_underlying hT, run_underlying hU, sizeOf, typeInfo, zeroValue, hi, hz, hsz, hz1, asInt, asIntOf, hw, hbig, hm0, hroom, Addr.add_lit, zeros_toList] at hst ⊢
          rw [hst]
          rfl
      · refine ⟨by simp, .inr ⟨g, cap, _, by simp, hbg, setRow_heap w g cur _ E _ hg, by simpa using hroom, hcm, ?_, ?_⟩⟩
        · simp; omega
        · rw [htake, List.take_append_of_le_length (by simp), List.take_of_length_le (by simp)]
          simp
      · exact ⟨rfl, rfl, rfl, by simp, fun j _ hk => setRow_other w g j _ (fun e => hk (by simp [Value.ownBlock, e]))⟩
    · have hm0 : ¬ m = 0 := by omega
      have h48' : ¬ (281474976710656 < Builtin.nextslicecap (xs.length + m) cap * i.bytes) := by
        have := growslice_fits (need := xs.length + m) (old := cap) (bytes := i.bytes) (by omega) hlen
        omega
      have hfo := run_firstCells_some (P := P) w.drew 1 xs.length ⟨g, 0, none⟩ xs.length cap (xs.map (Value.int k)) (by simp) (by
        intro j u hj
        have := World.ownsRow.cells (g := g) hown rfl j u hj
        simpa using this)
      refine ⟨.slice (some ⟨w.heap.size, 0, none⟩) (xs.length + m) (grownCap w (xs.length + m) cap E), w.drew.alloc (.cells ((xs.map (Value.int k)).toArray ++ Builtin.zeroCells #[.int k 0] m ++ Builtin.zeroCells #[.int k 0] (grownCap w (xs.length + m) cap E - (xs.length + m))) E), ?_, ?_, ?_⟩
      · simp [Builtin.append_, run_underlying hT, run_underlying hU, sizeOf, typeInfo, zeroValue, hi, hz, hsz, hz1, asInt, asIntOf, hw, hbig, hm0, hroom, h63', h48', Question.forced, newRow, grownCap, hfo]
        exact fun hneg => absurd hneg hlt
      · have hge := grownCap_ge w (xs.length + m) cap E
        have hcm' : grownCap w (xs.length + m) cap E ≤ maxLen := grownCap_le_maxLen w (xs.length + m) cap E hml
        refine ⟨by simp, .inr ⟨w.heap.size, _, _, by simp, hB, heap_alloc_new w.drew _, by simpa using hge, hcm', ?_, ?_⟩⟩
        · simp only [Array.size_append, size_zeroCells]; simp; omega
        · simp only [Array.toList_append, zeros_toList]
          rw [List.take_append_of_le_length (by simp), List.take_of_length_le (by simp)]
          simp
      · exact ⟨rfl, rfl, rfl, by simp, fun j hj _ => Below.heap_alloc w.drew _ j hj⟩

theorem app_zeros {P : Program} {T U E : TypeId} {k : IntKind} {bytes : Nat} {i : TypeInfo} (hT : P.underlying T = some (.slice E)) (hU : P.underlying U = some (.int .i64)) (hi : P.info? E = some i) (hz : i.zero = some (.int k 0)) (hsz : i.size = 1) (hby : i.bytes = bytes)
    {ops : Array Oper} {rest : List Oper} {o : Oper} {a : Act} {Q : Exit → Act → World → Prop} (hgd : o.guard = none) (s x : Operand)
    (ho : o.op = .call { callee := .builtin .append, args := #[s, x], argTypes := #[T, U] })
    {B : Nat} {w0 w : World} {v : Value} {xs : List Int} (m : Nat) (hs : a.eval s = v) (hx : a.eval x = .int .i64 (m : Int))
    (hown : Owns E k B w v xs) (hne : xs ≠ []) (hbel : Below B w0 w) (hB : B ≤ w.heap.size) (hlen : (xs.length + m) * bytes ≤ 140737488355328) (hml : xs.length + m ≤ maxLen) (hm : m ≤ 1073741824) (hb8 : bytes ≤ 8)
    (h : ∀ v' w', Owns E k B w' v' (xs ++ List.replicate m 0) → Below B w0 w' → B ≤ w'.heap.size → w.grownBy w' v.ownBlock → wpList P ops Q rest (a.put o.dst v') w') :
    wpList P ops Q (o :: rest) a w := by
  refine wpList_plain hgd fun K hK => ?_
  obtain ⟨v', w', hrun, h1, h2⟩ := run_app_zeros (ty := o.type) hT hU hi hz hsz hby hown m hB hlen hml hm hb8 (fun e => by subst e; rcases hown.2 with ⟨_, h0⟩ | ⟨_, _, _, h0, _⟩; exact hne (List.eq_nil_of_length_eq_zero h0); cases h0)
  unfold Oper.wp execOp
  simp only [ho, resolve, invoke, builtin, Sem.run_bind, Sem.run_pure, Result.andThen_ok, List.map_toArray, List.map_cons, List.map_nil, hs, hx, hrun]
  exact hK _ _ (h v' w' h1 (hbel.grown h2 hB (fun j hj => (hown.lt j hj).1)) (by have := h2.size; omega) h2)

/-- A number of what is owned is set. -/
theorem Owns.set {E : TypeId} {k : IntKind} {B : Nat} {w : World} {g n cap : Nat} {xs : List Int} (h : Owns E k B w (.slice (some ⟨g, 0, none⟩) n cap) xs) (j : Nat) (y : Int) :
    Owns E k B (w.setCell ⟨g, j, none⟩ (.int k y)) (.slice (some ⟨g, 0, none⟩) n cap) (xs.set j y) := by
  rcases h.2 with ⟨h, _⟩ | ⟨g', cap', cur, he, hbg, hg, hnc, hcm, hcs, htake⟩
  · cases h
  · simp only [Value.slice.injEq, Option.some.injEq, Addr.mk.injEq] at he
    obtain ⟨⟨rfl, _⟩, rfl, rfl⟩ := he
    have hv := VB.set (w := w) (t := g) (T := E) (cs := cur) hg j (.int k y)
    refine ⟨by simp, .inr ⟨g, cap, _, by simp, hbg, hv, by simpa using hnc, hcm, by simpa using hcs, ?_⟩⟩
    simp only [Array.toList_setIfInBounds, List.length_set, Nat.mul_one] at htake ⊢
    rw [List.take_set, htake, List.map_set]

end Go.Proofs.YtgohnekaolgblaaGreat

/- What the closure of word.Lay is laid with; the text's words. -/
namespace Go.Proofs.YtgohnekaolgblaaGreat
open Go.RowKit

theorem GrowS.grown {S : Nat → Prop} {a w w' : World} (h : GrowS S a w) {r : Option Nat} (hg : w.grownBy w' r) (hr : ∀ g, r = some g → g < a.heap.size → S g) : GrowS S a w' :=
  ⟨hg.os.trans h.os, hg.tape.trans h.tape, hg.output.trans h.output, Nat.le_trans h.size hg.size, fun k hk hn => (hg.block k (by have := h.size; omega) (fun e => hn (hr k e.symm hk))).trans (h.block k hk hn)⟩
theorem VB.grownAny {w w' : World} {t : Nat} {T : TypeId} {cs : Array Value} (h : VB w t T cs) {r : Option Nat} (hg : w.grownBy w' r) (hne : ∀ g, r = some g → t ≠ g) : VB w' t T cs :=
  (hg.block t h.lt (fun e => hne t e.symm rfl)).trans h

set_option maxHeartbeats 1000000 in
/-- What is owned stays owned where an older block's cell is set. -/
theorem Owns.far {E : TypeId} {k : IntKind} {C : Nat} {w : World} {v : Value} {xs : List Int} (h : Owns E k C w v xs) {b i : Nat} (hb : b < C) (u : Value) : Owns E k C (w.setCell ⟨b, i, none⟩ u) v xs := by
  have hg : w.grownBy (w.setCell ⟨b, i, none⟩ u) (some b) := ⟨rfl, rfl, rfl, by simp [World.setCell], fun k _ hn => Below.heap_setCell w ⟨b, i, none⟩ u k (fun e => hn (by rw [e]))⟩
  refine h.grown hg ?_
  cases hv : v.ownBlock with
  | none => exact .inl rfl
  | some g =>
    have := (h.lt g hv).1
    exact .inr (by simp only [ne_eq, Option.some.injEq]; omega)

/-- What is owned is no block of another type. -/
theorem Owns.ne {E T : TypeId} {k : IntKind} {C : Nat} {w : World} {v : Value} {xs : List Int} (h : Owns E k C w v xs) {t : Nat} {cs : Array Value} (hv : VB w t T cs) (hne : E ≠ T) : ∀ g, v.ownBlock = some g → t ≠ g := by
  intro g hg e
  subst e
  rcases h.2 with ⟨rfl, _⟩ | ⟨g', cap, cur, rfl, _, hh, _⟩
  · cases hg
  · simp only [Value.ownBlock, Option.some.injEq] at hg
    subst hg
    have := hh.symm.trans hv
    simp only [Option.some.injEq, Obj.cells.injEq] at this
    exact hne this.2.1

theorem Owns.free {E : TypeId} {k : IntKind} {C : Nat} {w : World} {g n cap : Nat} {xs : List Int} (h : Owns E k C w (.slice (some ⟨g, 0, none⟩) n cap) xs) (j : Nat) : w.frozen? ⟨g, j, none⟩ = false := by
  rcases h.2 with ⟨h, _⟩ | ⟨g', cap', cur, he, _, hh, _⟩
  · cases h
  · simp only [Value.slice.injEq, Option.some.injEq, Addr.mk.injEq] at he
    obtain ⟨⟨rfl, _⟩, _, _⟩ := he
    exact VB.free (w := w) (T := E) (cs := cur) hh j

/-- A byte is put into a word. -/
theorem Wd.or_byte (old b : Int) (r : Nat) (hr : r < 4) (h0 : 0 ≤ old) (h1 : old < 256 ^ r) (hb0 : 0 ≤ b) (hb : b ≤ 255) : bits .or .u32 old (b % 4294967296 * 2 ^ (8 * r) % 4294967296) = old + b * 256 ^ r := by
  obtain ⟨o, rfl⟩ := Int.eq_ofNat_of_zero_le h0
  obtain ⟨c, rfl⟩ := Int.eq_ofNat_of_zero_le hb0
  have hp : (2 : Int) ^ (8 * r) = 256 ^ r := by rw [Int.pow_mul]; rfl
  have hpn : (2 : Nat) ^ (8 * r) = 256 ^ r := by rw [Nat.pow_mul]
  have hle : (256 : Nat) ^ r ≤ 16777216 := by
    rcases (show r = 0 ∨ r = 1 ∨ r = 2 ∨ r = 3 by omega) with rfl | rfl | rfl | rfl <;> decide
  have hc : c ≤ 255 := by omega
  have ho : o < 256 ^ r := Int.ofNat_lt.1 (by rw [Int.natCast_pow]; exact h1)
  have hm : c * 256 ^ r ≤ 255 * 256 ^ r := Nat.mul_le_mul_right _ hc
  have e1 : (c : Int) % 4294967296 = c := by omega
  have e2 : ((c : Int) * 2 ^ (8 * r)) % 4294967296 = ((c * 256 ^ r : Nat) : Int) := by
    rw [hp]
    have : ((c * 256 ^ r : Nat) : Int) = (c : Int) * 256 ^ r := by rw [Int.natCast_mul, Int.natCast_pow]; rfl
    rw [← this]
    omega
  rw [e1, e2, bits_or_comm, bits_join .u32 (c * 256 ^ r) o (8 * r) (by rw [hpn]; exact Nat.mul_mod_left _ _) (by rw [hpn]; exact ho) (by show _ < 2 ^ 32; omega), IntKind.wrap_u32]
  have : ((c * 256 ^ r : Nat) : Int) = (c : Int) * 256 ^ r := by rw [Int.natCast_mul, Int.natCast_pow]; rfl
  omega

end Go.Proofs.YtgohnekaolgblaaGreat

/- reader.text: contract. -/
namespace Go.Proofs.YtgohnekaolgblaaGreat
open Go.RowKit

/-- The slice value v, in a block below B, reads as the numbers xs. -/
def SeesB (k : IntKind) (B : Nat) (w : World) (v : Value) (xs : List Int) : Prop :=
  ∃ A cap, v = .slice A xs.length cap ∧ xs.length ≤ cap ∧ cap ≤ maxLen ∧ (xs ≠ [] → ∃ b off, A = some ⟨b, off, none⟩ ∧ b < B ∧ ∀ j (hj : j < xs.length), w.cell? ⟨b, off + j, none⟩ = some (.int k xs[j]))

theorem Sees.seesB {k : IntKind} {w : World} {v : Value} {xs : List Int} (h : Sees k w v xs) : SeesB k w.heap.size w v xs := by
  obtain ⟨A, cap, rfl, h1, h2, h3⟩ := h
  refine ⟨A, cap, rfl, h1, h2, fun hne => ?_⟩
  obtain ⟨b, off, rfl, hc⟩ := h3 hne
  refine ⟨b, off, rfl, ?_, hc⟩
  have := hc 0 (List.length_pos_iff.2 hne)
  simpa using World.block_lt_of_cell? w _ this
theorem SeesB.sees {k : IntKind} {B : Nat} {w : World} {v : Value} {xs : List Int} (h : SeesB k B w v xs) : Sees k w v xs := by
  obtain ⟨A, cap, rfl, h1, h2, h3⟩ := h
  refine ⟨A, cap, rfl, h1, h2, fun hne => ?_⟩
  obtain ⟨b, off, rfl, _, hc⟩ := h3 hne
  exact ⟨b, off, rfl, hc⟩
theorem SeesB.keep {k : IntKind} {B B' : Nat} {w w' : World} {v : Value} {xs : List Int} (h : SeesB k B w v xs) (hB : B ≤ B') (hc : ∀ b, b < B → b < w.heap.size → w'.heap[b]? = w.heap[b]?) : SeesB k B' w' v xs := by
  obtain ⟨A, cap, rfl, h1, h2, h3⟩ := h
  refine ⟨A, cap, rfl, h1, h2, fun hne => ?_⟩
  obtain ⟨b, off, rfl, hb, hcell⟩ := h3 hne
  refine ⟨b, off, rfl, by omega, fun j hj => ?_⟩
  have h1 := hcell j hj
  have hlt := World.block_lt_of_cell? w _ h1
  rw [World.cell?_of_block (w := w) (hc b hb (by simpa using hlt))]
  exact h1
theorem SeesB.grow {S : Nat → Prop} {k : IntKind} {B : Nat} {w w' : World} {v : Value} {xs : List Int} (h : SeesB k B w v xs) (hg : GrowS S w w') (hS : ∀ b, b < B → ¬ S b) : SeesB k B w' v xs :=
  h.keep (Nat.le_refl _) (fun b hb hl => hg.block b hl (hS b hb))
theorem SeesB.len {k : IntKind} {B : Nat} {w : World} {v : Value} {xs : List Int} (h : SeesB k B w v xs) : ∃ A cap, v = .slice A xs.length cap ∧ xs.length ≤ cap ∧ cap ≤ maxLen := h.sees.len

theorem GrowS.belowC {S : Nat → Prop} {a w w' : World} (h : GrowS S a w) {C : Nat} (hb : Below C w w') (hC : a.heap.size ≤ C) : GrowS S a w' :=
  ⟨hb.os.trans h.os, hb.tape.trans h.tape, hb.output.trans h.output, Nat.le_trans h.size hb.size, fun k hk hn => (hb.block k (by omega)).trans (h.block k hk hn)⟩

/-- What a reader of words is. -/
def Rd5 (vl : Value) (a : Int) (next many : Nat) (bad : Bool) : Array Value := #[vl, .int .u32 a, .int .i64 (next : Int), .int .i64 (many : Int), .bool bad]

/-- Whether a byte behind a text is no nought, among the first i. -/
def Wd.late (own : List Int) (size i : Nat) : Bool := !((((Wd.bys own).take i).drop size).all (fun x => x == 0))

theorem Wd.late_in (own : List Int) (size i : Nat) (h : i ≤ size) : Wd.late own size i = false := by
  unfold Wd.late
  rw [List.drop_eq_nil_of_le (by simp; omega)]
  rfl
theorem Wd.late_step (own : List Int) (size i : Nat) (h : size ≤ i) (hi : i < 4 * own.length) (b : Int) (hb : (Wd.bys own)[i]? = some b) : Wd.late own size (i + 1) = (Wd.late own size i || !(b == 0)) := by
  unfold Wd.late
  rw [List.take_add_one, hb, Option.toList_some, List.drop_append_of_le_length (by rw [List.length_take, Wd.bys_length]; omega), List.all_append]
  simp [Bool.not_and]

end Go.Proofs.YtgohnekaolgblaaGreat

/- Lists of values that a call makes: a row of trees of its own, which grows by append. -/
namespace Go.Proofs.YtgohnekaolgblaaGreat
open Go.RowKit

/-- The row's first place, of a block no byte of which a text shares. -/
def Fresh (w : World) (b off : Nat) : Prop := off = 0 ∧ ∀ o, w.frozen? ⟨b, o, none⟩ = false
theorem Fresh.keep {w w' : World} {b off : Nat} (h : Fresh w b off) (hb : w'.heap[b]? = w.heap[b]?) : Fresh w' b off := by
  refine ⟨h.1, fun o => ?_⟩
  have := h.2 o
  unfold World.frozen? at this ⊢
  rw [hb]
  exact this
theorem Fresh.row {w : World} {b : Nat} {cs : Array Value} {T : TypeId} (h : w.heap[b]? = some (.cells cs T (0, 0))) : Fresh w b 0 := ⟨rfl, fun o => VB.free h o⟩

end Go.Proofs.YtgohnekaolgblaaGreat

/- gimletkit.CopyValue, Plain: contracts (printed by wip/gen_copy.py). -/
namespace Go.Proofs.YtgohnekaolgblaaGreat
open Go.RowKit

theorem frzA {w : World} {b o : Nat} {v : Value} (h : w.cell? ⟨b, o, none⟩ = some v) (ob : Obj) : (w.alloc ob).frozen? ⟨b, o, none⟩ = w.frozen? ⟨b, o, none⟩ :=
  World.frozen?_of_block (Below.heap_alloc w ob b (by simpa using World.block_lt_of_cell? w _ h))
theorem grFrz {w w' : World} {r : Option Nat} (hg : w.grownBy w' r) {b o : Nat} {v : Value} (h : w.cell? ⟨b, o, none⟩ = some v) (hne : some b ≠ r) : w'.frozen? ⟨b, o, none⟩ = w.frozen? ⟨b, o, none⟩ :=
  World.frozen?_of_block (hg.block b (by simpa using World.block_lt_of_cell? w _ h) hne)
theorem grCell {w w' : World} {r : Option Nat} (hg : w.grownBy w' r) {b o : Nat} {v : Value} (h : w.cell? ⟨b, o, none⟩ = some v) (hne : some b ≠ r) : w'.cell? ⟨b, o, none⟩ = some v := hg.cell h hne
theorem frzSet (w : World) (b o o' : Nat) {u : Value} : (w.setCell ⟨b, o, none⟩ u).frozen? ⟨b, o', none⟩ = w.frozen? ⟨b, o', none⟩ := by simp
theorem cellFar {w : World} {b b' o o' : Nat} (h : b ≠ b') (u : Value) : (w.setCell ⟨b', o', none⟩ u).cell? ⟨b, o, none⟩ = w.cell? ⟨b, o, none⟩ :=
  World.cell?_of_block (Below.heap_setCell w ⟨b', o', none⟩ u b h)
theorem Tr.length_le (l : List Tr) : l.length ≤ Tr.counts l := by
  induction l with
  | nil => simp [Tr.counts]
  | cons t l ih =>
    have : 1 ≤ t.count := by obtain ⟨k, n, s, l⟩ := t; simp [Tr.count]
    simp only [List.length_cons, Tr.counts]; omega
theorem Tr.count_get (l : List Tr) (i : Nat) (h : i < l.length) : l[i].count ≤ Tr.counts l := by
  have h1 := Tr.counts_take l i h
  have h2 := Tr.counts_le l (i + 1)
  omega

mutual
/-- A tree with numbers in the place of things without fields. -/
def Tr.plain : Tr → Tr
  | .mk k n s l => if k = 3 ∧ l.length = 0 then .mk 1 n ⟨#[]⟩ [] else .mk k n s (Tr.plains l)
def Tr.plains : List Tr → List Tr
  | [] => []
  | t :: l => t.plain :: Tr.plains l
end
theorem Tr.plains_map (l : List Tr) : Tr.plains l = l.map fun t => t.plain := by
  induction l with
  | nil => rfl
  | cons t l ih => simp only [Tr.plains, List.map_cons, ih]

end Go.Proofs.YtgohnekaolgblaaGreat

/- (*heap.mover).word: contract. -/
namespace Go.Proofs.YtgohnekaolgblaaGreat
open Go.RowKit

def nums (o : List Nat) : List Int := List.map (fun n : Nat => (n : Int)) o
theorem nums_length (o : List Nat) : (nums o).length = o.length := by simp [nums]

structure Mover (w : World) (bm bn lo : Nat) (vl : Value) (ls : List Int) (a to : Int) (o : List Nat) (out : List Int) (vo vt : Value) : Prop where
  cells : VB w bm 128 #[vl, .int .u32 a, .int .u32 to, .map (some bn), vo, vt]
  num : ∃ n, n ≤ o.length ∧ IsNum w bn n (Hp.pos ls o 0)
  order : Owns 3 .i64 lo w vo (nums o)
  out : Owns 22 .u32 lo w vt out
  apart : ∀ g, vo.ownBlock = some g → vt.ownBlock ≠ some g
  ne : bm ≠ bn
  lo_bm : bm < lo
  lo_bn : bn < lo

theorem ap_ne {vo vt : Value} (hap : ∀ g, vo.ownBlock = some g → vt.ownBlock ≠ some g) : vt.ownBlock = none ∨ vt.ownBlock ≠ vo.ownBlock := by
  cases h : vt.ownBlock with
  | none => exact .inl rfl
  | some g => exact .inr (fun e => hap g e.symm h)

/-- What may have turned of what was there. -/
def MvS (bm bn : Nat) (vo vt : Value) (k : Nat) : Prop := k = bm ∨ k = bn ∨ vo.ownBlock = some k ∨ vt.ownBlock = some k
def MoverPost (w w' : World) (bm bn lo : Nat) (vl : Value) (ls : List Int) (a to : Int) (o : List Nat) (out : List Int) (vo vt : Value) : Prop :=
  ∃ vo' vt', Mover w' bm bn lo vl ls a to o out vo' vt' ∧ GrowS (MvS bm bn vo vt) w w' ∧ (vo'.ownBlock = vo.ownBlock ∨ ∃ g, vo'.ownBlock = some g ∧ w.heap.size ≤ g) ∧ (vt'.ownBlock = vt.ownBlock ∨ ∃ g, vt'.ownBlock = some g ∧ w.heap.size ≤ g)

theorem Hp.pos_le (ls : List Int) : ∀ (o : List Nat) (acc i n : Nat), Hp.pos ls o acc i = some n → n ≤ acc + Hp.sum ls o := by
  intro o
  induction o with
  | nil => intro acc i n h; cases h
  | cons j r ih =>
    intro acc i n h
    rw [Hp.pos] at h
    rw [Hp.sum]
    split at h
    · simp only [Option.some.injEq] at h; omega
    · have := ih _ _ _ h; omega
theorem Hp.pos_snoc (ls : List Int) (i j : Nat) : ∀ (o : List Nat) (acc : Nat), Hp.pos ls o acc i = none → Hp.pos ls (o ++ [i]) acc j = if j = i then some (acc + Hp.sum ls o) else Hp.pos ls o acc j := by
  intro o
  induction o with
  | nil =>
    intro acc _
    simp only [List.nil_append, Hp.pos, Hp.sum]
    by_cases h : j = i
    · rw [if_pos h, if_pos h.symm]; rfl
    · rw [if_neg h, if_neg (fun e => h e.symm)]
  | cons k r ih =>
    intro acc h
    rw [Hp.pos] at h
    by_cases hk : k = i
    · rw [if_pos hk] at h; cases h
    · rw [if_neg hk] at h
      simp only [List.cons_append, Hp.pos, Hp.sum]
      rw [ih _ h]
      by_cases hj : k = j
      · subst hj
        rw [if_pos rfl, if_neg hk, if_pos rfl]
      · rw [if_neg hj, if_neg hj]
        congr 2
        omega
theorem Hp.sum_snoc (ls : List Int) (i : Nat) : ∀ (o : List Nat), Hp.sum ls (o ++ [i]) = Hp.sum ls o + Hp.wnAt ls i := by
  intro o
  induction o with
  | nil => simp [Hp.sum]
  | cons k r ih => simp only [List.cons_append, Hp.sum, ih]; omega
theorem Hp.thing_head {ls : List Int} {i : Nat} (h : Hp.Head ls i) : Hp.wnAt ls i = Hp.wn (ls[i]'h.lt) ∧ (Hp.thing ls i).length = Hp.wnAt ls i := by
  have hlt := h.lt
  have e : Hp.wnAt ls i = Hp.wn ls[i] := by unfold Hp.wnAt; rw [List.getElem?_eq_getElem hlt]
  refine ⟨e, ?_⟩
  have := h.fits
  unfold Hp.thing
  rw [List.length_take, List.length_drop, e]
  omega

section
variable (w : World) (bm bn lo : Nat) (vl : Value) (ls : List Int) (a to : Int) (o : List Nat) (out : List Int) (vo vt : Value) (u : Int) (B : Nat)

set_option maxHeartbeats 1000000 in
set_option maxRecDepth 100000 in
theorem word_stays (hm : Mover w bm bn lo vl ls a to o out vo vt) (ha : 0 ≤ a ∧ a < 4294967296) (hu : 0 ≤ u ∧ u < 4294967296) (h : ¬ (Hp.isAdr a u = true ∧ Hp.whole a u = true)) :
    Calls Tryz.prog 58 #[.pointer (some ⟨bm, 0, none⟩), .int .u32 u] w fun e w' => e = .returned (.int .u32 u) ∧ w' = w := by
  have c1 := hm.cells.cell 1
  have cl := hm.cells.lt
  simp at c1
  have hN := fun w' => hpNames u a w' hu.1 hu.2 ha.1 ha.2
  rw [show (Hp.isAdr a u && Hp.whole a u) = false by simpa using h] at hN
  obtain ⟨k, hk⟩ : ∃ k, k = (if Hp.isAdr a u = true then Hp.idx a u else 0) := ⟨_, rfl⟩
  rw [← hk] at hN
  replace hN := Lib.hid hN
  clear h hm hk
  go_enter Tryz.func58, Tryz.ntmps58
  go_wp2_with fail
  refine (hN.out _).mono ?_
  rintro _ w1 ⟨rfl, hw1⟩
  subst hw1
  go_wp2_with fail
  go_returns
  exact ⟨rfl, rfl⟩

set_option maxHeartbeats 1000000 in
set_option maxRecDepth 100000 in
theorem word_was (hm : Mover w bm bn lo vl ls a to o out vo vt) (ha : 0 ≤ a ∧ a < 4294967296) (hto : 0 ≤ to ∧ to ≤ 2147483648) (hu : 0 ≤ u ∧ u < 4294967296) (h : Hp.isAdr a u = true ∧ Hp.whole a u = true) (n : Nat) (hn : Hp.pos ls o 0 (Hp.idx a u) = some n) (hlim : n ≤ 65536) :
    Calls Tryz.prog 58 #[.pointer (some ⟨bm, 0, none⟩), .int .u32 u] w fun e w' => e = .returned (.int .u32 (to + 4 * n)) ∧ w' = w := by
  have c1 := hm.cells.cell 1
  have c2 := hm.cells.cell 2
  have c3 := hm.cells.cell 3
  have cl := hm.cells.lt
  simp at c1 c2 c3
  have hN := fun w' => hpNames u a w' hu.1 hu.2 ha.1 ha.2
  rw [show (Hp.isAdr a u && Hp.whole a u) = true by simpa using h, if_pos h.1] at hN
  have hidx : Hp.idx a u < 4294967296 := by unfold Hp.idx; omega
  obtain ⟨i, hi⟩ : ∃ i, i = Hp.idx a u := ⟨_, rfl⟩
  rw [← hi] at hN hidx hn
  obtain ⟨nn, _, hnum⟩ := hm.num
  have hlook := hnum.run_ok i (by omega)
  rw [hn] at hlook
  simp only [Option.getD_some, Option.isSome_some] at hlook
  replace hN := Lib.hid hN
  clear h hm hn hi hnum
  go_enter Tryz.func58, Tryz.ntmps58
  go_wp2_with fail
  refine (hN.out _).mono ?_
  rintro _ w1 ⟨rfl, hw1⟩
  subst hw1
  go_wp2_with fail
  go_returns
  exact ⟨rfl, rfl⟩

set_option maxHeartbeats 4000000 in
set_option maxRecDepth 100000 in
theorem word_new (hm : Mover w bm bn lo vl ls a to o out vo vt) (hl : SeesB .u32 B w vl ls) (hB : B ≤ bm ∧ B ≤ bn ∧ B ≤ lo) (hlr : ∀ x ∈ ls, 0 ≤ x ∧ x < 4294967296) (ha : 0 ≤ a ∧ a < 4294967296) (hto : 0 ≤ to ∧ to ≤ 2147483648) (hu : 0 ≤ u ∧ u < 4294967296) (h : Hp.isAdr a u = true ∧ Hp.whole a u = true)
    (hn : Hp.pos ls o 0 (Hp.idx a u) = none) (hsum : out.length = Hp.sum ls o) (hlim : out.length ≤ 65536) (hol : o.length ≤ 65536) (hls : ls.length ≤ 65536) (hlo : lo ≤ w.heap.size) (hhead : Hp.Head ls (Hp.idx a u)) :
    Calls Tryz.prog 58 #[.pointer (some ⟨bm, 0, none⟩), .int .u32 u] w fun e w' => e = .returned (.int .u32 (to + 4 * out.length)) ∧ MoverPost w w' bm bn lo vl ls a to (o ++ [Hp.idx a u]) (out ++ Hp.thing ls (Hp.idx a u)) vo vt := by
  obtain ⟨hcells, ⟨nn, hnn, hnum⟩, hord, hout, hap, hne, hlbm, hlbn⟩ := hm
  have hN := fun w' => hpNames u a w' hu.1 hu.2 ha.1 ha.2
  rw [show (Hp.isAdr a u && Hp.whole a u) = true by simpa using h, if_pos h.1] at hN
  have hidx : Hp.idx a u < 4294967296 := by unfold Hp.idx; omega
  obtain ⟨i, hi⟩ : ∃ i, i = Hp.idx a u := ⟨_, rfl⟩
  rw [← hi] at hN hidx hn hhead ⊢
  have hlook := hnum.run_ok i (by omega)
  rw [hn] at hlook
  simp only [Option.getD_none, Option.isSome_none] at hlook
  obtain ⟨hw1, hw2⟩ := Hp.thing_head hhead
  obtain ⟨hlt, hyes, hfit⟩ := hhead
  obtain ⟨hp1, hp2, hp3, hp4⟩ := Wd.words_pos hyes
  have hls0 := hl
  obtain ⟨Al, cl, rfl, q1, q2, q3⟩ := hl
  obtain ⟨bl, offl, rfl, hblB, hlc⟩ := q3 (by intro e; subst e; simp at hlt)
  unfold maxLen at q2
  have hri := hlr _ (List.getElem_mem hlt)
  have hci := hlc i hlt
  obtain ⟨hd, hhd⟩ : ∃ x, x = ls[i] := ⟨_, rfl⟩
  rw [← hhd] at hri hci hyes hfit hp1 hp4 hw1
  obtain ⟨wn, hwn⟩ : ∃ x, x = Hp.wn hd := ⟨_, rfl⟩
  rw [← hwn] at hfit hp1 hp4 hw1
  have HW : ∀ w, Calls Tryz.prog 85 #[.int .u32 hd] w fun e w' => e = .returned (.tuple #[.int .i64 (wn : Int), .bool true]) ∧ w' = w := fun w => by
    have h := wdWords hd w hri.1 hri.2
    rw [hyes] at h
    have e : (Wd.words hd).1 = (wn : Int) := by
      rw [hwn]; unfold Hp.wn
      have := Wd.unhead_size hd
      have : 0 ≤ (Wd.words hd).1 := by
        unfold Wd.words
        split
        · split <;> simp only <;> omega
        · simp
      omega
    rw [e] at h
    exact h
  replace HW := Lib.hid HW
  replace hN := Lib.hid hN
  have hpsn := Lib.hid fun j => Hp.pos_snoc ls i j o 0 hn
  obtain ⟨iI, hiI, hzI, hsI, hbI⟩ := info_parts (show (Tryz.prog.info? 3).map (fun i => (i.zero, i.size, i.bytes)) = some (some (.int .i64 0), 1, 8) by kernel_rfl)
  obtain ⟨iU, hiU, hzU, hsU, hbU⟩ := info_parts (show (Tryz.prog.info? 22).map (fun i => (i.zero, i.size, i.bytes)) = some (some (.int .u32 0), 1, 4) by kernel_rfl)
  obtain ⟨Ao, co, rfl, o1, o2⟩ := hord.sees.len
  obtain ⟨At, ct, rfl, t1, t2⟩ := hout.sees.len
  unfold maxLen at o2 t2
  have hol1 := hord.lt
  have hot1 := hout.lt
  have c1 := hcells.cell 1
  have c2 := hcells.cell 2
  have c3 := hcells.cell 3
  have c5 := hcells.cell 5
  have clt := hcells.lt
  simp at c1 c2 c3 c5
  have V0 := Lib.hid hcells
  have NUM := Lib.hid hnum
  have ORD := Lib.hid hord
  have OUT := Lib.hid hout
  have HLC := Lib.hid hlc
  have HL0 := Lib.hid hls0
  replace hol1 := Lib.hid hol1
  replace hot1 := Lib.hid hot1
  replace hap := Lib.hid hap
  replace hlr := Lib.hid hlr
  replace hsum := Lib.hid hsum
  replace hw1 := Lib.hid hw1
  replace hw2 := Lib.hid hw2
  have hblw : bl < w.heap.size := by have := hci; simpa using World.block_lt_of_cell? w _ hci
  clear hcells hnum hord hout hlc hls0 h hn hi hhd hwn
  go_enter Tryz.func58, Tryz.ntmps58
  go_wp2_with fail
  refine (hN.out _).mono ?_
  rintro _ w1 ⟨rfl, hw1⟩
  subst hw1
  go_wp2_with (first
    | (at_mapUpdate; refine put_num _ rfl _ _ _ rfl bn nn _ rfl NUM.out (by unfold maxLen; omega) i (by omega) rfl out.length (by omega) rfl ?_; intro w2 num2 g2
       have V2 := VB.grownRow V0.out g2 (by simp; omega)
       have c4 := V2.cell 4
       have lt2 := V2.lt
       have z2 := g2.size
       simp at c4
       have ci2 := grCell g2 hci (by simp; omega)
       have OW2 := ORD.out.grown g2 (.inr (fun e => by have := (hol1.out bn e).1; omega))
       have OT2 := OUT.out.grown g2 (.inr (fun e => by have := (hot1.out bn e).1; omega))
       have N2 := Lib.hid num2
       have G2 := Lib.hid g2
       replace V2 := Lib.hid V2
       replace OW2 := Lib.hid OW2
       replace OT2 := Lib.hid OT2
       clear num2 g2)
    | (at_builtin; refine app_at Tryz.underlying54 hiI hzI hsI hbI rfl (.tmp 49) (.tmp 51) rfl rfl rfl (Sees.one .i64 w2 _ (i : Int) _ rfl) (OW2.out.alloc _) (by simp; omega) (by rw [nums_length]; simp; omega) (by rw [nums_length]; unfold maxLen; simp; omega) ?_; intro v3 w3 own3 g3 loc3
       obtain ⟨A3, k3, rfl, _, _⟩ := own3.sees.len
       obtain ⟨n3, hn3⟩ : ∃ n, n = (nums o ++ [(i : Int)]).length := ⟨_, rfl⟩
       rw [← hn3] at own3 loc3 ⊢
       replace hn3 := Lib.hid hn3
       have V3 := VB.grownRow (V2.out.alloc _) g3 (fun e => by have := (hol1.out bm e.symm).1; omega)
       have c40 := V3.cell 4
       have f40 := V3.free 4
       have c00 := V3.cell 0
       have c50 := V3.cell 5
       have c20 := V3.cell 2
       have lt3 := V3.lt
       have z3 := g3.size
       simp at c40 c00 c50 c20 z3
       have ci3 := grCell g3 (cellA ci2 _) (fun e => by have := (hol1.out bl e.symm).1; omega)
       have OT3 := (OT2.out.alloc _).grown g3 (ap_ne hap.out)
       have N3 := Lib.hid ((N2.out.alloc _).block (g3.block bn (by simp; have := N2.out.lt; omega) (fun e => by have := (hol1.out bn e.symm).1; omega)))
       have O3 := Lib.hid own3
       have G3 := Lib.hid g3
       replace V3 := Lib.hid V3
       replace OT3 := Lib.hid OT3
       replace loc3 := Lib.hid loc3
       clear own3 g3)
    | fail)
  refine (HW.out _).mono ?_
  rintro _ w4 ⟨rfl, hw4⟩
  subst hw4
  go_wp2_with fail
  obtain ⟨W, hW⟩ : ∃ W, W = w3.setCell ⟨bm, 4, none⟩ (.slice A3 n3 k3) := ⟨_, rfl⟩
  rw [← hW]
  have V4 : VB W bm 128 #[.slice (some ⟨bl, offl, none⟩) ls.length cl, .int .u32 a, .int .u32 to, .map (some bn), .slice A3 n3 k3, .slice At out.length ct] := by
    rw [hW]; simpa using V3.out.set 4 (.slice A3 n3 k3)
  have OT4 : Owns 22 .u32 lo W (.slice At out.length ct) out := by rw [hW]; exact OT3.out.far hlbm _
  have O4 : Owns 3 .i64 lo W (.slice A3 n3 k3) (nums o ++ [(i : Int)]) := by rw [hW]; exact O3.out.far hlbm _
  have N4 : IsNum W bn (nn + 1) (fun j => if j = i then some out.length else Hp.pos ls o 0 j) := by rw [hW]; exact N3.out.far bm 4 (fun e => hne e.symm) _
  have G4 : GrowS (MvS bm bn (.slice Ao (nums o).length co) (.slice At out.length ct)) w1 W := by
    rw [hW]
    refine GrowS.set (b := bm) (i := 4) ?_ (.inl rfl) _
    refine GrowS.grown (GrowS.alloc (GrowS.grown (GrowS.refl _ w1) G2.out (fun g hg _ => by cases hg; exact .inr (.inl rfl))) _) G3.out (fun g hg _ => .inr (.inr (.inl hg)))
  have HL4 : SeesB .u32 B W (.slice (some ⟨bl, offl, none⟩) ls.length cl) ls := HL0.out.grow G4 (fun b hb h => by
    rcases h with h | h | h | h
    · omega
    · omega
    · have := (hol1.out b h).1; omega
    · have := (hot1.out b h).1; omega)
  have hz4 : w1.heap.size ≤ W.heap.size := G4.size
  have hloc4 : (Value.slice A3 n3 k3).ownBlock = (Value.slice Ao (nums o).length co).ownBlock ∨ ∃ g, (Value.slice A3 n3 k3).ownBlock = some g ∧ w1.heap.size ≤ g := by
    rcases loc3.out with e | e
    · exact .inl e
    · exact .inr ⟨_, e, by simp; omega⟩
  have hap4 : ∀ g, (Value.slice A3 n3 k3).ownBlock = some g → (Value.slice At out.length ct).ownBlock ≠ some g := by
    intro g h1 h2
    rcases hloc4 with e | ⟨g', e, hg'⟩
    · exact hap.out g (e ▸ h1) h2
    · have := (hot1.out g h2).2
      rw [e] at h1
      cases h1
      omega
  clear hW V3 OT3 O3 N3 c40 f40 c00 c50 c20 lt3 z3 ci3 V2 OW2 OT2 N2 c4 lt2 z2 ci2 V0 NUM ORD OUT G3 G2
  have d0 := V4.cell 0
  have d2 := V4.cell 2
  have d5 := V4.cell 5
  have dl := V4.lt
  simp at d0 d2 d5
  have d50 : W.frozen? ⟨bm, 5, none⟩ = false := V4.free 5
  have HST : ∀ w5, W.grownBy w5 (Value.slice At out.length ct).ownBlock → w5.cell? ⟨bm, 5, none⟩ = some (.slice At out.length ct) ∧ w5.frozen? ⟨bm, 5, none⟩ = false ∧ bm < w5.heap.size ∧ w5.cell? ⟨bm, 2, none⟩ = some (.int .u32 to) := fun w5 g5 => by
    have hnb : some bm ≠ (Value.slice At out.length ct).ownBlock := fun e => by have := (hot1.out bm e.symm).1; omega
    have V5 := V4.grownRow g5 hnb
    exact ⟨V5.cell 5, V5.free 5, V5.lt, V5.cell 2⟩
  have HTH : Sees .u32 W.drew (.slice (some ⟨bl, offl + i, none⟩) (i + wn - i) (cl - i)) (Hp.thing ls i) := by
    show Sees .u32 W _ _
    obtain ⟨A', c', he, _, _, h3⟩ := HL4
    obtain ⟨b', off', he2, _, hc'⟩ := h3 (by intro e; subst e; simp at hlt)
    subst he2
    simp only [Value.slice.injEq, Option.some.injEq, Addr.mk.injEq] at he
    obtain ⟨⟨rfl, rfl, -⟩, -, rfl⟩ := he
    unfold Hp.thing
    rw [hw1.out, show i + wn - i = wn by omega]
    exact Sees.cut hc' i wn (cl - i) _ (fun _ => rfl) (by omega) (by omega) (by unfold maxLen; omega)
  have OT4d : Owns 22 .u32 lo W.drew (.slice At out.length ct) out := OT4
  replace OT4d := Lib.hid OT4d
  replace hap4 := Lib.hid hap4
  replace hloc4 := Lib.hid hloc4
  have hloW : lo ≤ W.drew.heap.size := by show lo ≤ W.heap.size; omega
  replace HST := Lib.hid HST
  replace HTH := Lib.hid HTH
  replace V4 := Lib.hid V4
  replace OT4 := Lib.hid OT4
  replace O4 := Lib.hid O4
  replace N4 := Lib.hid N4
  replace G4 := Lib.hid G4
  replace HL4 := Lib.hid HL4
  have s1 : IntKind.i64.wrap ((i : Int) + (wn : Int)) = (i : Int) + (wn : Int) := by rw [IntKind.wrap_i64]; omega
  have s2 : 0 ≤ (i : Int) + (wn : Int) := by omega
  have s3 : (i : Int) + (wn : Int) ≤ (cl : Int) := by omega
  have s4 : ((i : Int) + (wn : Int)).toNat = i + wn := by omega
  have s5 : ¬ cl = i := by omega
  go_region_law (refine step_app_at (u := .slice (some ⟨bl, offl + i, none⟩) (i + wn - i) (cl - i)) (v := .slice At out.length ct) Tryz.underlying23 hiU hzU hsU hbU rfl (.tmp 70) (.tmp 79) rfl (by simp [go_sem]) (by simp [go_sem]) HTH.out OT4d.out hloW (by rw [hw2.out, hw1.out]; omega) (by rw [hw2.out, hw1.out]; unfold maxLen; omega) ?_; intro v5 w5 own5 g5d loc5; have g5 : W.grownBy w5 (Value.slice At out.length ct).ownBlock := ⟨g5d.os, g5d.tape, g5d.output, g5d.size, g5d.block⟩; obtain ⟨A5, k5, rfl, _, _⟩ := own5.sees.len; obtain ⟨e5, f5, l5, t5⟩ := HST.out w5 g5; clear g5d)
  all_goals
    replace own5 := Lib.hid own5
    replace g5 := Lib.hid g5
    replace loc5 := Lib.hid loc5
    go_wp2_with fail
    go_returns
    refine ⟨rfl, _, _, ⟨?_, ⟨nn + 1, by simp; omega, ?_⟩, ?_, own5.out.far hlbm _, ?_, hne, hlbm, hlbn⟩, ?_, hloc4.out, ?_⟩
    · have hnb : some bm ≠ (Value.slice At out.length ct).ownBlock := fun e => by have := (hot1.out bm e.symm).1; omega
      simpa using (V4.out.grownRow g5.out hnb).set 5 (.slice A5 (out ++ Hp.thing ls i).length k5)
    · rw [show Hp.pos ls (o ++ [i]) 0 = fun j => if j = i then some out.length else Hp.pos ls o 0 j from funext fun j => by rw [hpsn.out j, hsum.out]; simp]
      exact (N4.out.block (g5.out.block bn (by have := N4.out.lt; exact this) (fun e => by have := (hot1.out bn e.symm).1; omega))).far bm 5 (fun e => hne e.symm) _
    · rw [show nums (o ++ [i]) = nums o ++ [(i : Int)] by simp [nums]]
      refine (O4.out.grown g5.out ?_).far hlbm _
      cases hq : (Value.slice A3 n3 k3).ownBlock with
      | none => exact .inl rfl
      | some g => exact .inr (fun e => hap4.out g hq e.symm)
    · intro g h1 h2
      rcases loc5.out with e | e
      · exact hap4.out g h1 (e ▸ h2)
      · rw [e] at h2
        cases h2
        have := (O4.out.lt _ h1).2
        exact absurd this (Nat.lt_irrefl _)
    · exact (G4.out.grown g5.out (fun g hg _ => .inr (.inr (.inr hg)))).set (b := bm) (i := 5) (.inl rfl) _
    · rcases loc5.out with e | e
      · exact .inl e
      · exact .inr ⟨_, e, hz4⟩
end

end Go.Proofs.YtgohnekaolgblaaGreat

/- (*heap.mover).word: the whole; what stays true of what is moved: plain. -/
namespace Go.Proofs.YtgohnekaolgblaaGreat
open Go.RowKit

theorem Hp.pos_none (ls : List Int) (i : Nat) : ∀ (o : List Nat) (acc : Nat), Hp.pos ls o acc i = none ↔ i ∉ o := by
  intro o
  induction o with
  | nil => intro acc; simp [Hp.pos]
  | cons j r ih =>
    intro acc
    rw [Hp.pos]
    by_cases h : j = i
    · rw [if_pos h]; simp [h]
    · rw [if_neg h, ih]
      simp only [List.mem_cons, not_or]
      exact ⟨fun hn => ⟨fun e => h e.symm, hn⟩, fun hn => hn.2⟩
theorem Hp.pos_mem (ls : List Int) (i : Nat) (o : List Nat) (h : i ∈ o) : ∃ n, Hp.pos ls o 0 i = some n := by
  cases hq : Hp.pos ls o 0 i with
  | some n => exact ⟨n, rfl⟩
  | none => exact absurd h ((Hp.pos_none ls i o 0).1 hq)
/-- A thing stands within the words. -/
theorem Hp.pos_fit (ls : List Int) (i : Nat) : ∀ (o : List Nat) (acc n : Nat), Hp.pos ls o acc i = some n → acc ≤ n ∧ n + Hp.wnAt ls i ≤ acc + Hp.sum ls o := by
  intro o
  induction o with
  | nil => intro acc n h; cases h
  | cons j r ih =>
    intro acc n h
    rw [Hp.pos] at h
    rw [Hp.sum]
    by_cases hj : j = i
    · rw [if_pos hj] at h
      simp only [Option.some.injEq] at h
      subst hj h
      omega
    · rw [if_neg hj] at h
      have := ih _ _ h
      omega
theorem Hp.sum_erase (ls : List Int) (i : Nat) : ∀ (o : List Nat), i ∈ o → Hp.sum ls o = Hp.wnAt ls i + Hp.sum ls (o.erase i) := by
  intro o
  induction o with
  | nil => intro h; cases h
  | cons j r ih =>
    intro h
    by_cases hj : j = i
    · subst hj
      rw [List.erase_cons_head, Hp.sum]
    · rw [List.erase_cons_tail (by simpa using hj), Hp.sum, Hp.sum, ih (by
        rcases List.mem_cons.1 h with e | e
        · exact absurd e.symm hj
        · exact e)]
      omega
/-- Things that are laid one behind the other, each once, are no more than the words. -/
theorem Hp.sum_le (ls : List Int) : ∀ (m i : Nat) (hs : List Nat), ls.length - i ≤ m → Hp.from ls i = some hs → ∀ o : List Nat, o.Nodup → (∀ j ∈ o, j ∈ hs) → Hp.sum ls o ≤ ls.length - i := by
  intro m
  induction m with
  | zero =>
    intro i hs hm h o hn hsub
    rw [Hp.from_end ls i (by omega)] at h
    cases h
    cases o with
    | nil => simp [Hp.sum]
    | cons j r => exact absurd (hsub j (by simp)) (by simp)
  | succ m ih =>
    intro i hs hm h o hn hsub
    by_cases hi : i < ls.length
    · by_cases hb : (Wd.words ls[i]).2 = false ∨ ls.length < i + Hp.wn ls[i]
      · rw [Hp.from_bad ls i hi hb] at h; cases h
      · simp only [not_or] at hb
        have hw : (Wd.words ls[i]).2 = true := by simpa using hb.1
        have hp := (Wd.words_pos hw).1
        rw [Hp.from_next ls i hi hw (by omega)] at h
        obtain ⟨hs', h1, rfl⟩ := Option.map_eq_some_iff.1 h
        have hwa : Hp.wnAt ls i = Hp.wn ls[i] := by unfold Hp.wnAt; rw [List.getElem?_eq_getElem hi]
        by_cases hio : i ∈ o
        · rw [Hp.sum_erase ls i o hio]
          have := ih _ _ (by omega) h1 (o.erase i) (hn.erase i) (fun j hj => by
            have h2 := (hn.mem_erase_iff).1 hj
            rcases List.mem_cons.1 (hsub j h2.2) with e | e
            · exact absurd e h2.1
            · exact e)
          omega
        · have := ih _ _ (by omega) h1 o hn (fun j hj => by
            rcases List.mem_cons.1 (hsub j hj) with e | e
            · subst e; exact absurd hj hio
            · exact e)
          omega
    · rw [Hp.from_end ls i (by omega)] at h
      cases h
      cases o with
      | nil => simp [Hp.sum]
      | cons j r => exact absurd (hsub j (by simp)) (by simp)

/-- What is true of what was moved so far. -/
structure Hp.Inv (ls : List Int) (hs : List Nat) (o : List Nat) (out : List Int) : Prop where
  nodup : o.Nodup
  sub : ∀ i ∈ o, i ∈ hs
  len : out.length = Hp.sum ls o
theorem Hp.len_le_sum (ls : List Int) : ∀ o : List Nat, (∀ i ∈ o, 1 ≤ Hp.wnAt ls i) → o.length ≤ Hp.sum ls o := by
  intro o
  induction o with
  | nil => intro _; simp
  | cons j r ih =>
    intro h
    have h1 := h j (by simp)
    have h2 := ih (fun i hi => h i (by simp [hi]))
    simp only [List.length_cons, Hp.sum]
    omega
theorem Hp.wnAt_pos {ls : List Int} {i : Nat} (h : Hp.Head ls i) : 1 ≤ Hp.wnAt ls i := by
  rw [(Hp.thing_head h).1]
  exact (Wd.words_pos h.yes).1
theorem Hp.Inv.bound {ls : List Int} {hs : List Nat} (hhs : Hp.heads ls = some hs) {o : List Nat} {out : List Int} (h : Hp.Inv ls hs o out) : out.length ≤ ls.length ∧ o.length ≤ out.length := by
  have h1 := Hp.sum_le ls ls.length 0 hs (by omega) hhs o h.nodup h.sub
  have h2 := Hp.len_le_sum ls o (fun i hi => Hp.wnAt_pos (Hp.heads_head hhs (h.sub i hi)))
  have h3 := h.len
  omega
theorem Hp.okw_head {ls : List Int} {hs : List Nat} (hhs : Hp.heads ls = some hs) {a u : Int} (h : Hp.okw (Hp.mem hs) a u = true) (h1 : Hp.isAdr a u = true) : Hp.whole a u = true ∧ Hp.idx a u ∈ hs ∧ Hp.Head ls (Hp.idx a u) := by
  unfold Hp.okw at h
  rw [h1] at h
  simp only [Bool.not_true, Bool.false_or, Bool.and_eq_true] at h
  have hm : Hp.idx a u ∈ hs := by simpa [Hp.mem] using h.2
  exact ⟨h.1, hm, Hp.heads_head hhs hm⟩
theorem Hp.Inv.word {ls : List Int} {hs : List Nat} (hhs : Hp.heads ls = some hs) {o : List Nat} {out : List Int} (h : Hp.Inv ls hs o out) {a to u : Int} (hok : Hp.okw (Hp.mem hs) a u = true) :
    Hp.Inv ls hs (Hp.word ls a to o out u).2.1 (Hp.word ls a to o out u).2.2 ∧ (∀ i n, Hp.pos ls o 0 i = some n → Hp.pos ls (Hp.word ls a to o out u).2.1 0 i = some n) ∧ ∃ more, (Hp.word ls a to o out u).2.1 = o ++ more := by
  unfold Hp.word
  by_cases hc : Hp.isAdr a u = true ∧ Hp.whole a u = true
  · rw [if_pos hc]
    obtain ⟨_, hm, hh⟩ := Hp.okw_head hhs hok hc.1
    cases hp : Hp.pos ls o 0 (Hp.idx a u) with
    | some n => exact ⟨h, fun _ _ h => h, [], by simp⟩
    | none =>
      have hni := (Hp.pos_none ls _ o 0).1 hp
      refine ⟨⟨?_, ?_, ?_⟩, ?_, _, rfl⟩
      · simp only
        rw [List.nodup_append]
        refine ⟨h.nodup, by simp, fun x hx y hy e => ?_⟩
        simp only [List.mem_singleton] at hy
        subst hy e
        exact hni hx
      · intro i hi
        simp only [List.mem_append, List.mem_singleton] at hi
        rcases hi with hi | rfl
        · exact h.sub i hi
        · exact hm
      · simp only [List.length_append]
        rw [Hp.sum_snoc, h.len, (Hp.thing_head hh).2]
      · intro i n hi
        simp only
        rw [Hp.pos_snoc ls _ i o 0 hp, if_neg]
        · exact hi
        · rintro rfl
          rw [hp] at hi; cases hi
  · rw [if_neg hc]
    exact ⟨h, fun _ _ h => h, [], by simp⟩

theorem Hp.word_fst {ls : List Int} {a to u : Int} {o : List Nat} {out : List Int} (hu : 0 ≤ u ∧ u < 4294967296) (hto : 0 ≤ to ∧ to ≤ 2147483648) (hlen : out.length = Hp.sum ls o) (hl : out.length ≤ 65536) : 0 ≤ (Hp.word ls a to o out u).1 ∧ (Hp.word ls a to o out u).1 < 4294967296 := by
  unfold Hp.word
  split
  · split
    · rename_i n hn
      have := Hp.pos_le ls o 0 _ n hn
      simp only
      omega
    · simp only
      omega
  · exact hu

/-- The whole of word. -/
theorem hpWord (w : World) (bm bn lo : Nat) (vl : Value) (ls : List Int) (a to : Int) (o : List Nat) (out : List Int) (vo vt : Value) (u : Int) (B : Nat) (hs : List Nat) (hhs : Hp.heads ls = some hs) (hi : Hp.Inv ls hs o out) (hm : Mover w bm bn lo vl ls a to o out vo vt) (hl : SeesB .u32 B w vl ls) (hB : B ≤ bm ∧ B ≤ bn ∧ B ≤ lo) (hlr : ∀ x ∈ ls, 0 ≤ x ∧ x < 4294967296) (ha : 0 ≤ a ∧ a < 4294967296) (hto : 0 ≤ to ∧ to ≤ 2147483648) (hu : 0 ≤ u ∧ u < 4294967296) (hok : Hp.okw (Hp.mem hs) a u = true) (hls : ls.length ≤ 65536) (hlo : lo ≤ w.heap.size) :
    Calls Tryz.prog 58 #[.pointer (some ⟨bm, 0, none⟩), .int .u32 u] w fun e w' => e = .returned (.int .u32 (Hp.word ls a to o out u).1) ∧ MoverPost w w' bm bn lo vl ls a to (Hp.word ls a to o out u).2.1 (Hp.word ls a to o out u).2.2 vo vt := by
  obtain ⟨hb1, hb2⟩ := hi.bound hhs
  unfold Hp.word
  by_cases hc : Hp.isAdr a u = true ∧ Hp.whole a u = true
  · rw [if_pos hc]
    obtain ⟨_, hmm, hh⟩ := Hp.okw_head hhs hok hc.1
    cases hp : Hp.pos ls o 0 (Hp.idx a u) with
    | some n =>
      have := Hp.pos_le ls o 0 _ n hp
      have := hi.len
      refine (word_was w bm bn lo vl ls a to o out vo vt u hm ha hto hu hc n hp (by omega)).mono ?_
      rintro e w' ⟨rfl, rfl⟩
      exact ⟨rfl, vo, vt, hm, GrowS.refl _ _, .inl rfl, .inl rfl⟩
    | none => exact word_new w bm bn lo vl ls a to o out vo vt u B hm hl hB hlr ha hto hu hc hp hi.len (by omega) (by omega) hls hlo hh
  · rw [if_neg hc]
    refine (word_stays w bm bn lo vl ls a to o out vo vt u hm ha hu hc).mono ?_
    rintro e w' ⟨rfl, rfl⟩
    exact ⟨rfl, vo, vt, hm, GrowS.refl _ _, .inl rfl, .inl rfl⟩

end Go.Proofs.YtgohnekaolgblaaGreat
