/- Strings: their bytes; []byte(s); append(b, s...). -/
import Derived.Test.YtdlfmchpaohoaaaDoorNmPlain
import Derived.Test.YtdlfmchpaohoaaaDoorBase
import Derived.Test.YtdlfmchpaohoaaaDoorApp
import Derived.Lib.ConvBytes
import Derived.Lib.AppendStr
namespace Go.Proofs.YtdlfmchpaohoaaaDoor
open Go.RowKit

/-- A string's bytes. -/
def bts (s : ByteArray) : List Int := s.data.toList.map fun b => (b.toNat : Int)

theorem bts_byt (s : ByteArray) : Byt (bts s) := by
  intro n hn
  obtain ⟨b, _, rfl⟩ := List.mem_map.1 hn
  have := b.toNat_lt
  omega

theorem bts_len (s : ByteArray) : (bts s).length = s.size := by unfold bts; rw [List.length_map, Array.length_toList]; rfl

theorem str_bts (s : ByteArray) : str (bts s) = s := by
  apply ByteArray.ext
  apply Array.ext'
  simp only [str, bts, List.map_map]
  rw [show ((fun n : Int => UInt8.ofNat n.toNat) ∘ fun b : UInt8 => (b.toNat : Int)) = id by funext b; simp]
  simp

theorem bts_str {xs : List Int} (hb : Byt xs) : bts (str xs) = xs := by
  unfold bts str
  simp only [List.map_map]
  apply List.ext_getElem
  · simp
  · intro i h1 h2
    have := hb _ (List.getElem_mem h2)
    simp only [List.getElem_map, Function.comp_apply]
    rw [byte_back this]; omega

theorem str_getD {xs : List Int} (hb : Byt xs) (j : Nat) (hj : j < xs.length) : (((str xs).data.toList.getD j 0).toNat : Int) = xs[j] := by
  have h1 : (str xs).data.toList[j]? = some (UInt8.ofNat xs[j].toNat) := by simp [str, hj]
  have hx := hb _ (List.getElem_mem hj)
  rw [List.getD_eq_getElem?_getD, h1, Option.getD_some, byte_back hx]; omega

/-- []byte(s): an equation for every world. -/
theorem run_bytes {P : Program} {S T E : TypeId} (hS : P.underlying S = some .string) (hT : P.underlying T = some (.slice E)) (hE : P.underlying E = some (.int .u8)) (xs : List Int) :
    ∀ w : World, (convert S T (.string (str xs))).run P w = .ok (.slice (some ⟨w.heap.size, 0, none⟩) xs.length (grownCap w xs.length 0 E)) (Lib.bytesWorld w E (str xs)) := by
  intro w
  have := Lib.run_convert_string_bytes (P := P) w S T E (str xs) hS hT hE
  rwa [str_size] at this

theorem bytesWorld_below (w : World) (E : TypeId) (s : ByteArray) : Below w.heap.size w (Lib.bytesWorld w E s) :=
  ⟨by unfold Lib.bytesWorld World.freeze; split <;> rfl, by unfold Lib.bytesWorld World.freeze; split <;> rfl, by unfold Lib.bytesWorld World.freeze; split <;> rfl, by rw [Lib.bytesWorld_size]; omega, fun k hk => Lib.bytesWorld_at_old w E s k hk⟩

theorem bytesWorld_sees (w : World) (E : TypeId) {xs : List Int} (hb : Byt xs) (hm : xs.length ≤ maxLen) : Sees .u8 (Lib.bytesWorld w E (str xs)) (.slice (some ⟨w.heap.size, 0, none⟩) xs.length (grownCap w xs.length 0 E)) xs :=
  ⟨_, _, rfl, grownCap_ge _ _ _ _, grownCap_le_maxLen _ _ _ _ hm, fun _ => ⟨w.heap.size, 0, rfl, fun j hj => by
    rw [Nat.zero_add, Lib.bytesWorld_cell w E (str xs) j (by rw [str_size]; exact hj)]
    rw [str_getD hb j hj]⟩⟩

theorem strCells_str {xs : List Int} (hb : Byt xs) : Lib.strCells (str xs) = xs.map (Value.int .u8) := by
  unfold Lib.strCells str
  simp only [List.map_map]
  apply List.map_congr_left
  intro x hx
  have := hb x hx
  simp only [Function.comp_apply]
  rw [byte_back this]; congr 1; omega

/-- append(out, s...). -/
theorem app_str {P : Program} {T E S : TypeId} {i : TypeInfo} (hT : P.underlying T = some (.slice E)) (hS : P.underlying S = some .string) (hi : P.info? E = some i) (hz : i.zero = some (.int .u8 0)) (hsz : i.size = 1) (hby : i.bytes = 1)
    {ops : Array Oper} {rest : List Oper} {o : Oper} {a : Act} {Q : Exit → Act → World → Prop} (hgd : o.guard = none) (s x : Operand)
    (ho : o.op = .call { callee := .builtin .append, args := #[s, x], argTypes := #[T, S] })
    {B : Nat} {w0 w : World} {v : Value} {xs ys : List Int} (hs : a.eval s = v) (hx : a.eval x = .string (str ys)) (hb : Byt ys)
    (hown : Owns E .u8 B w v xs) (hbel : Below B w0 w) (hB : B ≤ w.heap.size) (hlen : xs.length + ys.length ≤ 140737488355328)
    (h : ∀ v' w', Owns E .u8 B w' v' (xs ++ ys) → Below B w0 w' → B ≤ w'.heap.size → wpList P ops Q rest (a.put o.dst v') w') :
    wpList P ops Q (o :: rest) a w := by
  refine Lib.wpList_append_own_string w hgd s x T S ho B E i hT hS hi hz hsz hby v xs.length (xs.map (Value.int .u8)) hs hown (str ys) hx (by rw [str_size]; unfold maxLen; omega) (by rw [str_size]; exact hlen) hB ?_
  intro v' w' ho' hg _
  refine h v' w' ?_ (hbel.grown hg hB (fun j hj => (hown.lt j hj).1)) (by have := hg.size; omega)
  rw [strCells_str hb, str_size] at ho'
  unfold Owns; simpa using ho'

end Go.Proofs.YtdlfmchpaohoaaaDoor
