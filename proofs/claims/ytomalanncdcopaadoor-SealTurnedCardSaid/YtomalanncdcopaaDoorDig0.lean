/- Words of 32 bits; what layer 2 reckons, in plain Lean; of no program. -/
import Derived.Test.YtomalanncdcopaaDoorLinW
set_option linter.unusedSimpArgs false
set_option linter.unusedVariables false
namespace Go.Proofs.YtomalanncdcopaaDoor.Dig
open Go Go.RowKit Go.Proofs.YtomalanncdcopaaDoor.Mem

abbrev Word := BitVec 32
/-- A word's number. -/
def wn (x : Word) : Int := (x.toNat : Int)
def wv (x : Word) : Value := .int .u32 (wn x)
def wcells (l : List Word) : List Value := l.map wv
def rr (x : Word) (n : Nat) : Word := x.rotateRight n
/-- a word, turned by each of some numbers. -/
def turns (x : Word) (l : List Nat) : Word := l.foldl (fun y n => y ^^^ rr x n) 0

theorem wn_bd (x : Word) : 0 ≤ wn x ∧ wn x < 4294967296 := by unfold wn; have := x.isLt; omega
theorem w_xor (x y : Word) : bits .xor .u32 (wn x) (wn y) = wn (x ^^^ y) := by
  unfold wn; rw [u32_xor_nat _ _ x.isLt y.isLt, BitVec.toNat_xor]
theorem w_and (x y : Word) : bits .and .u32 (wn x) (wn y) = wn (x &&& y) := by
  unfold wn; rw [u32_and_nat _ _ x.isLt y.isLt, BitVec.toNat_and]
theorem w_or (x y : Word) : bits .or .u32 (wn x) (wn y) = wn (x ||| y) := by
  unfold wn; rw [u32_or_nat _ _ x.isLt y.isLt, BitVec.toNat_or]
theorem w_add (x y : Word) : (wn x + wn y) % 4294967296 = wn (x + y) := by
  unfold wn; rw [BitVec.toNat_add]; omega
theorem w_shr (x : Word) (n : Nat) : wn x / 2 ^ n = wn (x >>> n) := by
  unfold wn
  rw [BitVec.toNat_ushiftRight, Nat.shiftRight_eq_div_pow]
  simp
theorem w_shl (x : Word) (n : Nat) : wn x * 2 ^ n % 4294967296 = wn (x <<< n) := by
  unfold wn
  rw [BitVec.toNat_shiftLeft, Nat.shiftLeft_eq]
  simp
theorem rot_eq (x : Word) (n m : Nat) (hn : n < 32) (hm : m = 32 - n) :
    bits .or .u32 (wn x * 2 ^ m % 4294967296) (wn x / 2 ^ n) = wn (rr x n) := by
  rw [w_shl, w_shr, w_or]
  unfold rr
  rw [BitVec.rotateRight_def, Nat.mod_eq_of_lt hn, ← hm, BitVec.or_comm]
theorem turns_snoc (x : Word) (l : List Nat) (n : Nat) : turns x (l ++ [n]) = turns x l ^^^ rr x n := by simp [turns]
theorem ret_wv {x y : Word} (h : x = y) : Ending.returned (wv x) = .returned (wv y) := by rw [h]

/-! ### A block's words -/
def ofByte (c : UInt8) : Word := BitVec.ofNat 32 c.toNat
theorem wn_ofByte (c : UInt8) : wn (ofByte c) = (c.toNat : Int) := by
  unfold wn ofByte
  have := c.toNat_lt
  rw [BitVec.toNat_ofNat, Nat.mod_eq_of_lt (by omega)]
/-- The word at a place. -/
def wat (l : List Word) (i : Nat) : Word := l.getD i 0
/-- The words behind i bytes of a block. -/
def part (bs : List UInt8) : Nat → List Word
  | 0 => List.replicate 64 0
  | i + 1 => (part bs i).set (i / 4) (wat (part bs i) (i / 4) ||| ofByte (bs.getD i 0) <<< (24 - 8 * (i % 4)))
theorem part_length (bs : List UInt8) : ∀ i, (part bs i).length = 64
  | 0 => by simp [part]
  | i + 1 => by simp [part, part_length bs i]
theorem wcells_length (l : List Word) : (wcells l).length = l.length := by simp [wcells]
theorem wcells_get {l : List Word} {i : Nat} (h : i < l.length) : (wcells l)[i]? = some (.int .u32 (wn (wat l i))) := by
  simp [wcells, wv, wat, List.getD, h]
theorem wcells_set (l : List Word) (i : Nat) (x : Word) : (wcells l).set i (.int .u32 (wn x)) = wcells (l.set i x) := by
  simp [wcells, wv, List.map_set]
/-- The words up to place i. -/
def sched (ws : List Word) : Nat → List Word
  | 0 => ws
  | i + 1 => if i < 16 then ws else (sched ws i).set i
      (wat (sched ws i) (i - 16) + (turns (wat (sched ws i) (i - 15)) [7, 18] ^^^ wat (sched ws i) (i - 15) >>> 3) + wat (sched ws i) (i - 7) +
        (turns (wat (sched ws i) (i - 2)) [17, 19] ^^^ wat (sched ws i) (i - 2) >>> 10))
theorem sched_length (ws : List Word) : ∀ i, (sched ws i).length = ws.length
  | 0 => rfl
  | i + 1 => by
    unfold sched
    split
    · rfl
    · simp [sched_length ws i]
theorem shr3 (x : Word) : wn x / (8 : Int) = wn (x >>> 3) := w_shr x 3
theorem shr10 (x : Word) : wn x / (1024 : Int) = wn (x >>> 10) := w_shr x 10

theorem sched_succ (ws : List Word) (i : Nat) (h : 16 ≤ i) : sched ws (i + 1) = (sched ws i).set i
      (wat (sched ws i) (i - 16) + (turns (wat (sched ws i) (i - 15)) [7, 18] ^^^ wat (sched ws i) (i - 15) >>> 3) + wat (sched ws i) (i - 7) +
        (turns (wat (sched ws i) (i - 2)) [17, 19] ^^^ wat (sched ws i) (i - 2) >>> 10)) := by
  rw [sched, if_neg (by omega)]
/-- One thing ahead, another one behind. -/
def two {α : Type} (x y : α) : Nat → α
  | 0 => x
  | _ => y
/-- A new slice of numbers. -/
def NumsAt (lo : Nat) (ns : List Nat) (v : Value) (w : World) : Prop :=
  ∃ B, v = .slice (some ⟨B, 0, none⟩) ns.length ns.length ∧ lo ≤ B ∧ ∀ (j : Nat) (h : j < ns.length), w.cell? ⟨B, j, none⟩ = some (.int .i64 (ns[j] : Int))
theorem NumsAt.keep {lo : Nat} {ns : List Nat} {v : Value} {w w' : World} {S : Nat → Prop} (h : NumsAt lo ns v w) (hc : Chgd S w w') (hs : ∀ j, S j → j < lo) : NumsAt lo ns v w' := by
  obtain ⟨B, h1, h2, h3⟩ := h
  exact ⟨B, h1, h2, fun j hj => hc.at_ (h3 j hj) (fun h => by have := hs _ h; simp at this; omega)⟩
theorem NumsAt.new (w : World) (lo : Nat) (ns : List Nat) (t : TypeId) (hlo : lo ≤ w.heap.size) (cs : Array Value) (hcs : cs = (ns.map fun (n : Nat) => Value.int .i64 (n : Int)).toArray) (k : Nat) (hk : k = ns.length) :
    NumsAt lo ns (.slice (some ⟨w.heap.size, 0, none⟩) k k) (w.alloc (.cells cs t)) := by
  subst hcs hk
  refine ⟨_, rfl, hlo, fun j hj => ?_⟩
  have := (Row.new w (ns.map fun (n : Nat) => Value.int .i64 (n : Int)).toArray t).cell0 (i := j) (v := .int .i64 (ns[j] : Int)) (by simp [hj])
  exact this
theorem wcells_one (l : List Word) : ∀ u ∈ wcells l, u.oneCell' = true := by
  intro u hu
  simp only [wcells, List.mem_map] at hu
  obtain ⟨c, _, rfl⟩ := hu
  rfl
/-- The table of the document. -/
def kTab : List Word := [
  0x428a2f98, 0x71374491, 0xb5c0fbcf, 0xe9b5dba5, 0x3956c25b, 0x59f111f1, 0x923f82a4, 0xab1c5ed5,
  0xd807aa98, 0x12835b01, 0x243185be, 0x550c7dc3, 0x72be5d74, 0x80deb1fe, 0x9bdc06a7, 0xc19bf174,
  0xe49b69c1, 0xefbe4786, 0x0fc19dc6, 0x240ca1cc, 0x2de92c6f, 0x4a7484aa, 0x5cb0a9dc, 0x76f988da,
  0x983e5152, 0xa831c66d, 0xb00327c8, 0xbf597fc7, 0xc6e00bf3, 0xd5a79147, 0x06ca6351, 0x14292967,
  0x27b70a85, 0x2e1b2138, 0x4d2c6dfc, 0x53380d13, 0x650a7354, 0x766a0abb, 0x81c2c92e, 0x92722c85,
  0xa2bfe8a1, 0xa81a664b, 0xc24b8b70, 0xc76c51a3, 0xd192e819, 0xd6990624, 0xf40e3585, 0x106aa070,
  0x19a4c116, 0x1e376c08, 0x2748774c, 0x34b0bcb5, 0x391c0cb3, 0x4ed8aa4a, 0x5b9cca4f, 0x682e6ff3,
  0x748f82ee, 0x78a5636f, 0x84c87814, 0x8cc70208, 0x90befffa, 0xa4506ceb, 0xbef9a3f7, 0xc67178f2]
/-- One round over the eight words. -/
def round (v : List Word) (k n : Word) : List Word :=
  let a := wat v 0
  let e := wat v 4
  let t1 := wat v 7 + turns e [6, 11, 25] + (wat v 6 ^^^ e &&& (wat v 5 ^^^ wat v 6)) + k + n
  let t2 := turns a [2, 13, 22] + (a &&& wat v 1 ||| wat v 2 &&& (a ||| wat v 1))
  [t1 + t2, wat v 0, wat v 1, wat v 2, wat v 3 + t1, wat v 4, wat v 5, wat v 6]
def rounds (v ws : List Word) : Nat → List Word
  | 0 => v
  | i + 1 => round (rounds v ws i) (wat kTab i) (wat ws i)
theorem round_length (v : List Word) (k n : Word) : (round v k n).length = 8 := rfl
theorem rounds_length (v ws : List Word) (hv : v.length = 8) : ∀ i, (rounds v ws i).length = 8
  | 0 => hv
  | i + 1 => rfl
/-- The sums at the end, up to place i. -/
def sums (h v : List Word) : Nat → List Word
  | 0 => h
  | i + 1 => (sums h v i).set i (wat (sums h v i) i + wat v i)
theorem sums_length (h v : List Word) : ∀ i, (sums h v i).length = h.length
  | 0 => rfl
  | i + 1 => by simp [sums, sums_length h v i]
/-- What a block makes of eight words. -/
def comp (h : List Word) (bs : List UInt8) : List Word := sums h (rounds h (sched (part bs 64) 64) 64) 8
theorem comp_length (h : List Word) (bs : List UInt8) : (comp h bs).length = h.length := sums_length _ _ _
/-- Behind the copy. -/
def shifted (v : List Word) : List Word := [wat v 0, wat v 0, wat v 1, wat v 2, wat v 3, wat v 4, wat v 5, wat v 6]
theorem list8 {v : List Word} (h : v.length = 8) : v = [wat v 0, wat v 1, wat v 2, wat v 3, wat v 4, wat v 5, wat v 6, wat v 7] := by
  match v, h with
  | [a, b, c, d, e, f, g, i], _ => rfl
/-- The first seven. -/
def seven (v : List Word) : List Word := [wat v 0, wat v 1, wat v 2, wat v 3, wat v 4, wat v 5, wat v 6]
theorem seven_range {w : World} {b : Nat} {v : List Word} (hv : v.length = 8) (h : Row w b 0 (wcells v)) : w.rangeAt b 0 (wcells (seven v)) := by
  intro j u hj
  have hj7 : j < 7 := by have := (List.getElem?_eq_some_iff.1 hj).1; simpa [wcells, seven] using this
  refine h.1 j u ?_
  rw [← hj]
  conv => lhs; rw [list8 hv]
  match j, hj7 with
  | 0, _ => rfl
  | 1, _ => rfl
  | 2, _ => rfl
  | 3, _ => rfl
  | 4, _ => rfl
  | 5, _ => rfl
  | 6, _ => rfl
theorem seven_there {w : World} {b : Nat} {v : List Word} (hv : v.length = 8) (h : Row w b 0 (wcells v)) : w.there b 1 (wcells (seven v)).length := by
  intro j hj
  have := h.2 (1 + j) (by rw [wcells_length, hv]; simp [wcells, seven] at hj; omega)
  rwa [Nat.zero_add] at this
theorem shift_row {w w' : World} {b : Nat} {v : List Word} (hv : v.length = 8) (h : Row w b 0 (wcells v)) (h1 : w'.rangeAt b 1 (wcells (seven v))) (h2 : ∀ o' n, w.there b o' n → w'.there b o' n)
    (h3 : ∀ j, (j < 1 ∨ 1 + (wcells (seven v)).length ≤ j) → w'.cell? ⟨b, j, none⟩ = w.cell? ⟨b, j, none⟩) : Row w' b 0 (wcells (shifted v)) := by
  refine ⟨fun j u hj => ?_, ?_⟩
  · match j with
    | 0 =>
      rw [Nat.zero_add, h3 0 (by omega)]
      have := h.cell0 (i := 0) (wcells_get (by omega))
      rw [this, ← hj]
      rfl
    | j + 1 =>
      have := h1 j u (by rw [← hj]; rfl)
      rwa [show 0 + (j + 1) = 1 + j by omega]
  · have := h2 0 (wcells v).length h.2
    rw [wcells_length, hv] at this
    exact this
theorem round_shift (v : List Word) (t1 t2 : Word) : ((shifted v).set 0 (t1 + t2)).set 4 (wat v 3 + t1) = [t1 + t2, wat v 0, wat v 1, wat v 2, wat v 3 + t1, wat v 4, wat v 5, wat v 6] := rfl
end Go.Proofs.YtomalanncdcopaaDoor.Dig
