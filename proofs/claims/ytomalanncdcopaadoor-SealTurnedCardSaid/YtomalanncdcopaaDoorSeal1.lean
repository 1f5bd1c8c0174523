/- The contract of the closure in Tag. -/
import Derived.Test.YtomalanncdcopaaDoorSeal0
import Derived.Laws.BitsAllLaws
import Derived.Deep.Cut
set_option linter.unusedSimpArgs false
set_option linter.unusedVariables false
namespace Go.Proofs.YtomalanncdcopaaDoor.Seal
open Go Go.RowKit Go.Proofs.YtomalanncdcopaaDoor.Mem Go.Proofs.YtomalanncdcopaaDoor.Dig

/-- string(a[:]), a an array of bytes. -/
theorem row_string {P : Program} {w : World} {b cap : Nat} {l : List UInt8} {src e dst : TypeId} (h : Row w b 0 (cellsOf l)) (hs : P.underlying src = some (.slice e)) (he : P.underlying e = some (.int .u8)) (hd : P.underlying dst = some .string) :
    (convert src dst (.slice (some ⟨b, 0, none⟩) l.length cap)).run P w = .ok (.string (bstr l)) w := by
  have hr := run_convert_bytes_arg (P := P) w src e hs he b 0 l.length cap (l.map fun c => (c.toNat : Int)) (by simp) (fun i hi => by
    have := h.cell0 (i := i) (cellsOf_get hi)
    rw [Nat.zero_add, this]
    simp [List.getD, hi]) dst hd
  rw [hr]
  simp [strOfNums, bstr, Function.comp_def]
theorem b_xor (c b : UInt8) : bits .xor .u8 (c.toNat : Int) (b.toNat : Int) = ((c ^^^ b).toNat : Int) := by
  rw [u8_xor_nat _ _ c.toNat_lt b.toNat_lt, UInt8.toNat_xor]
/-- the first k bytes are mixed. -/
def mixTo (l : List UInt8) (b : UInt8) : Nat → List UInt8
  | 0 => l
  | k + 1 => (mixTo l b k).set k (l.getD k 0 ^^^ b)
theorem mixTo_length (l : List UInt8) (b : UInt8) : ∀ k, (mixTo l b k).length = l.length
  | 0 => rfl
  | k + 1 => by simp [mixTo, mixTo_length l b k]
theorem mixTo_get (l : List UInt8) (b : UInt8) (i : Nat) (hi : i < l.length) : ∀ k, (mixTo l b k)[i]? = some (if i < k then l.getD i 0 ^^^ b else l.getD i 0)
  | 0 => by simp [mixTo, List.getD, hi]
  | k + 1 => by
    rw [mixTo]
    by_cases e : k = i
    · subst e
      rw [List.getElem?_set_self (by rw [mixTo_length]; exact hi)]
      simp
    · rw [List.getElem?_set_ne e, mixTo_get l b i hi k]
      by_cases h : i < k
      · simp [h, show i < k + 1 by omega]
      · simp [h, show ¬ i < k + 1 by omega]
theorem mixTo_all (l : List UInt8) (b : UInt8) : mixTo l b l.length = mix l b := by
  apply List.ext_getElem?
  intro i
  by_cases hi : i < l.length
  · rw [mixTo_get l b i hi, mix, List.getElem?_map]
    simp [hi, List.getD]
  · rw [List.getElem?_eq_none (by rw [mixTo_length]; omega), List.getElem?_eq_none (by rw [mix_length]; omega)]
end Go.Proofs.YtomalanncdcopaaDoor.Seal
