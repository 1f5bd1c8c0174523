/- The equality of two hashes; a hash's bytes. -/
import Derived.Test.YtomalanncdcopaaDoorDigU
import Derived.Stop.BytesEq
set_option linter.unusedSimpArgs false
set_option linter.unusedVariables false
namespace Go.Proofs.YtomalanncdcopaaDoor.Dig
open Go Go.RowKit Go.Proofs.YtomalanncdcopaaDoor.Mem

theorem size_u8 (w : World) : (sizeOf 5).run Tryd.prog w = .ok 1 w := rfl
theorem eq_hash (w : World) (xs ys : List UInt8) (hx : xs.length = 32) (hy : ys.length = 32) :
    (Op.equalIn 10000 24 (.agg (cellsOf xs).toArray) (.agg (cellsOf ys).toArray)).run Tryd.prog w = .ok (xs == ys) w :=
  run_equalIn_bytes w 9998 24 5 32 Tryd.underlying24 Tryd.underlying5 size_u8 xs ys hx hy
theorem outs_get (h : List Word) : ∀ n k, k < n → n ≤ 32 → (outs h n)[k]? = some (outAt h k)
  | 0, k, hk, _ => by omega
  | n + 1, k, hk, hn => by
    rw [outs]
    by_cases e : n = k
    · subst e
      rw [List.getElem?_set_self (by rw [outs_length]; omega)]
    · rw [List.getElem?_set_ne e]
      exact outs_get h n k (by omega) (by omega)
end Go.Proofs.YtomalanncdcopaaDoor.Dig
